/- Functions of the library, from their contracts. -/
import Derived.Test.YtcbgfjghebopoaaDoorSU
import Derived.Below
import Derived.Lib.Join
namespace Go.Sh
open Go.RowKit
set_option linter.unusedSimpArgs false
set_option linter.unusedVariables false

theorem Core.below {F : Nat → Prop} {g : Gh} {H : List AObj} {os : List Rec} {w w' : World} (h : Core F g H os w) (hb : Below w.heap.size w w') : Ext g w g w' ∧ Step F g w g w' ∧ Core F g H os w' := by
  have ext : Ext g w g w' := ⟨fun b j hj => cell_of (hb.block b (h.lenlt b (by omega))) j, fun b hb' => tyOf_block (hb.block b (h.lenlt b hb')), bsz_old hb.block, fun _ => Nat.le_refl _, fun _ _ h => h⟩
  have hobj := ObjsR.move ext H g.obj h.heap (fun b hb' => hb.block b (h.heap.lt b hb'))
  refine ⟨ext, ⟨ext.cell, ext.ty, ext.bsz, ext.len, fun b hF => ⟨hb.block b (h.flt b hF), rfl⟩, hb.size, hb.os, hb.tape, hb.output⟩, hobj.1, fun r hr => ?_, fun b => ?_, fun b hF => ?_, h.objlen, fun b hl => Nat.lt_of_lt_of_le (h.lenlt b hl) hb.size, fun b hF => Nat.lt_of_lt_of_le (h.flt b hF) hb.size, h.good.step (fun _ h => h) fun b hF => hb.block b (h.flt b hF)⟩
  · rw [hobj.2] at hr
    have h1 := h.own r hr
    have h2 := h1.lt
    obtain ⟨o1, o2, arr, t, o3, o4⟩ := h1
    exact ⟨o1, o2, arr, t, o3.of_heap (hb.block _ h2), o4⟩
  · rw [hobj.2]; exact h.dist b
  · rw [hobj.2]; exact h.notF b hF

/-- As the next one, for functions that read packages' variables. -/
theorem fsound_belowG {P : Program} {f : FuncId} {sp : FSpec} (he : ∀ (args : Array Value) (w : World), (callFunc f args).run P w = .ok (.enter f args) w)
    (h : ∀ (args : List AV) (H : List AObj) (R : Type) (k : AV → List AObj → Option R) (r : R), sp args H R k = some r → ∃ v, k v H = some r ∧ ∀ (g : Gh) (w : World) (vs : List Value), (∃ bs : Array Obj, Good bs ∧ ∀ b, b < bs.size → w.heap[b]? = bs[b]?) → (∀ b, 0 < g.len b → b < w.heap.size) → VRs g w args vs →
      Calls P f vs.toArray w fun e w' => ∃ v', e = .returned v' ∧ owns v v' = [] ∧ (∀ (g : Gh) (w : World), VR g w v v') ∧ Below w.heap.size w w') : FSound P f sp := by
  refine ⟨he, fun args H R k r hr => ?_⟩
  obtain ⟨v, h1, h2⟩ := h args H R k r hr
  refine ⟨v, H, h1, fun F g vs w hvs hc => ?_⟩
  obtain ⟨bs, hb1, hb2⟩ := hc.good
  refine (h2 g w vs ⟨bs, hb1, fun b hb => (hb2 b hb).2⟩ hc.lenlt hvs).mono ?_
  rintro e w' ⟨v', rfl, h3, h4, hb⟩
  obtain ⟨k1, k2, k3⟩ := (hc.weaken (os' := owns v v') (fun r hr => by rw [h3] at hr; cases hr) (fun b => by rw [h3]; simp [oc_nil])).below hb
  exact ⟨v', g, rfl, h4 _ _, List.prefix_refl _, k3, k2⟩
/-- A function that hands back a plain value and leaves alone what was there. -/
theorem fsound_below {P : Program} {f : FuncId} {sp : FSpec} (he : ∀ (args : Array Value) (w : World), (callFunc f args).run P w = .ok (.enter f args) w)
    (h : ∀ (args : List AV) (H : List AObj) (R : Type) (k : AV → List AObj → Option R) (r : R), sp args H R k = some r → ∃ v, k v H = some r ∧ ∀ (g : Gh) (w : World) (vs : List Value), (∀ b, 0 < g.len b → b < w.heap.size) → VRs g w args vs →
      ∃ v', owns v v' = [] ∧ (∀ (g : Gh) (w : World), VR g w v v') ∧ Calls P f vs.toArray w fun e w' => e = .returned v' ∧ Below w.heap.size w w') : FSound P f sp := by
  refine ⟨he, fun args H R k r hr => ?_⟩
  obtain ⟨v, h1, h2⟩ := h args H R k r hr
  refine ⟨v, H, h1, fun F g vs w hvs hc => ?_⟩
  obtain ⟨v', h3, h4, h5⟩ := h2 g w vs hc.lenlt hvs
  refine h5.mono ?_
  rintro e w' ⟨rfl, hb⟩
  obtain ⟨_, k2, k3⟩ := (hc.weaken (os' := []) (fun r hr => by simp at hr) (fun b => by simp [oc_nil])).below hb
  exact ⟨v', g, rfl, h4 g w', List.prefix_refl _, by rw [h3]; exact k3, k2⟩

theorem vrs_nil {g : Gh} {w : World} {vs : List Value} (h : VRs g w [] vs) : vs = [] := by simpa only [VRs] using h
theorem vrs_cons {g : Gh} {w : World} {a : AV} {az : List AV} {vs : List Value} (h : VRs g w (a :: az) vs) : ∃ v us, vs = v :: us ∧ VR g w a v ∧ VRs g w az us := by simpa only [VRs] using h
theorem vr_str {g : Gh} {w : World} {l : Str} {v : Value} (h : VR g w (.str l) v) : ∃ s : ByteArray, v = .string s ∧ s.data.toList = l := by simpa only [VR] using h
theorem vr_int {g : Gh} {w : World} {k : IntKind} {n : Int} {v : Value} (h : VR g w (.int k n) v) : v = .int k n := by simpa only [VR] using h
theorem plain_str (s : Str) : owns (.str s) (.string ⟨s.toArray⟩) = [] ∧ ∀ (g : Gh) (w : World), VR g w (.str s) (.string ⟨s.toArray⟩) := ⟨rfl, fun g w => by simp only [VR]; exact ⟨_, rfl, by simp⟩⟩
theorem plain_int (k : IntKind) (n : Int) : owns (.int k n) (.int k n) = [] ∧ ∀ (g : Gh) (w : World), VR g w (.int k n) (.int k n) := ⟨rfl, fun g w => by simp only [VR]⟩
/-- A slice of strings, as a contract asks for it. -/
theorem vr_strs {g : Gh} {w : World} {own : Bool} {l : List Str} {v : Value} (h : VR g w (.strs own l) v) : ∃ ao c, v = .slice ao l.length c ∧ l.length ≤ c ∧ (l = [] ∨ ∃ bk o, ao = some ⟨bk, o, none⟩ ∧ 0 < g.len bk ∧ ∀ j x, (l.map fun s => (⟨s.toArray⟩ : ByteArray))[j]? = some x → w.cell? ⟨bk, o + j, none⟩ = some (.string x)) := by
  simp only [VR] at h
  obtain ⟨a, n, c, rfl, hrow⟩ := h
  have hn : n = l.length := by have := hrow.1; simp at this; exact this.symm
  subst hn
  refine ⟨a, c, rfl, hrow.2.1, ?_⟩
  by_cases h0 : l = []
  · exact .inl h0
  · right
    have hlen : 0 < l.length := List.length_pos_iff.2 h0
    obtain ⟨ad, rfl, hr⟩ := hrow.2.2.2.1 (by simpa using hlen)
    have h1 := hr.2.1
    simp only [List.length_map] at h1
    refine ⟨ad.block, ad.off, by rw [← addr_eq hr.1], by omega, fun j x hx => ?_⟩
    have hj : j < l.length := by have := (List.getElem?_eq_some_iff.1 hx).1; simpa using this
    rw [hr.2.2 j (by simpa using hj)]
    rw [List.getElem?_map] at hx ⊢
    rw [List.getElem?_eq_getElem hj] at hx ⊢
    simp only [Option.map_some] at hx ⊢
    injection hx with hx
    rw [← hx]

theorem Core.addObj {F : Nat → Prop} {g : Gh} {H : List AObj} {os : List Rec} {w : World} {gb : Nat} {ob : AObj} (h : Core F g H os w) (hfree : oc gb os + oc gb (ownsH w H g.obj) + (lives H g.obj).count gb = 0) (hF : ¬ F gb) (hl0 : g.len gb = 0) (hO : ownsO w gb ob = []) (hR : ObjR ⟨g.obj ++ [gb], g.len⟩ w gb ob) : Core F ⟨g.obj ++ [gb], g.len⟩ (H ++ [ob]) os w := by
  have ext : Ext g w ⟨g.obj ++ [gb], g.len⟩ w := ⟨fun _ _ _ => rfl, fun _ _ => rfl, fun _ => Nat.le_refl _, fun _ => Nat.le_refl _, fun i b hi => by
    simp only
    rw [List.getElem?_append_left (List.getElem?_eq_some_iff.1 hi).1]; exact hi⟩
  have hobj := ObjsR.move ext H g.obj h.heap (fun _ _ => rfl)
  have hH : ownsH w (H ++ [ob]) (g.obj ++ [gb]) = ownsH w H g.obj := by rw [ownsH_append (g := g) h.heap.length, hO, List.append_nil]
  refine ⟨hobj.1.append hR, fun r hr => ?_, fun b => ?_, fun b hb => ?_, fun b hb => ?_, h.lenlt, h.flt, h.good⟩
  · simp only at hr
    rw [hH] at hr
    exact h.own r hr
  · simp only
    rw [hH, lives_append h.heap.length, List.count_append]
    have := h.dist b
    have h9 := lives_one gb b ob
    by_cases e : gb = b
    · subst e; omega
    · have := h9.2 (Ne.symm e)
      omega
  · simp only
    rw [hH, lives_append h.heap.length, List.count_append]
    have := h.notF b hb
    have e : gb ≠ b := fun e => hF (e ▸ hb)
    have := (lives_one gb b ob).2 (Ne.symm e)
    omega
  · simp only at hb ⊢
    rw [lives_append h.heap.length] at hb
    rcases List.mem_append.1 hb with hb | hb
    · exact h.objlen b hb
    · have : b = gb := by
        revert hb
        cases ob.dead <;> simp
      subst this
      exact hl0
/-- An object that stands for no block, whatever number it has. -/
theorem Core.addDead {F : Nat → Prop} {g : Gh} {H : List AObj} {os : List Rec} {w : World} {ob : AObj} (h : Core F g H os w) (gb : Nat) (hd : ob.dead = true) : Core F ⟨g.obj ++ [gb], g.len⟩ (H ++ [ob]) os w := by
  have ext : Ext g w ⟨g.obj ++ [gb], g.len⟩ w := ⟨fun _ _ _ => rfl, fun _ _ => rfl, fun _ => Nat.le_refl _, fun _ => Nat.le_refl _, fun i b hi => by
    simp only
    rw [List.getElem?_append_left (List.getElem?_eq_some_iff.1 hi).1]; exact hi⟩
  have hobj := ObjsR.move ext H g.obj h.heap (fun _ _ => rfl)
  have hH : ownsH w (H ++ [ob]) (g.obj ++ [gb]) = ownsH w H g.obj := by rw [ownsH_append (g := g) h.heap.length, ownsO_dead hd, List.append_nil]
  have hL : lives (H ++ [ob]) (g.obj ++ [gb]) = lives H g.obj := by rw [lives_append h.heap.length, hd]; simp
  refine ⟨hobj.1.append (ObjR_dead hd), fun r hr => ?_, fun b => ?_, fun b hb => ?_, fun b hb => ?_, h.lenlt, h.flt, h.good⟩
  · simp only at hr
    rw [hH] at hr
    exact h.own r hr
  · simp only
    rw [hH, hL]; exact h.dist b
  · simp only
    rw [hH, hL]; exact h.notF b hb
  · simp only at hb ⊢
    rw [hL] at hb
    exact h.objlen b hb
/-- A block that came with a call, as an object. -/
theorem Core.newAt {F : Nat → Prop} {g : Gh} {H : List AObj} {os : List Rec} {w w' : World} {gb : Nat} {ob : AObj} (h : Core F g H os w) (hb : Below w.heap.size w w') (hge : w.heap.size ≤ gb) (hO : ownsO w' gb ob = []) (hR : ∀ g' : Gh, ObjR g' w' gb ob) : Step F g w ⟨g.obj ++ [gb], g.len⟩ w' ∧ Core F ⟨g.obj ++ [gb], g.len⟩ (H ++ [ob]) os w' := by
  obtain ⟨e1, e2, e3⟩ := h.below hb
  have hobj := (ObjsR.move e1 H g.obj h.heap (fun b hb' => hb.block b (h.heap.lt b hb'))).2
  refine ⟨⟨e2.cell, e2.ty, e2.bsz, e2.len, e2.frame, e2.size, e2.os, e2.tape, e2.output⟩, e3.addObj ?_ (fun hF => by have := h.flt gb hF; omega) ?_ hO (hR _)⟩
  · rw [hobj]
    have a1 : oc gb os = 0 := by
      rcases Nat.eq_zero_or_pos (oc gb os) with e | e
      · exact e
      · obtain ⟨r, hr, hr2⟩ := List.countP_pos_iff.1 e
        have := (h.own r (.inl hr)).lt
        simp at hr2
        omega
    have a2 : oc gb (ownsH w H g.obj) = 0 := by
      rcases Nat.eq_zero_or_pos (oc gb (ownsH w H g.obj)) with e | e
      · exact e
      · obtain ⟨r, hr, hr2⟩ := List.countP_pos_iff.1 e
        have := (h.own r (.inr hr)).lt
        simp at hr2
        omega
    have a3 : (lives H g.obj).count gb = 0 := List.count_eq_zero.2 (fun hm => by have := h.heap.lt _ hm; omega)
    omega
  · rcases Nat.eq_zero_or_pos (g.len gb) with e | e
    · exact e
    · have := h.lenlt gb e; omega

/-- slices.Clone of strings: none, or a row that may turn. -/
def cloneS_sp (t : TypeId) : FSpec := fun vs hs R K => match vs, hs with
  | [.strs _ a0], [] => cond a0.isEmpty (K (.strs false []) []) (cond (decide (a0.length * 16 ≤ 140737488355328)) (K (.mut 0 0 a0.length 1) [.rowS t a0]) none)
  | _, _ => none
theorem cloneS_sound {P : Program} {f : FuncId} {t : TypeId} (he : ∀ (args : Array Value) (w : World), (callFunc f args).run P w = .ok (.enter f args) w)
    (hnil : ∀ (n c : Nat) (w : World), Calls P f #[.slice none n c] w fun e w' => e = .returned (.slice none 0 0) ∧ w' = w)
    (hzero : ∀ (a : Addr) (c : Nat) (w : World), Calls P f #[.slice (some a) 0 c] w fun e w' => ∃ v', e = .returned v' ∧ w'.ownsRow w.heap.size t 1 v' 0 [] ∧ v' ≠ .slice none 0 0 ∧ Below w.heap.size w w')
    (hmany : ∀ (b off n c : Nat) (zs : List ByteArray) (w : World), n ≤ zs.length → n * 16 ≤ 140737488355328 → (∀ j, j < zs.length → w.cell? ⟨b, off + j, none⟩ = some (.string (zs.getD j ByteArray.empty))) →
      Calls P f #[.slice (some ⟨b, off, none⟩) n c] w fun e w' => ∃ v', e = .returned v' ∧ w'.ownsRow w.heap.size t 1 v' n ((zs.take n).map Value.string) ∧ v' ≠ .slice none 0 0 ∧ Below w.heap.size w w') : FSound P f (cloneS_sp t) := by
  refine ⟨he, fun args H R k r hr => ?_⟩
  unfold cloneS_sp at hr
  split at hr
  · rename_i own a0
    obtain ⟨h1, h2⟩ | ⟨h1, h2⟩ := cond_some hr
    · have ha : a0 = [] := List.isEmpty_iff.1 h1
      subst ha
      refine ⟨_, _, h2, fun F g vs w hvs hc => ?_⟩
      obtain ⟨v0, _, rfl, h3, hvs⟩ := vrs_cons hvs
      obtain rfl := vrs_nil hvs
      obtain ⟨ao, cp, rfl, _, _⟩ := vr_strs h3
      have row : ∀ (ao : Option Addr) (cp : Nat) (g : Gh) (w : World), (ao = none → cp = 0) → VR g w (.strs false []) (.slice ao 0 cp) := fun ao cp g w hcp => by
        simp only [VR]
        exact ⟨_, _, _, rfl, by simp, Nat.zero_le _, Nat.le_refl _, fun h => by simp at h, fun h => by simp at h, fun h => ⟨rfl, hcp h⟩, fun u hu => by simp at hu⟩
      have hc' := hc.weaken (os' := []) (fun r hr => by simp at hr) (fun b => by simp [oc_nil])
      cases ao with
      | none =>
        refine (hnil 0 cp w).mono ?_
        rintro e w' ⟨rfl, rfl⟩
        exact ⟨_, g, rfl, row none 0 g _ (fun _ => rfl), List.prefix_refl _, hc', Step.refl _ _ _⟩
      | some a =>
        refine (hzero a cp w).mono ?_
        rintro e w' ⟨v', rfl, hrow, hnn, hb⟩
        obtain ⟨_, n1, n2⟩ := hc'.below hb
        rcases hrow.2 with ⟨rfl, _⟩ | ⟨gb, cap, cur, rfl, _⟩
        · exact absurd rfl hnn
        · exact ⟨_, g, rfl, row _ cap g _ (fun h => by cases h), List.prefix_refl _, n2, n1⟩
    · obtain ⟨h3, h4⟩ | ⟨_, h4⟩ := cond_some h2
      case inr => exact absurd h4 (by simp)
      simp only [decide_eq_true_eq] at h3
      refine ⟨_, _, h4, fun F g vs w hvs hc => ?_⟩
      obtain ⟨v0, _, rfl, h5, hvs⟩ := vrs_cons hvs
      obtain rfl := vrs_nil hvs
      obtain ⟨ao, cp, rfl, _, h6⟩ := vr_strs h5
      have hne : a0 ≠ [] := fun e => by rw [e] at h1; simp at h1
      obtain ⟨bk, off, rfl, _, hcell⟩ := h6.resolve_left hne
      have hzl : (a0.map fun s => (⟨s.toArray⟩ : ByteArray)).length = a0.length := by simp
      refine (hmany bk off a0.length cp (a0.map fun s => (⟨s.toArray⟩ : ByteArray)) w (by rw [hzl]; exact Nat.le_refl _) h3 (fun j hj => hcell j _ (by
        rw [List.getD_eq_getElem?_getD, List.getElem?_eq_getElem hj]; rfl))).mono ?_
      rintro e w' ⟨v', rfl, hrow, hnn, hb⟩
      rw [← hzl, List.take_length, hzl] at hrow
      rcases hrow.2 with ⟨rfl, _⟩ | ⟨gb, cap, cur, rfl, hge, hg, hnc, _, _, htake⟩
      · exact absurd rfl hnn
      · have hc' := hc.weaken (os' := []) (fun r hr => by simp at hr) (fun b => by simp [oc_nil])
        have hg0 : g.obj = [] := by
          have := hc.heap
          simp only [ObjsR] at this
          exact this
        obtain ⟨n1, n2⟩ := hc'.newAt (ob := .rowS t a0) hb hge rfl (fun g' => by
          simp only [ObjR]
          refine ⟨cur, cur.toList.drop (a0.length * 1), hg, ?_⟩
          have : a0.map (fun s => Value.string ⟨s.toArray⟩) = (a0.map fun s => (⟨s.toArray⟩ : ByteArray)).map Value.string := by simp
          rw [this, ← htake, List.take_append_drop])
        refine ⟨_, ⟨g.obj ++ [gb], g.len⟩, rfl, ?_, ⟨_, rfl⟩, n2, n1⟩
        simp only [VR]
        exact ⟨_, gb, cap, rfl, fun _ => rfl, hnc, by rw [hg0]; rfl⟩
  · exact absurd hr (by simp)

/-- strings.Join of a row that may turn, or of one that stays. -/
def joinM_sp : FSpec := fun vs hs R K => match vs, hs with
  | [.mut 0 0 m 1, .str sep], [.rowS t xs] => cond (decide (m = xs.length) && decide (0 < xs.length) && decide (xs.length ≤ 140737488355328)) (cond (decide ((Lib.join xs sep).length ≤ 140737488355328)) (K (.str (Lib.join xs sep)) [.rowS t xs]) none) none
  | [.strs _ [], .str _], [] => K (.str []) []
  | [.strs _ xs, .str sep], [] => cond (decide (xs.length ≤ 140737488355328)) (cond (decide ((Lib.join xs sep).length ≤ 140737488355328)) (K (.str (Lib.join xs sep)) []) none) none
  | _, _ => none

theorem joinM_sound {P : Program} {f : FuncId} (he : ∀ (args : Array Value) (w : World), (callFunc f args).run P w = .ok (.enter f args) w)
    (hnone : ∀ (a : Option Addr) (c : Nat) (sep : ByteArray) (w : World), Calls P f #[.slice a 0 c, .string sep] w fun e w' => e = .returned (.string ⟨#[]⟩) ∧ w' = w)
    (hmany : ∀ (bk o c : Nat) (xs : List ByteArray) (sep : ByteArray) (w : World), (∀ (j : Nat) x, xs[j]? = some x → w.cell? ⟨bk, o + j, none⟩ = some (.string x)) → bk < w.heap.size → xs.length ≤ 140737488355328 → xs.length ≤ c → (Lib.join (xs.map (·.data.toList)) sep.data.toList).length ≤ 140737488355328 →
      Calls P f #[.slice (some ⟨bk, o, none⟩) xs.length c, .string sep] w fun e w' => e = .returned (.string ⟨(Lib.join (xs.map (·.data.toList)) sep.data.toList).toArray⟩) ∧ Below w.heap.size w w') : FSound P f joinM_sp := by
  have hmm : ∀ xs : List Str, (xs.map fun s => (⟨s.toArray⟩ : ByteArray)).map (·.data.toList) = xs := fun xs => by simp [Function.comp_def]
  refine ⟨he, fun args H R k r hr => ?_⟩
  unfold joinM_sp at hr
  split at hr
  · rename_i m sep t xs
    obtain ⟨h1, h2⟩ | ⟨_, h2⟩ := cond_some hr
    case inr => exact absurd h2 (by simp)
    obtain ⟨h3, h4⟩ | ⟨_, h4⟩ := cond_some h2
    case inr => exact absurd h4 (by simp)
    simp only [Bool.and_eq_true, decide_eq_true_eq] at h1 h3
    obtain ⟨⟨rfl, hpos⟩, hle⟩ := h1
    refine ⟨_, _, h4, fun F g vs w hvs hc => ?_⟩
    obtain ⟨v0, _, rfl, h5, hvs⟩ := vrs_cons hvs
    obtain ⟨v1, _, rfl, h6, hvs⟩ := vrs_cons hvs
    obtain rfl := vrs_nil hvs
    obtain ⟨s, rfl, rfl⟩ := vr_str h6
    simp only [VR] at h5
    obtain ⟨ao, b, cp, rfl, hao, hcp, hb⟩ := h5
    obtain rfl := hao hpos
    have hobj := getObj_ok hc.heap 0 b _ rfl hb
    simp only [ObjR] at hobj
    obtain ⟨arr, rest, hw, harr⟩ := hobj
    have hlen : (xs.map fun s => (⟨s.toArray⟩ : ByteArray)).length = xs.length := by simp
    have hcall := hmany b 0 cp (xs.map fun s => (⟨s.toArray⟩ : ByteArray)) s w (fun j x hx => by
      have hj : j < xs.length := by have := (List.getElem?_eq_some_iff.1 hx).1; simpa using this
      have : arr.toList[j]? = some (.string x) := by
        rw [harr, List.getElem?_append_left (by simpa using hj)]
        rw [List.getElem?_map] at hx ⊢
        rw [List.getElem?_eq_getElem hj] at hx ⊢
        simp only [Option.map_some] at hx ⊢
        injection hx with hx
        rw [← hx]
      simpa [World.cell?, hw] using this) (Array.getElem?_eq_some_iff.1 hw).1 (by rw [hlen]; exact hle) (by rw [hlen]; exact hcp) (by rw [hmm]; exact h3)
    rw [hlen, hmm] at hcall
    refine hcall.mono ?_
    rintro e w' ⟨rfl, hbl⟩
    obtain ⟨_, n1, n2⟩ := (hc.weaken (os' := []) (fun r hr => by simp at hr) (fun b => by simp [oc_nil])).below hbl
    exact ⟨_, g, rfl, (plain_str _).2 _ _, List.prefix_refl _, n2, n1⟩
  · rename_i own sep
    refine ⟨_, _, hr, fun F g vs w hvs hc => ?_⟩
    obtain ⟨v0, _, rfl, h5, hvs⟩ := vrs_cons hvs
    obtain ⟨v1, _, rfl, h6, hvs⟩ := vrs_cons hvs
    obtain rfl := vrs_nil hvs
    obtain ⟨s, rfl, rfl⟩ := vr_str h6
    obtain ⟨ao, cp, rfl, _, _⟩ := vr_strs h5
    refine (hnone ao cp s w).mono ?_
    rintro e w' ⟨rfl, rfl⟩
    exact ⟨_, g, rfl, by simp only [VR]; exact ⟨_, rfl, rfl⟩, List.prefix_refl _, hc.weaken (fun r hr => by simp [owns] at hr) (fun b => by simp [owns, oc_nil]), Step.refl _ _ _⟩
  · rename_i own xs sep hne
    obtain ⟨h1, h2⟩ | ⟨_, h2⟩ := cond_some hr
    case inr => exact absurd h2 (by simp)
    obtain ⟨h3, h4⟩ | ⟨_, h4⟩ := cond_some h2
    case inr => exact absurd h4 (by simp)
    simp only [decide_eq_true_eq] at h1 h3
    refine ⟨_, _, h4, fun F g vs w hvs hc => ?_⟩
    obtain ⟨v0, _, rfl, h5, hvs⟩ := vrs_cons hvs
    obtain ⟨v1, _, rfl, h6, hvs⟩ := vrs_cons hvs
    obtain rfl := vrs_nil hvs
    obtain ⟨s, rfl, rfl⟩ := vr_str h6
    obtain ⟨ao, cp, rfl, hcp, h7⟩ := vr_strs h5
    have hlen : (xs.map fun s => (⟨s.toArray⟩ : ByteArray)).length = xs.length := by simp
    rcases h7 with rfl | ⟨bk, off, rfl, hgl, hcell⟩
    · refine (hnone ao cp s w).mono ?_
      rintro e w' ⟨rfl, rfl⟩
      exact ⟨_, g, rfl, by simp only [VR]; exact ⟨_, rfl, rfl⟩, List.prefix_refl _, hc.weaken (fun r hr => by simp [owns] at hr) (fun b => by simp [owns, oc_nil]), Step.refl _ _ _⟩
    · have hcall := hmany bk off cp (xs.map fun s => (⟨s.toArray⟩ : ByteArray)) s w hcell (hc.lenlt bk hgl) (by rw [hlen]; exact h1) (by rw [hlen]; exact hcp) (by rw [hmm]; exact h3)
      rw [hlen, hmm] at hcall
      refine hcall.mono ?_
      rintro e w' ⟨rfl, hbl⟩
      obtain ⟨_, n1, n2⟩ := (hc.weaken (os' := []) (fun r hr => by simp at hr) (fun b => by simp [oc_nil])).below hbl
      exact ⟨_, g, rfl, (plain_str _).2 _ _, List.prefix_refl _, n2, n1⟩
  · exact absurd hr (by simp)
/-- Join, of a row that is not known to be empty or not. -/
def joinW_sp : FSpec := fun vs hs R K => match vs, hs with
  | [.mut 0 0 m 1, .str sep], [.rowS t xs] => cond (decide (m = xs.length) && decide (0 < xs.length) && decide (xs.length ≤ 140737488355328)) (cond (decide ((Lib.join xs sep).length ≤ 140737488355328)) (K (.str (Lib.join xs sep)) [.rowS t xs]) none) none
  | [.strs _ xs, .str sep], [] => cond (decide (xs.length ≤ 140737488355328)) (cond (decide ((Lib.join xs sep).length ≤ 140737488355328)) (K (.str (Lib.join xs sep)) []) none) none
  | _, _ => none
theorem joinW_sound {P : Program} {f : FuncId} (h : FSound P f joinM_sp) : FSound P f joinW_sp := by
  refine ⟨h.1, fun args H R k r hr => h.2 args H R k r ?_⟩
  unfold joinW_sp at hr
  split at hr
  · exact hr
  · rename_i xs sep
    cases xs with
    | nil => exact hr
    | cons x xs => exact hr
  · cases hr
end Go.Sh

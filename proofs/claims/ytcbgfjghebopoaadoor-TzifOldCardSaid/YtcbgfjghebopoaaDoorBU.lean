/- strings.Builder. -/
import Derived.Test.YtcbgfjghebopoaaDoorSZ
import Derived.Test.YtcbgfjghebopoaaDoorS1
import Derived.Shelf.Strings.Builder1
namespace Go.Sh
open Go.RowKit Go.Proofs Go.Shelf
set_option linter.unusedSimpArgs false
set_option linter.unusedVariables false

theorem vr_ptr {g : Gh} {w : World} {id off : Nat} {v : Value} (h : VR g w (.ptr (some (id, off))) v) : ∃ b, v = .pointer (some ⟨b, off, none⟩) ∧ g.obj[id]? = some b := by simpa only [VR] using h
theorem objsR_one {g : Gh} {w : World} {o : AObj} {bs : List Nat} (h : ObjsR g w [o] bs) : ∃ b, bs = [b] ∧ ObjR g w b o := by
  simp only [ObjsR] at h
  obtain ⟨b, cs, rfl, h1, h2⟩ := h
  subst h2
  exact ⟨b, rfl, h1⟩
theorem two_of {arr : Array Value} {a b : Value} (h : arr.toList = [a, b]) : arr = #[a, b] := by
  apply Array.ext'
  simpa using h

theorem owns_ptr (p : Option (Nat × Nat)) (x : Value) : owns (.ptr p) x = [] := by cases x <;> rfl
theorem ownsL_ptr2 (p : Option (Nat × Nat)) (B : AV) (x y : Value) : ownsL [.ptr p, B] [x, y] = owns B y := by
  show owns (.ptr p) x ++ (owns B y ++ []) = owns B y
  rw [owns_ptr, List.append_nil, List.nil_append]
theorem ownsL_ptr1 (p : Option (Nat × Nat)) (x : Value) : ownsL [.ptr p] [x] = [] := by
  show owns (.ptr p) x ++ [] = []
  rw [owns_ptr]; rfl
/-! ### writing -/
/-- A writing method's shadow. -/
def buf_sp (t : TypeId) (q : List AV → List Int → (R : Type) → (AV → List Int → Option R) → Option R) : FSpec := fun vs hs R K => match vs, hs with
  | .ptr (some (0, 0)) :: ws, [.buf 0 t' l] => cond (Nat.beq t' t) (q ws l R fun v l' => K v [.buf 0 t l']) none
  | _, _ => none
theorem setCell_heap {w : World} {b j : Nat} {arr : Array Value} {t : TypeId} {f : Nat × Nat} (v : Value) (hw : w.heap[b]? = some (.cells arr t f)) : (w.setCell ⟨b, j, none⟩ v).heap[b]? = some (.cells (arr.setIfInBounds j v) t f) := by
  simp [World.setCell, Array.getElem?_modify, hw]
theorem setCell_other {w : World} {b j k : Nat} (v : Value) (h : k ≠ b) : (w.setCell ⟨b, j, none⟩ v).heap[k]? = w.heap[k]? := by
  simp [World.setCell, Array.getElem?_modify, Ne.symm h]
/-- The builder behind copyCheck, its row in hand. -/
theorem buf_open {F : Nat → Prop} {g : Gh} {os : List Rec} {w : World} {t : TypeId} {l : List Int} (h : Core F g [.buf 0 t l] os w) : ∃ b x ao cp, g.obj = [b] ∧ w.heap[b]? = some (.cells #[x, .slice ao l.length cp] t (0, 0)) ∧ (x = .pointer none ∨ x = .pointer (some ⟨b, 0, none⟩)) ∧ (l = [] → ao = none) ∧
    ∀ w1 : World, (w1 = w.setCell ⟨b, 0, none⟩ (.pointer (some ⟨b, 0, none⟩)) ∨ (w1 = w ∧ x = .pointer (some ⟨b, 0, none⟩))) → w1.heap[b]? = some (.cells #[.pointer (some ⟨b, 0, none⟩), .slice ao l.length cp] t (0, 0)) ∧
      Row g w1 true ao l.length cp 1 (l.map (Value.int .u8)) ∧ Core F g [.cells t [.ptr (some (0, 0)), .ints false .u8 l]] (recs ao (l.length * 1) (cp * 1) ++ os) w1 ∧ Step F g w g w1 ∧ ∀ ad, ao = some ad → ad.block ≠ b ∧ (l ≠ [] → tyOf w1 ad.block = some byteT) := by
  obtain ⟨b, hb, hob⟩ := objsR_one h.heap
  simp only [ObjR] at hob
  obtain ⟨x, u, hw, hx, hu, hnil, hty⟩ := hob
  have hu' := hu
  simp only [VR] at hu
  obtain ⟨ao, n, cp, rfl, hrow⟩ := hu
  have hn : n = l.length := by have := hrow.1; simp at this; omega
  subst hn
  have hown : owns (.ints true .u8 l) (.slice ao l.length cp) = recs ao (l.length * 1) (cp * 1) := by cases ao <;> simp [owns, recs]
  have hO : ownsO w b (.buf 0 t l) = recs ao (l.length * 1) (cp * 1) := by
    rw [← hown]
    simp only [ownsO, hw]; rfl
  have hne : ∀ ad, ao = some ad → ad.block ≠ b := fun ad he e => by
    have h2 := h.dist b
    rw [hb] at h2
    have h3 : ownsH w [.buf 0 t l] [b] = recs ao (l.length * 1) (cp * 1) := by
      show ownsO w b _ ++ [] = _
      rw [hO, List.append_nil]
    rw [h3, he, ← e] at h2
    simp [recs, oc, lives, AObj.dead] at h2
  refine ⟨b, x, ao, cp, hb, hw, hx, fun hl => by have := hnil hl; injection this, fun w1 hw1 => ?_⟩
  have hbl := (Array.getElem?_eq_some_iff.1 hw).1
  have hw1b : w1.heap[b]? = some (.cells #[.pointer (some ⟨b, 0, none⟩), .slice ao l.length cp] t (0, 0)) := by
    rcases hw1 with rfl | ⟨rfl, rfl⟩
    · rw [setCell_heap _ hw]; rfl
    · exact hw
  have hoth : ∀ k, k ≠ b → w1.heap[k]? = w.heap[k]? := fun k hk => by
    rcases hw1 with rfl | ⟨rfl, rfl⟩
    · exact setCell_other _ hk
    · rfl
  have hmeta : w1.heap.size = w.heap.size ∧ w1.os = w.os ∧ w1.tape = w.tape ∧ w1.output = w.output := by
    rcases hw1 with rfl | ⟨rfl, rfl⟩
    · exact ⟨by simp [World.setCell], rfl, rfl, rfl⟩
    · exact ⟨rfl, rfl, rfl, rfl⟩
  obtain ⟨e1, e2, e3⟩ := h.setObjG (id := 0) (ob := .buf 0 t l) (ob' := .cells t [.ptr (some (0, 0)), .ints false .u8 l]) (os0 := recs ao (l.length * 1) (cp * 1)) (os1 := []) (os' := recs ao (l.length * 1) (cp * 1) ++ os) rfl (by rw [hb]; rfl) rfl hoth (by rw [bsz_cells hw, bsz_cells hw1b]; exact Nat.le_refl _) hmeta.1 hmeta.2.1 hmeta.2.2.1 hmeta.2.2.2 hO (by
      simp only [ownsO, hw1b]
      rw [ownsL_ptr2]
      exact owns_disown (.ints true .u8 l) _) (fun ext => by
      simp only [ObjR]
      refine ⟨_, hw1b, ?_⟩
      simp only [VRs]
      exact ⟨_, _, rfl, by simp only [VR]; exact ⟨b, rfl, by rw [hb]; rfl⟩, _, _, rfl, VR.disown (.ints true .u8 l) _ (VR.ext ext _ _ hu'), rfl⟩) (fun x => by simp only [oc_append, oc_nil]; omega) (fun r hr => by
      rcases hr with hr | hr
      · rcases List.mem_append.1 hr with hr | hr
        · exact .inr hr
        · exact .inl hr
      · simp at hr)
  refine ⟨hw1b, hrow.ext e1, e3, e2, fun ad he => ⟨hne ad he, fun hl => ?_⟩⟩
  rw [tyOf_block (hoth _ (hne ad he))]
  exact hty ad _ _ (by rw [he]) hl
/-- The row is put back. -/
theorem buf_close {F : Nat → Prop} {g : Gh} {os : List Rec} {w : World} {t : TypeId} {l l' : List Int} {b cp : Nat} {ao : Option Addr} {old : Value} (h : Core F g [.cells t [.ptr (some (0, 0)), .ints false .u8 l]] (recs ao (l'.length * 1) (cp * 1) ++ os) w) (hb : g.obj = [b]) (hw : w.heap[b]? = some (.cells #[.pointer (some ⟨b, 0, none⟩), old] t (0, 0)))
    (hrow : Row g w true ao l'.length cp 1 (l'.map (Value.int .u8))) (hnil : l' = [] → ao = none ∧ cp = 0) (hty : ∀ ad, ao = some ad → ad.block ≠ b ∧ (l' ≠ [] → tyOf w ad.block = some byteT)) : Core F g [.buf 0 t l'] os (w.setCell ⟨b, 1, none⟩ (.slice ao l'.length cp)) ∧ Step F g w g (w.setCell ⟨b, 1, none⟩ (.slice ao l'.length cp)) := by
  have hw1 : (w.setCell ⟨b, 1, none⟩ (.slice ao l'.length cp)).heap[b]? = some (.cells #[.pointer (some ⟨b, 0, none⟩), .slice ao l'.length cp] t (0, 0)) := by
    rw [setCell_heap _ hw]; rfl
  have hown : owns (.ints true .u8 l') (.slice ao l'.length cp) = recs ao (l'.length * 1) (cp * 1) := by cases ao <;> simp [owns, recs]
  have hO1 : ownsO w b (.cells t [.ptr (some (0, 0)), .ints false .u8 l]) = [] := by
    simp only [ownsO, hw]
    rw [ownsL_ptr2]
    exact owns_disown (.ints true .u8 l) _
  obtain ⟨e1, e2, e3⟩ := h.setObjG (id := 0) (ob' := .buf 0 t l') (os0 := []) (os1 := recs ao (l'.length * 1) (cp * 1)) (os' := os) (w' := w.setCell ⟨b, 1, none⟩ (.slice ao l'.length cp)) rfl (by rw [hb]; rfl) rfl (fun k hk => setCell_other _ hk) (by rw [bsz_cells hw, bsz_cells hw1]; exact Nat.le_refl _) (by simp [World.setCell]) rfl rfl rfl hO1 (by
      rw [← hown]; simp only [ownsO, hw1]; rfl) (fun ext => by
      simp only [ObjR]
      refine ⟨_, _, hw1, .inr rfl, by simp only [VR]; exact ⟨_, _, _, rfl, hrow.ext ext⟩, fun hl => ?_, fun a n c he hl => ?_⟩
      · obtain ⟨rfl, rfl⟩ := hnil hl
        rw [hl]; rfl
      · injection he with he _ _
        obtain ⟨h1, h2⟩ := hty a he
        rw [tyOf_block (setCell_other _ h1)]
        exact h2 hl) (fun x => by simp only [oc_append, oc_nil]; omega) (fun r hr => by
      rcases hr with hr | hr
      · exact .inl (List.mem_append_right _ hr)
      · exact .inl (List.mem_append_left _ hr))
  exact ⟨e3, e2⟩
theorem recs_own {ao : Option Addr} {F : Nat → Prop} {g : Gh} {H : List AObj} {os : List Rec} {w : World} {k c : Nat} {b : Nat} (h : Core F g H (recs ao k c ++ os) w) (hb : b ∈ lives H g.obj) : ∀ ad, ao = some ad → ad.block ≠ b := fun ad he e => by
  have h2 := h.dist b
  have h3 := List.count_pos_iff.2 hb
  have h4 : 0 < oc b (recs ao k c) := by
    rw [he, ← e]
    exact oc_mem (r := (ad.block, k, c)) (by simp [recs])
  rw [oc_append] at h2
  omega

/-- More bytes, appended in the world behind copyCheck (and behind what may be laid for them). -/
theorem buf_more {P : Program} {ts u : TypeId} {du : TypeDesc} {F : Nat → Prop} {g : Gh} {w1 : World} {t : TypeId} {l m : List Int} {b cp : Nat} {ao : Option Addr} {x : Value} (hts : P.underlying ts = some (.slice byteT)) (hu : P.underlying u = some du) (hdu : du = .string ∨ ∃ e', du = .slice e') (hi : (P.info? byteT).map (fun i => (i.zero, i.size, i.bytes)) = some (some (.int .u8 0), 1, 1))
    (hb : g.obj = [b]) (k1 : w1.heap[b]? = some (.cells #[.pointer (some ⟨b, 0, none⟩), .slice ao l.length cp] t (0, 0))) (k2 : Row g w1 true ao l.length cp 1 (l.map (Value.int .u8))) (k3 : Core F g [.cells t [.ptr (some (0, 0)), .ints false .u8 l]] (recs ao (l.length * 1) (cp * 1) ++ []) w1)
    (k5 : ∀ ad, ao = some ad → ad.block ≠ b ∧ (l ≠ [] → tyOf w1 ad.block = some byteT)) (k0 : l = [] → ao = none) (hsrc : Src P w1 1 x m.length (m.map (Value.int .u8))) (hr : (l.length + m.length) * 1 ≤ 140737488355328) :
    ∃ ao' n' c' w2 g', (Builtin.append_ #[ts, u] ts #[.slice ao l.length cp, x]).run P w1 = .ok (.slice ao' n' c') w2 ∧ w2.heap[b]? = some (.cells #[.pointer (some ⟨b, 0, none⟩), .slice ao l.length cp] t (0, 0)) ∧ g'.obj = g.obj ∧ Core F g' [.buf 0 t (l ++ m)] [] (w2.setCell ⟨b, 1, none⟩ (.slice ao' n' c')) ∧ Step F g w1 g' (w2.setCell ⟨b, 1, none⟩ (.slice ao' n' c')) := by
  obtain ⟨i, hi1, hi2⟩ := Option.map_eq_some_iff.1 hi
  simp only [Prod.mk.injEq] at hi2
  obtain ⟨i1, i2, i3⟩ := hi2
  obtain ⟨ao', cp', g', w2, a1, a2, a3, a4, a5, a6, a7, a8, a9, _⟩ := append_core (ty := ts) hts hu hdu hi1 i1 i2 i3 rfl (by omega) (by omega) k3 k2 hsrc hr
  have hbl : b < w1.heap.size := (Array.getElem?_eq_some_iff.1 k1).1
  have hw2 : w2.heap[b]? = some (.cells #[.pointer (some ⟨b, 0, none⟩), .slice ao l.length cp] t (0, 0)) := by
    rw [a8 b hbl (fun ad he e => (k5 ad he).1 e.symm)]; exact k1
  have hlen : l.length + m.length = (l ++ m).length := by simp
  have hobj : g'.obj = [b] := by rw [a5]; exact hb
  rw [hlen, ← List.map_append] at a2
  rw [hlen] at a1 a6
  obtain ⟨z1, z2⟩ := buf_close a6 hobj hw2 a2 (fun hl => by
    obtain ⟨rfl, rfl⟩ := List.append_eq_nil_iff.1 hl
    exact a9 (k0 rfl) rfl) (fun ad he => ⟨recs_own a6 (by rw [hobj]; simp [lives, AObj.dead]) ad he, fun hl => by
    rcases a7 ad he with h7 | ⟨ad0, h7, h8⟩
    · exact h7
    · rw [h8]
      exact (k5 ad0 h7).2 (fun h0 => by rw [k0 h0] at h7; cases h7)⟩)
  exact ⟨_, _, _, w2, g', a1, hw2, a5, z1, a4.trans z2⟩

/-- What the walks of the writing methods are asked for. -/
structure WritesS (P : Program) (f : FuncId) (t ts tx : TypeId) : Prop where
  enters : ∀ (args : Array Value) (w : World), (callFunc f args).run P w = .ok (.enter f args) w
  slice : P.underlying ts = some (.slice byteT)
  str : P.underlying tx = some .string
  info : (P.info? byteT).map (fun i => (i.zero, i.size, i.bytes)) = some (some (.int .u8 0), 1, 1)
  walk : ∀ (b : Nat) (x : Value) (ao ao' : Option Addr) (n n' c c' : Nat) (s : ByteArray) (w w1 w2 : World), w.heap[b]? = some (.cells #[x, .slice ao n c] t (0, 0)) → (w1 = w.setCell ⟨b, 0, none⟩ (.pointer (some ⟨b, 0, none⟩)) ∧ x = .pointer none ∨ w1 = w ∧ x = .pointer (some ⟨b, 0, none⟩)) → w1.heap[b]? = some (.cells #[.pointer (some ⟨b, 0, none⟩), .slice ao n c] t (0, 0)) →
    (Builtin.append_ #[ts, tx] ts #[.slice ao n c, .string s]).run P w1 = .ok (.slice ao' n' c') w2 → w2.heap[b]? = some (.cells #[.pointer (some ⟨b, 0, none⟩), .slice ao n c] t (0, 0)) →
    Calls P f #[.pointer (some ⟨b, 0, none⟩), .string s] w fun e w' => e = .returned (.tuple #[.int .i64 s.size, .nilIface]) ∧ w' = w2.setCell ⟨b, 1, none⟩ (.slice ao' n' c')
/-- The one byte's row. -/
def byteRow (c : Int) : Obj := .cells #[.int .u8 c] byteT (0, 0)
structure WritesB (P : Program) (f : FuncId) (t ts : TypeId) : Prop where
  enters : ∀ (args : Array Value) (w : World), (callFunc f args).run P w = .ok (.enter f args) w
  slice : P.underlying ts = some (.slice byteT)
  info : (P.info? byteT).map (fun i => (i.zero, i.size, i.bytes)) = some (some (.int .u8 0), 1, 1)
  walk : ∀ (b : Nat) (x : Value) (ao ao' : Option Addr) (n n' c c' : Nat) (y : Int) (w w1 w2 : World), w.heap[b]? = some (.cells #[x, .slice ao n c] t (0, 0)) → (w1 = w.setCell ⟨b, 0, none⟩ (.pointer (some ⟨b, 0, none⟩)) ∧ x = .pointer none ∨ w1 = w ∧ x = .pointer (some ⟨b, 0, none⟩)) → w1.heap[b]? = some (.cells #[.pointer (some ⟨b, 0, none⟩), .slice ao n c] t (0, 0)) →
    (Builtin.append_ #[ts, ts] ts #[.slice ao n c, .slice (some ⟨w1.heap.size, 0, none⟩) 1 1]).run P (w1.alloc (byteRow y)) = .ok (.slice ao' n' c') w2 → w2.heap[b]? = some (.cells #[.pointer (some ⟨b, 0, none⟩), .slice ao n c] t (0, 0)) →
    Calls P f #[.pointer (some ⟨b, 0, none⟩), .int .u8 y] w fun e w' => e = .returned .nilIface ∧ w' = w2.setCell ⟨b, 1, none⟩ (.slice ao' n' c')

theorem world1 {w : World} {b : Nat} {x : Value} (hx : x = .pointer none ∨ x = .pointer (some ⟨b, 0, none⟩)) : ∃ w1, (w1 = w.setCell ⟨b, 0, none⟩ (.pointer (some ⟨b, 0, none⟩)) ∧ x = .pointer none ∨ w1 = w ∧ x = .pointer (some ⟨b, 0, none⟩)) := by
  rcases hx with h | h
  · exact ⟨_, .inl ⟨rfl, h⟩⟩
  · exact ⟨_, .inr ⟨rfl, h⟩⟩
def writeString_q : List AV → List Int → (R : Type) → (AV → List Int → Option R) → Option R := fun ws l R k => match ws with
  | [.str s] => cond (decide ((l.length + s.length) * 1 ≤ 140737488355328)) (k (.tuple [.int .i64 (s.length : Int), .nilIface]) (l ++ intsOf s)) none
  | _ => none
theorem writeString_sound {P : Program} {f : FuncId} {t ts tx : TypeId} (hW : WritesS P f t ts tx) : FSound P f (buf_sp t writeString_q) := by
  refine ⟨hW.enters, fun args H R k r h => ?_⟩
  unfold buf_sp at h
  split at h
  case h_2 => cases h
  rename_i ws t' l
  obtain ⟨ht, h⟩ | ⟨_, h⟩ := cond_some h
  case inr => cases h
  have ht := Nat.eq_of_beq_eq_true ht
  subst ht
  unfold writeString_q at h
  split at h
  case h_2 => cases h
  rename_i s _
  obtain ⟨hr, hk⟩ | ⟨_, hk⟩ := cond_some h
  case inr => cases hk
  simp only [decide_eq_true_eq] at hr
  refine ⟨_, _, hk, fun F g vs w hv hc => ?_⟩
  obtain ⟨v0, _, rfl, hv0, hv⟩ := vrs_cons hv
  obtain ⟨v1, _, rfl, hv1, hv⟩ := vrs_cons hv
  obtain rfl := vrs_nil hv
  obtain ⟨b, rfl, hb⟩ := vr_ptr hv0
  obtain ⟨s, rfl, rfl⟩ := vr_str hv1
  have hc' : Core F g [.buf 0 t' l] [] w := hc.weaken (fun r hr => by simp at hr) (fun b => by rw [oc_nil]; omega)
  obtain ⟨b', x, ao, cp, hb', hw, hx, k0, hop⟩ := buf_open hc'
  rw [hb'] at hb
  simp only [List.getElem?_cons_zero, Option.some.injEq] at hb
  have hb := hb.symm
  subst hb
  obtain ⟨w1, hw1⟩ := world1 (w := w) hx
  obtain ⟨k1, k2, k3, k4, k5⟩ := hop w1 (hw1.imp (fun h => h.1) id)
  have hsz : s.size = s.data.toList.length := by simp
  have hsrc : Src P w1 1 (.string s) (intsOf s.data.toList).length ((intsOf s.data.toList).map (Value.int .u8)) := by
    rw [← strCells_eq, show (intsOf s.data.toList).length = s.size by simp [intsOf]]
    exact src_string w1 s
  obtain ⟨ao', n', c', w2, g', a1, a2, a3, a4, a5⟩ := buf_more hW.slice hW.str (.inl rfl) hW.info hb' k1 k2 k3 k5 k0 hsrc (by simpa [intsOf] using hr)
  refine (hW.walk b x _ _ _ _ _ _ s w w1 w2 hw hw1 k1 a1 a2).mono ?_
  rintro e w' ⟨rfl, rfl⟩
  have h0 : owns (.tuple [.int .i64 (s.data.toList.length : Int), .nilIface]) (.tuple #[.int .i64 (s.size : Int), .nilIface]) = [] := rfl
  refine ⟨_, g', rfl, ?_, by rw [a3]; exact List.prefix_refl _, by rw [h0]; exact a4, k4.trans a5⟩
  simp only [VR, VRs]
  exact ⟨_, rfl, _, _, rfl, by rw [hsz], _, _, rfl, rfl, rfl⟩

def writeByte_q : List AV → List Int → (R : Type) → (AV → List Int → Option R) → Option R := fun ws l R k => match ws with
  | [.int .u8 c] => cond (decide ((l.length + 1) * 1 ≤ 140737488355328)) (k .nilIface (l ++ [c])) none
  | _ => none
theorem writeByte_sound {P : Program} {f : FuncId} {t ts : TypeId} (hW : WritesB P f t ts) : FSound P f (buf_sp t writeByte_q) := by
  refine ⟨hW.enters, fun args H R k r h => ?_⟩
  unfold buf_sp at h
  split at h
  case h_2 => cases h
  rename_i ws t' l
  obtain ⟨ht, h⟩ | ⟨_, h⟩ := cond_some h
  case inr => cases h
  have ht := Nat.eq_of_beq_eq_true ht
  subst ht
  unfold writeByte_q at h
  split at h
  case h_2 => cases h
  rename_i c _
  obtain ⟨hr, hk⟩ | ⟨_, hk⟩ := cond_some h
  case inr => cases hk
  simp only [decide_eq_true_eq] at hr
  refine ⟨_, _, hk, fun F g vs w hv hc => ?_⟩
  obtain ⟨v0, _, rfl, hv0, hv⟩ := vrs_cons hv
  obtain ⟨v1, _, rfl, hv1, hv⟩ := vrs_cons hv
  obtain rfl := vrs_nil hv
  obtain ⟨b, rfl, hb⟩ := vr_ptr hv0
  obtain rfl := vr_int hv1
  have hc' : Core F g [.buf 0 t' l] [] w := hc.weaken (fun r hr => by simp at hr) (fun b => by rw [oc_nil]; omega)
  obtain ⟨b', x, ao, cp, hb', hw, hx, k0, hop⟩ := buf_open hc'
  rw [hb'] at hb
  simp only [List.getElem?_cons_zero, Option.some.injEq] at hb
  have hb := hb.symm
  subst hb
  obtain ⟨w1, hw1⟩ := world1 (w := w) hx
  obtain ⟨k1, k2, k3, k4, k5⟩ := hop w1 (hw1.imp (fun h => h.1) id)
  -- the one byte's row
  have hbel : Below w1.heap.size w1 (w1.alloc (byteRow c)) := ⟨rfl, rfl, rfl, by rw [World.size_alloc]; omega, fun k hk => _root_.Go.heap_alloc_old w1 _ hk⟩
  obtain ⟨e1, e2, e3⟩ := k3.below hbel
  have hbl : b < w1.heap.size := (Array.getElem?_eq_some_iff.1 k1).1
  have hnew := _root_.Go.heap_alloc_new w1 (byteRow c)
  have hcell : ∀ W : World, (∀ a, W.cell? a = (w1.alloc (byteRow c)).cell? a) → (Builtin.firstCells 1 1 (.slice (some ⟨w1.heap.size, 0, none⟩) 1 1)).run P W = .ok #[.int .u8 c] W := fun W hW' =>
    run_firstCells_some W 1 1 ⟨w1.heap.size, 0, none⟩ 1 1 [.int .u8 c] rfl (fun j v hj => by
      cases j with
      | zero =>
        simp only [List.getElem?_cons_zero, Option.some.injEq] at hj
        subst hj
        rw [hW', add_eq _ rfl]
        simp only [Nat.add_zero]
        unfold World.cell?
        rw [hnew]
        rfl
      | succ j => simp at hj)
  have hsrc : Src P (w1.alloc (byteRow c)) 1 (.slice (some ⟨w1.heap.size, 0, none⟩) 1 1) [c].length ([c].map (Value.int .u8)) :=
    ⟨by simp [Builtin.lenOf], hcell _ (fun _ => rfl), hcell _ (fun _ => rfl), rfl, fun u hu => by simp at hu; subst hu; rfl⟩
  obtain ⟨ao', n', c', w2, g', a1, a2, a3, a4, a5⟩ := buf_more hW.slice hW.slice (.inr ⟨_, rfl⟩) hW.info hb' (by rw [_root_.Go.heap_alloc_old _ _ hbl]; exact k1) (k2.ext e1) e3 (fun ad he => ⟨(k5 ad he).1, fun hl => by
    rw [tyOf_block (hbel.block _ ?_)]
    · exact (k5 ad he).2 hl
    · have h9 := (k5 ad he).2 hl
      unfold tyOf at h9
      rcases Nat.lt_or_ge ad.block w1.heap.size with h' | h'
      · exact h'
      · rw [Array.getElem?_eq_none h'] at h9; cases h9⟩) k0 hsrc hr
  refine (hW.walk b x _ _ _ _ _ _ c w w1 w2 hw hw1 k1 a1 a2).mono ?_
  rintro e w' ⟨rfl, rfl⟩
  have h0 : owns .nilIface .nilIface = [] := rfl
  refine ⟨_, g', rfl, by simp only [VR], by rw [a3]; exact List.prefix_refl _, by rw [h0]; exact a4, k4.trans (e2.trans a5)⟩

/-- An append whose run is known. -/
theorem wpList_append_run {P : Program} {ops : Array Oper} {rest : List Oper} {o : Oper} {a : Act} {w w' : World} {Q : Exit → Act → World → Prop} (hgd : o.guard = none) (sl x : Operand) (t u : TypeId)
    (ho : o.op = .call { callee := .builtin .append, args := #[sl, x], argTypes := #[t, u] }) (v y v' : Value) (hs : a.eval sl = v) (hx : a.eval x = y) (hr : (Builtin.append_ #[t, u] o.type #[v, y]).run P w = .ok v' w') (h : wpList P ops Q rest (a.put o.dst v') w') : wpList P ops Q (o :: rest) a w := by
  refine wpList_plain hgd fun K hK => ?_
  unfold Oper.wp execOp
  simp only [ho, resolve, invoke, builtin, Sem.run_bind, Sem.run_pure, Result.andThen_ok, List.map_toArray, List.map_cons, List.map_nil, hs, hx, hr]
  exact hK _ _ h

/-! ### String -/
def bstr_sp (t : TypeId) : FSpec := fun vs hs R K => match vs, hs with
  | [.ptr (some (0, 0))], [.buf 0 t' l] => cond (Nat.beq t' t && decide (l.length ≤ 9223372036854775807)) (K (.str (strOf l)) [.gone]) none
  | _, _ => none
theorem run_loadBytesI {P : Program} {w : World} : ∀ (l : List Int) (a : Addr) (acc : ByteArray), (∀ j x, l[j]? = some x → w.cell? (a.add j) = some (.int .u8 x)) →
    (loadBytes a acc l.length).run P w = .ok ⟨acc.data ++ (strOf l).toArray⟩ w
  | [], a, acc, _ => by simp [loadBytes, strOf]
  | x :: l, a, acc, h => by
    have h0 : w.cell? a = some (.int .u8 x) := by
      have := h 0 x rfl
      simpa [Addr.add] using this
    have ih := run_loadBytesI (P := P) l (a.add 1) (acc.push x.toNat.toUInt8) (fun j y hy => by
      have := h (j + 1) y (by simpa using hy)
      have e : (a.add 1).add j = a.add (j + 1) := by
        unfold Addr.add
        by_cases hj : j = 0
        · subst hj; simp
        · simp [hj]; omega
      rw [e]; exact this)
    simp only [List.length_cons, loadBytes, Sem.run_bind, run_load, h0, Result.andThen]
    rw [ih]
    congr 1
    apply ByteArray.ext
    simp [ByteArray.push, strOf, Nat.toUInt8]
theorem run_unsafeStringI {P : Program} {w : World} (pt it ty e : TypeId) (hp : P.underlying pt = some (.pointer e)) (hc : P.cellsOf e = 1) (g cells : Nat) (hsh : w.shape? g = some (e, cells)) (l : List Int) (h0 : l ≠ []) (hn : l.length ≤ cells) (h63 : l.length ≤ 9223372036854775807)
    (hcell : ∀ j x, l[j]? = some x → w.cell? ((⟨g, 0, none⟩ : Addr).add j) = some (.int .u8 x)) :
    (Builtin.unsafeString_ #[pt, it] ty #[.pointer (some ⟨g, 0, none⟩), .int .i64 l.length]).run P w = .ok (.string ⟨(strOf l).toArray⟩) (w.freeze ⟨g, 0, none⟩ l.length) := by
  have hl : l.length ≠ 0 := by simpa using h0
  have hlb := run_loadBytesI (P := P) l ⟨g, 0, none⟩ .empty hcell
  have hlies := Lib.liesAt_bytes (P := P) hc (cells / P.cellsOf e) l.length (by rw [hc]; simpa using hn)
  have h63' : ¬ (9223372036854775807 : Int) < (l.length : Int) := by omega
  have hdef : Builtin.unsafeString_ #[pt, it] ty #[.pointer (some ⟨g, 0, none⟩), .int .i64 l.length] =
      (do
        let n ← asInt (.int .i64 l.length)
        if n < 0 then runtimePanic (.error "unsafe.String: len out of range")
        if n > IntKind.i64.max then unsupported (.unsafePointer "String: a length above the largest int")
        if n = 0 then pure (.string .empty)
        else if ← variablesAt ⟨g, 0, none⟩ (← elemOf pt) n.toNat then do
          let s ← loadBytes ⟨g, 0, none⟩ .empty n.toNat
          freeze ⟨g, 0, none⟩ n.toNat
          pure (.string s)
        else unsupported (.unsafePointer "String: not so many bytes at ptr")) := rfl
  rw [hdef]
  have hmax : IntKind.i64.max = 9223372036854775807 := rfl
  have hneg : ¬ (l.length : Int) < 0 := by omega
  simp [asInt, asIntOf, hmax, h63', hneg, hl, variablesAt, hsh, elemOf, run_underlying hp, hlies, hlb]

/-- A builder that has told its bytes is used no more. -/
theorem Core.spent {F : Nat → Prop} {g : Gh} {w w' : World} {t : TypeId} {l : List Int} {b : Nat} {x u : Value} (h : Core F g [.buf 0 t l] [] w) (hb : g.obj = [b]) (hw : w.heap[b]? = some (.cells #[x, u] t (0, 0)))
    (hsz : w.heap.size ≤ w'.heap.size) (ho : w'.os = w.os) (ht : w'.tape = w.tape) (hout : w'.output = w.output) (hk : ∀ k, k < w.heap.size → (∀ a n c, u = .slice (some a) n c → k ≠ a.block) → w'.heap[k]? = w.heap[k]?)
    (hcell : ∀ k j, k < w.heap.size → w'.cell? ⟨k, j, none⟩ = w.cell? ⟨k, j, none⟩) (hty : ∀ k, k < w.heap.size → tyOf w' k = tyOf w k) (hbz : ∀ k, bsize w k ≤ bsize w' k) : Core F g [.gone] [] w' ∧ Step F g w g w' := by
  have hbl := (Array.getElem?_eq_some_iff.1 hw).1
  have hO : ownsH w [.buf 0 t l] g.obj = owns (.ints true .u8 l) u := by
    rw [hb]
    show ownsO w b (.buf 0 t l) ++ [] = _
    rw [List.append_nil]
    simp only [ownsO, hw]; rfl
  have hne : ∀ k, (F k ∨ k = b) → ∀ a n c, u = .slice (some a) n c → k ≠ a.block := fun k hF a n c hu e => by
    have h1 : 0 < oc a.block (ownsH w [.buf 0 t l] g.obj) := by
      rw [hO, hu]
      exact oc_mem (r := (a.block, l.length, c)) (by simp [owns])
    have h2 := h.dist a.block
    rw [hb] at h1 h2
    rcases hF with hF | hF
    · have h3 := h.notF k hF
      rw [hb, e] at h3
      omega
    · rw [← e, hF] at h1 h2
      simp [lives, AObj.dead] at h2
      omega
  refine ⟨⟨?_, fun r hr => ?_, fun k => ?_, fun k hF => ?_, fun k hk => by rw [hb] at hk; simp [lives, AObj.dead] at hk, fun k hl => Nat.lt_of_lt_of_le (h.lenlt k hl) hsz, fun k hF => Nat.lt_of_lt_of_le (h.flt k hF) hsz, h.good.step (fun _ h => h) fun k hF => hk k (h.flt k hF) (hne k (.inl hF))⟩, fun k j hj => hcell k j (h.lenlt k (by omega)), fun k hl => hty k (h.lenlt k hl), hbz, fun _ => Nat.le_refl _, fun k hF => ⟨hk k (h.flt k hF) (hne k (.inl hF)), rfl⟩, hsz, ho, ht, hout⟩
  · rw [hb]
    simp only [ObjsR, ObjR]
    exact ⟨b, [], rfl, trivial, rfl⟩
  · rw [hb] at hr; simp [ownsH, ownsO] at hr
  · rw [hb]
    simp [ownsH, ownsO, oc_nil, lives, AObj.dead]
  · rw [hb]
    simp [ownsH, ownsO, oc_nil, lives, AObj.dead]

set_option maxHeartbeats 2000000 in
set_option maxRecDepth 100000 in
theorem bstr_sound {P : Program} {ρ : Ren} (L : Lays.n169 P ρ) (X : Builder.Extra P ρ) (h5 : ρ.t 5 = byteT) (he : ∀ (args : Array Value) (w : World), (callFunc (ρ.f 169) args).run P w = .ok (.enter (ρ.f 169) args) w) : FSound P (ρ.f 169) (bstr_sp (ρ.t 72)) := by
  refine ⟨he, fun args H R k r h => ?_⟩
  unfold bstr_sp at h
  split at h
  case h_2 => cases h
  rename_i t' l
  obtain ⟨ht, h⟩ | ⟨_, h⟩ := cond_some h
  case inr => cases h
  simp only [Bool.and_eq_true, decide_eq_true_eq] at ht
  obtain ⟨ht, h63⟩ := ht
  have ht := Nat.eq_of_beq_eq_true ht
  refine ⟨_, _, h, fun F g vs w hv hc => ?_⟩
  subst ht
  obtain ⟨v0, _, rfl, hv0, hv⟩ := vrs_cons hv
  obtain rfl := vrs_nil hv
  obtain ⟨b, rfl, hb⟩ := vr_ptr hv0
  obtain ⟨b', hb', hob⟩ := objsR_one hc.heap
  rw [hb'] at hb
  simp only [List.getElem?_cons_zero, Option.some.injEq] at hb
  have hb := hb.symm
  subst hb
  simp only [ObjR] at hob
  obtain ⟨p, u, hbk, hx, hu, hnil, hty⟩ := hob
  simp only [VR] at hu
  obtain ⟨a, n, cp, rfl, hrow⟩ := hu
  have hn : n = l.length := by have := hrow.1; simp at this; omega
  have hc' : Core F g [.buf 0 (ρ.t 72) l] [] w := hc.weaken (fun r hr => by simp at hr) (fun b => by rw [oc_nil]; omega)
  -- what follows, in one world or the other
  have fin : ∀ w' : World, w.heap.size ≤ w'.heap.size → w'.os = w.os → w'.tape = w.tape → w'.output = w.output → (∀ k, k < w.heap.size → (∀ ad, a = some ad → k ≠ ad.block) → w'.heap[k]? = w.heap[k]?) → (∀ k j, k < w.heap.size → w'.cell? ⟨k, j, none⟩ = w.cell? ⟨k, j, none⟩) → (∀ k, k < w.heap.size → tyOf w' k = tyOf w k) → (∀ k, bsize w k ≤ bsize w' k) →
      ∃ v' g', Ending.returned (.string ⟨(strOf l).toArray⟩) = .returned v' ∧ VR g' w' (.str (strOf l)) v' ∧ g.obj <+: g'.obj ∧ Core F g' [.gone] (owns (.str (strOf l)) v') w' ∧ Step F g w g' w' := fun w' h1 h2 h3 h4 h5 h6 h7 h8 => by
    obtain ⟨k1, k2⟩ := hc'.spent hb' hbk h1 h2 h3 h4 (fun k hk hne => h5 k hk fun ad he => hne ad n cp (by rw [he])) h6 h7 h8
    exact ⟨_, g, rfl, by simp only [VR]; exact ⟨_, rfl, by simp⟩, List.prefix_refl _, k1, k2⟩
  have hUS0 : ∀ (W : World) (q : Option Addr), (Builtin.unsafeString_ #[(ρ.t 127), (ρ.t 3)] (ρ.t 9) #[.pointer q, .int .i64 0]).run P W = .ok (.string .empty) W := fun W q => Any.unsafeString_none L X W q
  have mixed := L.mixed
  have t72 := L.t72; have a72 := L.a72; have z72 := L.z72; have v72 := L.v72; have u72 := run_underlying L.t72
  have t70 := L.t70; have a70 := L.a70; have z70 := L.z70; have v70 := L.v70; have u70 := run_underlying L.t70
  have t37 := L.t37; have a37 := L.a37; have z37 := L.z37; have v37 := L.v37; have u37 := run_underlying L.t37
  have t127 := L.t127; have a127 := L.a127; have z127 := L.z127; have v127 := L.v127; have u127 := run_underlying L.t127
  have t3 := L.t3; have a3 := L.a3; have z3 := L.z3; have v3 := L.v3; have u3 := run_underlying L.t3
  have t9 := L.t9; have a9 := L.a9; have z9 := L.z9; have v9 := L.v9; have u9 := run_underlying L.t9
  have t5 := X.t5; have a5 := X.a5; have z5 := X.z5; have v5 := X.v5; have u5 := run_underlying X.t5
  cases a with
  | none =>
    obtain ⟨rfl, rfl⟩ := hrow.2.2.2.2.2.1 rfl
    have hl : l = [] := List.length_eq_zero_iff.1 (by omega)
    subst hl
    have c1 : w.drew.cell? ⟨b, 1, none⟩ = some (.slice none 0 0) := by
      have : w.drew.heap[b]? = some (.cells #[p, .slice none 0 0] (ρ.t 72) (0, 0)) := hbk
      rw [Lib.cell_of_heap this]; rfl
    have hSD : (Builtin.unsafeSliceData_ #[(ρ.t 37)] (ρ.t 127) #[.slice none 0 0]).run P w.drew = .ok (.pointer none) w.drew := rfl
    have fin1 := fin w.drew (Nat.le_refl _) rfl rfl rfl (fun _ _ _ => rfl) (fun _ _ _ => rfl) (fun _ _ => rfl) (fun _ => Nat.le_refl _)
    clear fin hc hc' hrow hn h63 h hx hv0 hnil hty
    go_enter L.f169, Body.n169_ntmps ρ
    go_wp2
    go_region_o
    all_goals (go_wp2; go_ret; exact fin1)
  | some ad =>
    obtain ⟨h0, hs0⟩ := hrow.2.2.2.2.1 rfl ad rfl
    obtain ⟨g0, o0, s0⟩ := ad
    simp only at h0 hs0
    subst h0; subst hs0
    subst hn
    have hl0 : l ≠ [] := fun e => by have := hnil e; injection this with this; cases this
    have hlp := List.length_pos_iff.2 hl0
    have hrec := hc'.own (g0, l.length, cp) (.inr (by
      rw [hb']
      show (g0, l.length, cp) ∈ ownsO w b (.buf 0 (ρ.t 72) l) ++ []
      have : ownsO w b (.buf 0 (ρ.t 72) l) = [(g0, l.length, cp)] := by simp only [ownsO, hbk]; rfl
      rw [this]; simp))
    obtain ⟨hlen0, hcap, arr, t, ⟨fz0, hg, _⟩, harr⟩ := hrec
    simp only at hlen0 hcap hg harr
    have ht5 : t = ρ.t 5 := by
      have h1 := hty _ _ _ rfl hl0
      rw [tyOf_cells hg] at h1
      injection h1 with h1
      rw [h1]; exact h5.symm
    subst ht5
    have hgl := (Array.getElem?_eq_some_iff.1 hg).1
    have hrd : ∀ j x, l[j]? = some x → w.cell? ⟨g0, j, none⟩ = some (.int .u8 x) := fun j x hj => by
      obtain ⟨ad, he, hr⟩ := hrow.2.2.2.1 (by simpa using hlp)
      injection he with he
      subst he
      have hjl := (List.getElem?_eq_some_iff.1 hj).1
      have := hr.2.2 j (by simpa using hjl)
      simp only [Nat.zero_add] at this
      rw [this, List.getElem?_map, hj]; rfl
    have c1 : w.drew.cell? ⟨b, 1, none⟩ = some (.slice (some ⟨g0, 0, none⟩) l.length cp) := by
      have : w.drew.heap[b]? = some (.cells #[p, .slice (some ⟨g0, 0, none⟩) l.length cp] (ρ.t 72) (0, 0)) := hbk
      rw [Lib.cell_of_heap this]; rfl
    have hSD : (Builtin.unsafeSliceData_ #[(ρ.t 37)] (ρ.t 127) #[.slice (some ⟨g0, 0, none⟩) l.length cp]).run P w.drew = .ok (.pointer (some ⟨g0, 0, none⟩)) w.drew :=
      Lib.run_unsafeSliceData_row _ _ _ _ _ _ (by omega)
    have hUS : (Builtin.unsafeString_ #[(ρ.t 127), (ρ.t 3)] (ρ.t 9) #[.pointer (some ⟨g0, 0, none⟩), .int .i64 l.length]).run P w.drew = .ok (.string ⟨(strOf l).toArray⟩) (w.drew.freeze ⟨g0, 0, none⟩ l.length) := by
      refine run_unsafeStringI (ρ.t 127) (ρ.t 3) (ρ.t 9) (ρ.t 5) L.t127 X.cellsByte g0 arr.size (by have hg' : w.drew.heap[g0]? = some (.cells arr (ρ.t 5) fz0) := hg; simp [World.shape?, hg']) l hl0 (by omega) h63 ?_
      intro j x hj
      rw [add_eq _ rfl]
      simp only [Nat.zero_add]
      exact hrd j x hj
    have hfz : ∀ k, k ≠ g0 → (w.drew.freeze ⟨g0, 0, none⟩ l.length).heap[k]? = w.heap[k]? := fun k hk => by
      unfold World.freeze
      rw [if_neg (by omega)]
      rw [Array.getElem?_modify, if_neg (Ne.symm hk)]; rfl
    have hfg : ∃ z, (w.drew.freeze ⟨g0, 0, none⟩ l.length).heap[g0]? = some (.cells arr (ρ.t 5) z) := by
      unfold World.freeze
      rw [if_neg (by omega)]
      have hg' : w.drew.heap[g0]? = some (.cells arr (ρ.t 5) fz0) := hg
      simp only [Array.getElem?_modify, if_true, hg', Option.map_some]
      exact ⟨_, rfl⟩
    obtain ⟨z, hfg⟩ := hfg
    have fin1 := fin (w.drew.freeze ⟨g0, 0, none⟩ l.length) (by
      unfold World.freeze
      rw [if_neg (by omega)]
      show w.heap.size ≤ (w.drew.heap.modify _ _).size
      rw [Array.size_modify]
      exact Nat.le_refl _) (by unfold World.freeze; split <;> rfl) (by unfold World.freeze; split <;> rfl) (by unfold World.freeze; split <;> rfl) (fun k _ hne => hfz k (hne _ rfl)) (fun k j _ => by
      by_cases e : k = g0
      · subst e; simp [World.cell?, hfg, hg]
      · exact cell_of (hfz k e) j) (fun k _ => by
      by_cases e : k = g0
      · subst e; rw [tyOf_cells hfg, tyOf_cells hg]
      · exact tyOf_block (hfz k e)) (bsz_one hfz (by rw [bsz_cells hfg, bsz_cells hg]; exact Nat.le_refl _))
    clear fin hc hc' hrow h63 h hx hv0 hnil hty hlen0 hcap hfz hfg hrd hgl
    go_enter L.f169, Body.n169_ntmps ρ
    go_wp2
    go_region_o
    all_goals (go_wp2; go_ret; exact fin1)
end Go.Sh

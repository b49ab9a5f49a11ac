/- bytes.Buffer as an object: writes, and what it holds. -/
import Derived.Test.YtcbgfjghebopoaaDoorBG
import Derived.Test.YtcbgfjghebopoaaDoorOB
namespace Go.Sh
open Go.RowKit Go.Proofs Go.Shelf
set_option linter.unusedSimpArgs false
set_option linter.unusedVariables false
variable {P : Program} {ρ : Ren}

theorem three_own {A B : AV} {u x y : Value} (hA : owns A x = []) (hB : owns B y = []) (l : List Int) : ownsL [.ints false .u8 l, A, B] [u, x, y] = [] := by
  show owns (.ints false .u8 l) u ++ (owns A x ++ (owns B y ++ [])) = []
  rw [hA, hB]
  have : owns (.ints false .u8 l) u = [] := owns_disown (.ints true .u8 l) u
  rw [this]; rfl
/-- The buffer, opened. -/
theorem buf1_open {F : Nat → Prop} {g : Gh} {os : List Rec} {w : World} {t : TypeId} {l : List Int} (h : Core F g [.buf 1 t l] os w) : ∃ b ao cap lr, g.obj = [b] ∧ BufB t b ao l.length cap lr w ∧ BufRow b ao l.length cap (l.map (Value.int .u8)) w ∧
    (∀ n all w', Wrote t b ao l.length cap n all w w' → ∀ m : List Int, m.length = n → 1 ≤ n → all = (l ++ m).map (Value.int .u8) → ∃ g', g'.obj = g.obj ∧ Core F g' [.buf 1 t (l ++ m)] os w' ∧ Step F g w g' w') ∧ VR g w (.ints false .u8 l) (.slice ao l.length cap) ∧ l.length ≤ maxLen ∧ l.length ≤ cap := by
  obtain ⟨b, hb, hob⟩ := objsR_one h.heap
  simp only [ObjR] at hob
  obtain ⟨u, lr, hw, hu, hnil, hmax⟩ := hob
  have hu' := hu
  simp only [VR] at hu
  obtain ⟨ao, n0, cap, rfl, hrow⟩ := hu
  have hn : n0 = l.length := by have := hrow.1; simp at this; omega
  subst hn
  have hcm := hmax _ _ _ rfl
  have hown : owns (.ints true .u8 l) (.slice ao l.length cap) = recs ao (l.length * 1) (cap * 1) := by cases ao <;> simp [owns, recs]
  have hO : ownsO w b (.buf 1 t l) = recs ao (l.length * 1) (cap * 1) := by
    rw [← hown]
    simp only [ownsO, hw]; rfl
  have hH : ownsH w [.buf 1 t l] g.obj = recs ao (l.length * 1) (cap * 1) := by
    rw [hb]
    show ownsO w b _ ++ [] = _
    rw [hO, List.append_nil]
  have hne : ∀ ad, ao = some ad → ad.block ≠ b := fun ad he e => by
    have h2 := h.dist b
    rw [hH, hb, he, ← e] at h2
    simp [recs, oc, lives, AObj.dead] at h2
  have hbl := (Array.getElem?_eq_some_iff.1 hw).1
  have hBufRow : BufRow b ao l.length cap (l.map (Value.int .u8)) w := by
    cases ao with
    | none =>
      obtain ⟨e1, e2⟩ := hrow.2.2.2.2.2.1 rfl
      have : l = [] := List.length_eq_zero_iff.1 e1
      subst this
      exact .inl ⟨rfl, rfl, e2, rfl⟩
    | some ad =>
      obtain ⟨e1, e2⟩ := hrow.2.2.2.2.1 rfl ad rfl
      obtain ⟨g0, off, sp⟩ := ad
      simp only at e1 e2
      subst e1 e2
      have hl0 : l ≠ [] := fun e => by have := hnil e; injection this with this; cases this
      obtain ⟨o1, o2, arr, tt, o3, o4⟩ := h.own (g0, l.length * 1, cap * 1) (.inr (by rw [hH]; simp [recs]))
      simp only at o1 o2 o3 o4
      refine .inr ⟨g0, arr, tt, rfl, fun e => hl0 (List.length_eq_zero_iff.1 e), hne _ rfl, o3, by omega, hrow.2.1, hcm, ?_, fun v hv => by obtain ⟨_, _, rfl⟩ := List.mem_map.1 hv; rfl⟩
      obtain ⟨ad, he, hrd⟩ := hrow.2.2.2.1 (by simpa using List.length_pos_iff.2 hl0)
      injection he with he
      subst he
      obtain ⟨rest, hrest⟩ := row_prefix hrd (by simp; omega) o3
      rw [hrest, List.take_append_of_le_length (by simp), List.take_of_length_le (by simp)]
  refine ⟨b, ao, cap, lr, hb, hw, hBufRow, fun n all w' hW m hm hn1 hall => ?_, VR.disown (.ints true .u8 l) _ hu', Nat.le_trans hrow.2.1 hcm, hrow.2.1⟩
  obtain ⟨k1, k2, k3, k4, g0, cap', cur, tt, lr', k5, k6, k7, k8, k9, k10, k11, k12, k13⟩ := hW
  -- the row in hand
  have hO2 : ownsO w b (.cells t [.ints false .u8 l, .int .i64 0, .int .i8 lr]) = [] := by
    simp only [ownsO, hw]
    exact three_own rfl rfl l
  obtain ⟨e1, e2, e3⟩ := h.setObjG (id := 0) (ob := .buf 1 t l) (ob' := .cells t [.ints false .u8 l, .int .i64 0, .int .i8 lr]) (os0 := recs ao (l.length * 1) (cap * 1)) (os1 := []) (os' := recs ao (l.length * 1) (cap * 1) ++ os) (w' := w) rfl (by rw [hb]; rfl) rfl (fun _ _ => rfl) (Nat.le_refl _) rfl rfl rfl rfl hO hO2 (fun ext => by
      simp only [ObjR]
      refine ⟨_, hw, ?_⟩
      simp only [VRs]
      exact ⟨_, _, rfl, VR.disown (.ints true .u8 l) _ hu', _, _, rfl, by simp only [VR], _, _, rfl, by simp only [VR], rfl⟩) (fun x => by simp only [oc_append, oc_nil]; omega) (fun r hr => by
      rcases hr with hr | hr
      · rcases List.mem_append.1 hr with hr | hr
        · exact .inr hr
        · exact .inl hr
      · simp at hr)
  rw [show ([AObj.buf 1 t l].set 0 (.cells t [.ints false .u8 l, .int .i64 0, .int .i8 lr])) = [.cells t [.ints false .u8 l, .int .i64 0, .int .i8 lr]] from rfl] at e3
  -- the row's block turns first
  generalize hw1 : ({ w' with heap := w'.heap.setIfInBounds b (.cells #[.slice ao l.length cap, .int .i64 0, .int .i8 lr] t (0, 0)) } : World) = w1
  have hblt : b < w'.heap.size := by omega
  have h1b : w1.heap[b]? = w.heap[b]? := by rw [← hw1, hw]; simp [Array.getElem?_setIfInBounds_self_of_lt hblt]
  have h1o : ∀ k, k ≠ b → w1.heap[k]? = w'.heap[k]? := fun k hk => by rw [← hw1]; simp [Array.getElem?_setIfInBounds_ne (Ne.symm hk)]
  have h1s : w1.heap.size = w'.heap.size := by rw [← hw1]; simp
  have h1os : w1.os = w.os := by rw [← hw1]; exact k1
  have h1t : w1.tape = w.tape := by rw [← hw1]; exact k2
  have h1out : w1.output = w.output := by rw [← hw1]; exact k3
  have h1c : CellsAt w1 g0 cur tt := k6.of_heap (h1o g0 k10)
  have hlm : (l ++ m).length = l.length + n := by simp [hm]
  have hcur : ∀ j, j < l.length + n → cur[j]? = ((l ++ m).map (Value.int .u8))[j]? := fun j hj => by
    have : (cur.toList.take (l.length + n))[j]? = cur.toList[j]? := by rw [List.getElem?_take, if_pos hj]
    rw [← hall, ← k11, this]; simp
  have mid : ∃ g', g'.obj = g.obj ∧ Ext g w g' w1 ∧ Step F g w g' w1 ∧ Core F g' [.cells t [.ints false .u8 l, .int .i64 0, .int .i8 lr]] (recs (some ⟨g0, 0, none⟩) (l.length + n) cap' ++ os) w1 ∧ g'.len g0 = l.length + n := by
    rcases k12 with ⟨rfl, rfl, q1, q2, q3⟩ | rfl
    · obtain ⟨o1, o2, arr, t0, o3, o4⟩ := e3.own (g0, l.length * 1, cap' * 1) (.inl (by simp [recs]))
      simp only at o1 o2 o3 o4
      have ht0 : t0 = tt := by have := o3.ty; rw [q2] at this; injection this with this; exact this.symm
      subst ht0
      rw [o3.bsz] at q1
      have hrd : Reads g w ⟨g0, 0, none⟩ (l.map (Value.int .u8)) ∨ l = [] := by
        rcases List.eq_nil_or_concat l with e | e
        · exact .inr e
        · obtain ⟨ad, he, hrd⟩ := hrow.2.2.2.1 (by obtain ⟨x, y, rfl⟩ := e; simp)
          injection he with he
          subst he
          exact .inl hrd
      obtain ⟨z1, z2, z3⟩ := e3.write (b := g0) (n := l.length * 1) (cp := cap' * 1) (n' := l.length + n) (arr := arr) (arr' := cur) (t := t0) (w' := w1) o3 h1c (fun k hk => by
        by_cases e : k = b
        · subst e; exact h1b
        · rw [h1o k e]
          rcases Nat.lt_or_ge k w.heap.size with hl | hl
          · exact k13 k hl e hk
          · rw [Array.getElem?_eq_none hl, Array.getElem?_eq_none (by omega)]) (by rw [h1s]; exact q3) h1os h1t h1out q1 (fun j hj => by
        rw [hcur j (by omega)]
        rcases hrd with hrd | hrd
        · have := hrd.2.2 j (by simp; omega)
          rw [Nat.zero_add, o3.cell] at this
          rw [this, List.map_append, List.getElem?_append_left (by simp; omega)]
        · subst hrd; simp at hj) (by omega) (by omega)
      exact ⟨g.set g0 (l.length + n), rfl, z1, z2, by simpa [recs] using z3, by simp [Gh.set]⟩
    · obtain ⟨z1, z2, z3⟩ := (e3.weaken (os' := os) (fun r hr => List.mem_append_right _ hr) (fun b => by rw [oc_append]; omega)).growOwn (w' := w1) (fun k hk => by
        by_cases e : k = b
        · subst e; exact h1b
        · rw [h1o k e]
          exact k13 k hk e (by omega)) (by rw [h1s]; have := h1c.lt; omega) h1os h1t h1out (l.length + n) cap' h1c k8 k7
      exact ⟨g.set w.heap.size (l.length + n), rfl, z1, z2, by simpa [recs] using z3, by simp [Gh.set]⟩
  obtain ⟨g', m1, m2, m3, m4, m5⟩ := mid
  have hrow' : Row g' w1 true (some ⟨g0, 0, none⟩) (l ++ m).length cap' 1 ((l ++ m).map (Value.int .u8)) := by
    refine ⟨by simp, by rw [hlm]; exact k8, Nat.zero_le _, fun _ => ⟨_, rfl, rfl, by rw [m5, List.length_map, hlm]; exact Nat.le_of_eq (Nat.zero_add _), fun j hj => ?_⟩, fun _ ad h => by injection h with h; subst h; exact ⟨rfl, rfl⟩, fun h => (by cases h), fun v hv => by obtain ⟨_, _, rfl⟩ := List.mem_map.1 hv; rfl⟩
    rw [Nat.zero_add, h1c.cell]
    exact hcur j (by rw [List.length_map, hlm] at hj; exact hj)
  have hw1b : w1.heap[b]? = some (.cells #[.slice ao l.length cap, .int .i64 0, .int .i8 lr] t (0, 0)) := by rw [h1b]; exact hw
  have hown' : owns (.ints true .u8 (l ++ m)) (.slice (some ⟨g0, 0, none⟩) (l ++ m).length cap') = recs (some ⟨g0, 0, none⟩) (l.length + n) cap' := by simp [owns, recs, hm]
  have k5' : w'.heap[b]? = some (.cells #[.slice (some ⟨g0, 0, none⟩) (l.length + n) cap', .int .i64 0, .int .i8 lr'] t (0, 0)) := k5
  obtain ⟨y1, y2, y3⟩ := m4.setObjG (id := 0) (ob' := .buf 1 t (l ++ m)) (os0 := []) (os1 := recs (some ⟨g0, 0, none⟩) (l.length + n) cap') (os' := os) (w' := w') rfl (by rw [m1, hb]; rfl) rfl (fun k hk => (h1o k hk).symm) (by rw [bsz_cells hw1b, bsz_cells k5']; exact Nat.le_refl _) h1s.symm (by rw [← hw1]) (by rw [← hw1]) (by rw [← hw1]) (by
      simp only [ownsO, hw1b]
      exact three_own rfl rfl l) (by
      rw [← hown']
      simp only [ownsO, k5']
      rw [hlm]; rfl) (fun ext => by
      simp only [ObjR]
      refine ⟨_, lr', k5', ?_, fun hl => ?_, fun a n1 c1 he => ?_⟩
      · simp only [VR]
        exact ⟨_, _, _, rfl, by rw [← hlm]; exact hrow'.ext ext⟩
      · have := congrArg List.length hl
        rw [hlm] at this
        simp at this
        omega
      · injection he with _ _ he
        omega) (fun x => by simp only [oc_append, oc_nil]; omega) (fun r hr => by
      rcases hr with hr | hr
      · exact .inl (List.mem_append_right _ hr)
      · exact .inl (List.mem_append_left _ hr))
  exact ⟨g', m1, y3, m3.trans y2⟩

/-- A writing method's shadow. -/
def buf1_sp (q : List AV → List Int → (R : Type) → (AV → List Int → Option R) → Option R) : FSpec := fun vs hs R K => match vs, hs with
  | .ptr (some (0, 0)) :: ws, [.buf 1 t l] => q ws l R fun v m => K v [.buf 1 t (l ++ m)]
  | _, _ => none
def wByte_q : List AV → List Int → (R : Type) → (AV → List Int → Option R) → Option R := fun ws l R k => match ws with
  | [.int .u8 c] => cond (decide (l.length + 1 ≤ 140737488355328)) (k .nilIface [c]) none
  | _ => none
def wString_q : List AV → List Int → (R : Type) → (AV → List Int → Option R) → Option R := fun ws l R k => match ws with
  | [.str s] => cond (decide (0 < s.length) && decide (l.length + s.length ≤ 140737488355328)) (k (.tuple [.int .i64 (s.length : Int), .nilIface]) (intsOf s)) none
  | _ => none
def wBytes_q : List AV → List Int → (R : Type) → (AV → List Int → Option R) → Option R := fun ws l R k => match ws with
  | [.ints _ .u8 m] => cond (decide (0 < m.length) && decide (l.length + m.length ≤ 140737488355328)) (k (.tuple [.int .i64 (m.length : Int), .nilIface]) m) none
  | _ => none
theorem buf1_sound {f : FuncId} {q : List AV → List Int → (R : Type) → (AV → List Int → Option R) → Option R} (he : ∀ (args : Array Value) (w : World), (callFunc f args).run P w = .ok (.enter f args) w)
    (hq : ∀ (ws : List AV) (l : List Int) (R : Type) (k : AV → List Int → Option R) (r : R), q ws l R k = some r → ∃ v m, k v m = some r ∧ m ≠ [] ∧ ∃ v' : Value, owns v v' = [] ∧ (∀ (g : Gh) (w : World), VR g w v v') ∧
      ∀ (g : Gh) (us : List Value) (w : World) (T : TypeId) (b : Nat) (ao : Option Addr) (cap : Nat) (lr : Int), VRs g w ws us → g.len b = 0 → (∀ k, 0 < g.len k → k < w.heap.size) → BufB T b ao l.length cap lr w → BufRow b ao l.length cap (l.map (Value.int .u8)) w →
        Calls P f (#[.pointer (some ⟨b, 0, none⟩)] ++ us.toArray) w fun e w' => e = .returned v' ∧ Wrote T b ao l.length cap m.length ((l ++ m).map (Value.int .u8)) w w') : FSound P f (buf1_sp q) := by
  refine ⟨he, fun args H R k r h => ?_⟩
  unfold buf1_sp at h
  split at h
  case h_2 => cases h
  rename_i ws t l
  obtain ⟨v, m, hk, hm0, v', ho, hv, hrun⟩ := hq ws l R _ r h
  refine ⟨_, _, hk, fun F g vs w hvs hc => ?_⟩
  obtain ⟨v0, us, rfl, hv0, hus⟩ := vrs_cons hvs
  obtain ⟨b, rfl, hb⟩ := vr_ptr hv0
  have hc' : Core F g [.buf 1 t l] [] w := hc.weaken (fun r hr => by simp at hr) (fun b => by rw [oc_nil]; omega)
  obtain ⟨b', ao, cap, lr, hb', hB, hR, hfin, _, _, _⟩ := buf1_open hc'
  rw [hb'] at hb
  simp only [List.getElem?_cons_zero, Option.some.injEq] at hb
  subst hb
  have hcall := hrun g us w t b' ao cap lr hus (hc'.objlen b' (by rw [hb']; simp [lives, AObj.dead])) hc'.lenlt hB hR
  have harr : (Value.pointer (some ⟨b', 0, none⟩) :: us).toArray = #[.pointer (some ⟨b', 0, none⟩)] ++ us.toArray := by simp
  rw [harr]
  refine hcall.mono ?_
  rintro e w' ⟨rfl, hW⟩
  obtain ⟨g', k1, k2, k3⟩ := hfin m.length _ w' hW m rfl (List.length_pos_iff.2 hm0) rfl
  exact ⟨v', g', rfl, hv _ _, by rw [k1]; exact List.prefix_refl _, by rw [ho]; exact k2, k3⟩
theorem wByte_sound (L : LaysM.n179 P ρ) : FSound P (ρ.f 179) (buf1_sp wByte_q) := by
  refine buf1_sound (Go.Proofs.enters_of L.f179 (by kernel_rfl) rfl) fun ws l R k r h => ?_
  unfold wByte_q at h
  split at h
  case h_2 => cases h
  rename_i c
  obtain ⟨h1, h2⟩ | ⟨_, h2⟩ := cond_some h
  case inr => cases h2
  simp only [decide_eq_true_eq] at h1
  refine ⟨_, _, h2, by simp, .nilIface, rfl, fun g w => by simp only [VR], fun g us w T b ao cap lr hus _ _ hB hR => ?_⟩
  obtain ⟨v1, _, rfl, hv1, hv⟩ := vrs_cons hus
  obtain rfl := vrs_nil hv
  obtain rfl := vr_int hv1
  refine (buf_writeByte L T b ao l.length cap lr _ c w hB hR h1).mono ?_
  rintro e w' ⟨rfl, hW⟩
  exact ⟨rfl, by simpa using hW⟩
theorem wString_sound (L : LaysM.n178 P ρ) : FSound P (ρ.f 178) (buf1_sp wString_q) := by
  refine buf1_sound (Go.Proofs.enters_of L.f178 (by kernel_rfl) rfl) fun ws l R k r h => ?_
  unfold wString_q at h
  split at h
  case h_2 => cases h
  rename_i s
  obtain ⟨h1, h2⟩ | ⟨_, h2⟩ := cond_some h
  case inr => cases h2
  simp only [Bool.and_eq_true, decide_eq_true_eq] at h1
  have hl : (intsOf s).length = s.length := by simp [intsOf]
  refine ⟨_, _, h2, fun e => by rw [e] at hl; simp at hl; omega, .tuple #[.int .i64 (s.length : Int), .nilIface], rfl, fun g w => by simp only [VR]; exact ⟨_, rfl, by simp only [VRs, VR]; exact ⟨_, _, rfl, rfl, _, _, rfl, rfl, rfl⟩⟩, fun g us w T b ao cap lr hus _ _ hB hR => ?_⟩
  obtain ⟨v1, _, rfl, hv1, hv⟩ := vrs_cons hus
  obtain rfl := vrs_nil hv
  obtain ⟨s1, rfl, rfl⟩ := vr_str hv1
  have hsz : s1.size = s1.data.toList.length := by simp
  refine (buf_writeString L T b ao l.length cap lr _ (Lib.strCells s1) w s1 hB hR (by omega) (by omega) (fun W _ => src_string W s1)).mono ?_
  rintro e w' ⟨rfl, hW⟩
  refine ⟨by rw [hsz], ?_⟩
  rw [strCells_eq, ← List.map_append] at hW
  rw [hl, ← hsz]
  exact hW
theorem wBytes_sound (L : LaysM.n180 P ρ) : FSound P (ρ.f 180) (buf1_sp wBytes_q) := by
  refine buf1_sound (Go.Proofs.enters_of L.f180 (by kernel_rfl) rfl) fun ws l R k r h => ?_
  unfold wBytes_q at h
  split at h
  case h_2 => cases h
  rename_i own m
  obtain ⟨h1, h2⟩ | ⟨_, h2⟩ := cond_some h
  case inr => cases h2
  simp only [Bool.and_eq_true, decide_eq_true_eq] at h1
  refine ⟨_, _, h2, fun e => by rw [e] at h1; simp at h1, .tuple #[.int .i64 (m.length : Int), .nilIface], rfl, fun g w => by simp only [VR]; exact ⟨_, rfl, by simp only [VRs, VR]; exact ⟨_, _, rfl, rfl, _, _, rfl, rfl, rfl⟩⟩, fun g us w T b ao cap lr hus hb0 hlt hB hR => ?_⟩
  obtain ⟨v1, _, rfl, hv1, hv⟩ := vrs_cons hus
  obtain rfl := vrs_nil hv
  simp only [VR] at hv1
  obtain ⟨a, n, c, rfl, hrow⟩ := hv1
  have hn : n = m.length := by have := hrow.1; simp at this; omega
  subst hn
  obtain ⟨ad, rfl, hrd⟩ := hrow.2.2.2.1 (by simp; omega)
  have hne : ad.block ≠ b := fun e => by
    have := hrd.2.1
    rw [e, hb0, List.length_map] at this
    omega
  have hlb : ad.block < w.heap.size := hlt _ (by have := hrd.2.1; simp at this; omega)
  refine (buf_write L T b ao l.length cap lr _ (m.map (Value.int .u8)) w ad m.length c hB hR (by omega) (by omega) (fun W hW => ?_)).mono ?_
  · obtain ⟨bb, off, sp⟩ := ad
    have hs := hrd.1
    simp only at hs
    subst hs
    refine src_cells (fun _ => rfl) (by simp) (fun u hu => by obtain ⟨_, _, rfl⟩ := List.mem_map.1 hu; rfl) (fun j hj => ?_)
    rw [World.cell?_of_block (a := ⟨bb, off + j, none⟩) (hW.2.2.2.2 bb hlb hne)]
    exact hrd.2.2 j hj
  · rintro e w' ⟨rfl, hW⟩
    refine ⟨rfl, ?_⟩
    rw [← List.map_append] at hW
    exact hW

set_option maxRecDepth 100000 in
/-- Bytes. -/
theorem buf_bytes (L : LaysM.n183 P ρ) (b : Nat) (ao : Option Addr) (l cap : Nat) (w : World) (c0 : w.cell? ⟨b, 0, none⟩ = some (.slice ao l cap)) (c1 : w.cell? ⟨b, 1, none⟩ = some (.int .i64 0)) (hmax : l ≤ maxLen) (hlc : l ≤ cap) :
    Calls P (ρ.f 183) #[.pointer (some ⟨b, 0, none⟩)] w fun e w' => e = .returned (.slice ao l cap) ∧ ∃ n, w' = w.drewN n := by
  have mixed := L.mixed
  have t5 := L.t5; have a5 := L.a5; have z5 := L.z5; have v5 := L.v5
  have t130 := L.t130; have a130 := L.a130; have z130 := L.z130; have v130 := L.v130
  have t3 := L.t3; have a3 := L.a3; have z3 := L.z3; have v3 := L.v3
  have t0 := L.t0; have a0 := L.a0; have z0 := L.z0; have v0 := L.v0
  have t93 := L.t93; have u93 := run_underlying L.t93; have a93 := L.a93; have z93 := L.z93; have v93 := L.v93
  have t37 := L.t37; have a37 := L.a37; have z37 := L.z37; have v37 := L.v37
  unfold maxLen at hmax
  go_enter L.f183, Body.n183_ntmps ρ
  go_wp2
  go_region_o
  all_goals (go_wp2; go_ret; exact ⟨by simp, 1, rfl⟩)
def bytes_sp : FSpec := fun vs hs R K => match vs, hs with
  | [.ptr (some (0, 0))], [.buf 1 t l] => K (.ints false .u8 l) [.buf 1 t l]
  | _, _ => none
theorem bytes_sound (L : LaysM.n183 P ρ) : FSound P (ρ.f 183) bytes_sp := by
  refine ⟨Go.Proofs.enters_of L.f183 (by kernel_rfl) rfl, fun args H R k r h => ?_⟩
  unfold bytes_sp at h
  split at h
  case h_2 => cases h
  rename_i t l
  refine ⟨_, _, h, fun F g vs w hvs hc => ?_⟩
  obtain ⟨v0, us, rfl, hv0, hv⟩ := vrs_cons hvs
  obtain rfl := vrs_nil hv
  obtain ⟨b, rfl, hb⟩ := vr_ptr hv0
  have hc' : Core F g [.buf 1 t l] [] w := hc.weaken (fun r hr => by simp at hr) (fun b => by rw [oc_nil]; omega)
  obtain ⟨b', ao, cap, lr, hb', hB, hR, _, hvr, hmax, hlc⟩ := buf1_open hc'
  rw [hb'] at hb
  simp only [List.getElem?_cons_zero, Option.some.injEq] at hb
  subst hb
  refine (buf_bytes L b' ao l.length cap w hB.c0 hB.c1 hmax hlc).mono ?_
  rintro e w' ⟨rfl, n, rfl⟩
  obtain ⟨e1, e2, e3⟩ := hc'.below (w' := w.drewN n) ⟨rfl, rfl, rfl, Nat.le_refl _, fun _ _ => rfl⟩
  have h0 : owns (.ints false .u8 l) (.slice ao l.length cap) = [] := owns_disown (.ints true .u8 l) _
  exact ⟨_, g, rfl, VR.ext e1 _ _ hvr, List.prefix_refl _, by rw [h0]; exact e3, e2⟩
end Go.Sh

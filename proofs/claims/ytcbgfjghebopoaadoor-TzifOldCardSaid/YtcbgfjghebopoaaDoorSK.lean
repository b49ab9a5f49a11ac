/- Operations that make rows and objects. -/
import Derived.Test.YtcbgfjghebopoaaDoorSJ
import Derived.Laws.MakeOwn
import Derived.Lib.ConvBytes
import Derived.Great.BuildSlice
namespace Go.Sh
open Go.RowKit
set_option linter.unusedSimpArgs false
set_option linter.unusedVariables false
variable {c : Cx} {o : Oper}

theorem one_cell {g : Gh} {w : World} {a : AV} {v : Value} (h1 : one a = true) (h : VR g w a v) : v.oneCell' = true := by
  cases a with
  | undef => simp [one] at h1
  | agg cs => simp [one] at h1
  | tuple cs => simp [one] at h1
  | int k n => simp only [VR] at h; subst h; rfl
  | bool b => simp only [VR] at h; subst h; rfl
  | str l => simp only [VR] at h; obtain ⟨s, rfl, _⟩ := h; rfl
  | ints o k l => simp only [VR] at h; obtain ⟨_, _, _, rfl, _⟩ := h; rfl
  | strs o l => simp only [VR] at h; obtain ⟨_, _, _, rfl, _⟩ := h; rfl
  | sl o sz els => simp only [VR] at h; obtain ⟨_, _, _, _, rfl, _⟩ := h; rfl
  | eptr cs => simp only [VR] at h; obtain ⟨_, _, rfl, _⟩ := h; rfl
  | ptr r =>
    cases r with
    | none => simp only [VR] at h; subst h; rfl
    | some p => obtain ⟨id, off⟩ := p; simp only [VR] at h; obtain ⟨_, rfl, _⟩ := h; rfl
  | «mut» id off m sz => simp only [VR] at h; obtain ⟨_, _, _, rfl, _⟩ := h; rfl
  | yld id => simp only [VR] at h; obtain ⟨_, rfl, _⟩ := h; rfl
  | mo id m tot sz => simp only [VR] at h; obtain ⟨_, _, _, rfl, _⟩ := h; rfl
  | map r =>
    cases r with
    | none => simp only [VR] at h; subst h; rfl
    | some id => simp only [VR] at h; obtain ⟨_, rfl, _⟩ := h; rfl
  | func fn f1 c1 => simp only [VR] at h; obtain ⟨_, _, rfl, _⟩ := h; rfl
  | nilFunc => simp only [VR] at h; subst h; rfl
  | nilIface => simp only [VR] at h; subst h; rfl
  | iface t x => simp only [VR] at h; obtain ⟨_, rfl, _⟩ := h; rfl
theorem cells_one {v : Value} (h : v.oneCell' = true) : v.cells = #[v] := by cases v <;> first | rfl | simp [Value.oneCell'] at h
theorem all_one {g : Gh} {w : World} : ∀ {cs : List AV} {vs : List Value}, VRs g w cs vs → cs.all one = true → ∀ u ∈ vs, u.oneCell' = true
  | [], vs, h, _, u, hu => by simp only [VRs] at h; subst h; simp at hu
  | c :: cs, vs, h, h1, u, hu => by
    simp only [VRs] at h
    obtain ⟨v, us, rfl, h2, h3⟩ := h
    simp only [List.all_cons, Bool.and_eq_true] at h1
    rcases List.mem_cons.1 hu with rfl | hu
    · exact one_cell h1.1 h2
    · exact all_one h3 h1.2 u hu
/-- A value's cells. -/
theorem cellsOf_ok {g : Gh} {w : World} {a : AV} {v : Value} (h : VR g w a v) (h1 : (cellsOf a).all one = true) : VRs g w (cellsOf a) v.cells.toList ∧ (∀ u ∈ v.cells.toList, u.oneCell' = true) ∧ ownsL (cellsOf a) v.cells.toList = owns a v := by
  have plain : cellsOf a = [a] → VRs g w (cellsOf a) v.cells.toList ∧ (∀ u ∈ v.cells.toList, u.oneCell' = true) ∧ ownsL (cellsOf a) v.cells.toList = owns a v := by
    intro e
    rw [e] at h1 ⊢
    simp only [List.all_cons, List.all_nil, Bool.and_true] at h1
    have h2 := one_cell h1 h
    rw [cells_one h2]
    exact ⟨by simp only [VRs]; exact ⟨v, [], rfl, h, rfl⟩, by simp [h2], by simp [ownsL]⟩
  cases a with
  | agg cs =>
    simp only [VR] at h
    obtain ⟨vs, rfl, h2⟩ := h
    exact ⟨h2, all_one h2 h1, by simp [owns, cellsOf, Value.cells]⟩
  | _ => exact plain rfl

/-- A row that is new. -/
theorem new_row {F : Nat → Prop} {nt : Nat} {g : Gh} {s : St} {a : Act} {w w' : World} (hs : SimX F nt g s a w []) (hb : ∀ k, k < w.heap.size → w'.heap[k]? = w.heap[k]?) (hsz : w.heap.size < w'.heap.size) (ho : w'.os = w.os) (ht : w'.tape = w.tape) (hout : w'.output = w.output)
    {arr : Array Value} {t : TypeId} (hnew : CellsAt w' w.heap.size arr t) {n cp z : Nat} {vs : List Value} (hvs : vs.length = n * z) (hn : n ≤ cp) (hc : cp * z ≤ arr.size) (hcells : ∀ j, j < vs.length → arr[j]? = vs[j]?) (hone : ∀ u ∈ vs, u.oneCell' = true) :
    ∃ g', g'.obj = g.obj ∧ Row g' w' true (some ⟨w.heap.size, 0, none⟩) n cp z vs ∧ Ext g w g' w' ∧ Step F g w g' w' ∧ SimX F nt g' s a w' (recs (some ⟨w.heap.size, 0, none⟩) (n * z) (cp * z)) := by
  have hgr := hs.core.growOwn hb hsz ho ht hout (n * z) (cp * z) hnew (Nat.mul_le_mul_right _ hn) hc
  refine ⟨g.set w.heap.size (n * z), rfl, ⟨hvs, hn, Nat.zero_le _, fun hp => ⟨_, rfl, rfl, ?_, fun j hj => ?_⟩, fun _ ad h => by injection h with h; subst h; exact ⟨rfl, rfl⟩, fun h => by simp at h, hone⟩, hgr.1, hgr.2.1, hs.move hgr.1 (by simpa [recs] using hgr.2.2)⟩
  · simp only [Gh.set, if_true, hvs]; omega
  · simp only [Nat.zero_add]
    rw [hnew.cell]
    exact hcells j hj

theorem ok_toBytes {x : AX} {p : Operand} {src dst e : TypeId} {d : TypeDesc} (h : o.op = .convert src dst p) (hs0 : c.P.underlying src = some d) (hd : c.P.underlying dst = some (.slice e)) (he : c.P.underlying e = some (.int .u8)) (hx : fitX x p = true) : OpOK c (.toBytes x) o := by
  intro s R k r hr
  simp only [AOp.run] at hr
  split at hr
  · rename_i l hv
    refine ⟨_, _, hr, OpSem.run fun F g a w B hB hpre hs => ?_⟩
    have hp := ev_read hs hx
    rw [hv] at hp
    simp only [VR] at hp
    obtain ⟨s1, hp, hl⟩ := hp
    have hsz : s1.size = l.length := by rw [← hl]; exact (Array.length_toList (xs := s1.data)).symm
    have hge := grownCap_ge w s1.size 0 e
    obtain ⟨g', k1, k2, k3, k4, k5⟩ := new_row (w' := Lib.bytesWorld w e s1) hs (fun k hk => Lib.bytesWorld_at_old w e s1 k hk) (by rw [Lib.bytesWorld_size]; omega) rfl rfl rfl ⟨_, Lib.bytesWorld_at_new w e s1, .inr (Nat.le_refl _)⟩ (n := l.length) (cp := grownCap w s1.size 0 e) (z := 1) (vs := (intsOf l).map (Value.int .u8)) (by simp [intsOf]) (by omega) (by simp [Lib.bytesCells]; omega) (fun j hj => by
      simp only [intsOf, List.length_map] at hj
      have h5 := Lib.bytesWorld_cell w e s1 j (by omega)
      simp only [World.cell?, Lib.bytesWorld_at_new] at h5
      have h6 : (Lib.bytesCells w e s1)[j]? = some (.int .u8 (s1.data.toList.getD j 0).toNat) := by simpa using h5
      rw [h6, hl]
      simp [intsOf, hj, List.getD]) (fun u hu => by
        obtain ⟨n, _, rfl⟩ := List.mem_map.1 hu
        rfl)
    refine ⟨.slice (some ⟨w.heap.size, 0, none⟩) s1.size (grownCap w s1.size 0 e), g', _, ?_, ?_, by rw [k1]; exact hpre, ?_, k4⟩
    · simp only [execOp, h]
      refine run_value ?_
      rw [hp]
      exact Lib.run_convert_string_bytes w src dst e s1 hs0 hd he
    · simp only [VR]
      exact ⟨_, _, _, rfl, by rw [hsz] at k2 ⊢; exact k2⟩
    · simpa [owns, recs, intsOf, hsz] using k5
  · exact absurd hr (by simp)

/-- A literal's operands with their numbers. -/
def idxd {α : Type} (ps : List α) : List (Nat × α) := (ps.zipIdx 0).map fun x => (x.2, x.1)
theorem idxd_map {α β : Type} (f : α → β) (ps : List α) : (idxd ps).map (fun x => (x.1, f x.2)) = idxd (ps.map f) := by
  simp [idxd, List.zipIdx_map, Function.comp_def]

theorem lit_run {w : World} {P : Program} {t e : TypeId} {ie : TypeInfo} {zr : Value} {z : Nat} (hu : P.underlying t = some (.slice e)) (hie : P.info? e = some ie) (hz : ie.zero = some zr) (hsz : ie.size = z) (h0 : 0 < z)
    (us : List Value) (hcs : ∀ u ∈ us, u.cells.size = z ∧ ∀ v ∈ u.cells.toList, v.oneCell' = true) (hsmall : us.length * z ≤ 16777216) :
    (Instr.buildSlice t us.length (idxd us).toArray).run P w = .ok (.slice (some ⟨w.heap.size, 0, none⟩) us.length us.length) (w.alloc (.cells (us.flatMap fun u => u.cells.toList).toArray e)) := by
  subst hsz
  by_cases hn : us = []
  · subst hn
    simp [Instr.buildSlice, run_underlying hu, sizeOf, typeInfo, hie, idxd, Instr.fill, newRow]
    congr 2
    apply Array.ext'
    simp
  · have hpos : 0 < us.length * ie.size := Nat.mul_pos (List.length_pos_iff.2 hn) h0
    exact run_buildSlice w t e us.length _ _ ie zr hu hie hz (by omega) (by omega) (Great.fill_whole h0 us _ (fun v hv => (hcs v hv).1) (by simp))
theorem lit_effect {F : Nat → Prop} {nt : Nat} {g : Gh} {s : St} {a : Act} {w : World} {P : Program} {t e : TypeId} {ie : TypeInfo} {zr : Value} {z : Nat} (hs : SimX F nt g s a w []) (hu : P.underlying t = some (.slice e)) (hie : P.info? e = some ie) (hz : ie.zero = some zr) (hsz : ie.size = z) (h0 : 0 < z)
    (us : List Value) (hcs : ∀ u ∈ us, u.cells.size = z ∧ ∀ v ∈ u.cells.toList, v.oneCell' = true) (hsmall : us.length * z ≤ 16777216) :
    ∃ g' w', (Instr.buildSlice t us.length (idxd us).toArray).run P w = .ok (.slice (some ⟨w.heap.size, 0, none⟩) us.length us.length) w' ∧ g'.obj = g.obj ∧ Row g' w' true (some ⟨w.heap.size, 0, none⟩) us.length us.length z (us.flatMap fun u => u.cells.toList) ∧ Ext g w g' w' ∧ Step F g w g' w' ∧ SimX F nt g' s a w' (recs (some ⟨w.heap.size, 0, none⟩) (us.length * z) (us.length * z)) := by
  subst hsz
  have hlen : ∀ us : List Value, (∀ u ∈ us, u.cells.size = ie.size ∧ ∀ v ∈ u.cells.toList, v.oneCell' = true) → (us.flatMap fun u => u.cells.toList).length = us.length * ie.size := by
    intro us
    induction us with
    | nil => intro _; simp
    | cons u us ih =>
      intro h
      rw [List.flatMap_cons, List.length_append, ih (fun v hv => h v (by simp [hv])), List.length_cons, Nat.add_mul]
      have := (h u (by simp)).1
      simp only [Array.length_toList]
      omega
  have hl := hlen us hcs
  have hrun : (Instr.buildSlice t us.length (idxd us).toArray).run P w = .ok (.slice (some ⟨w.heap.size, 0, none⟩) us.length us.length) (w.alloc (.cells (us.flatMap fun u => u.cells.toList).toArray e)) := by
    by_cases hn : us = []
    · subst hn
      simp [Instr.buildSlice, run_underlying hu, sizeOf, typeInfo, hie, idxd, Instr.fill, newRow]
      congr 2
      apply Array.ext'
      simp
    · have hpos : 0 < us.length * ie.size := Nat.mul_pos (List.length_pos_iff.2 hn) h0
      exact run_buildSlice w t e us.length _ _ ie zr hu hie hz (by omega) (by omega) (Great.fill_whole h0 us _ (fun v hv => (hcs v hv).1) (by simp))
  obtain ⟨g', h1, h2, h3, h4, h5⟩ := new_row (w' := w.alloc (.cells (us.flatMap fun u => u.cells.toList).toArray e)) hs (fun k hk => heap_alloc_old w _ k hk) (by simp) rfl rfl rfl (.plain (heap_alloc_new w _)) (n := us.length) (cp := us.length) hl (Nat.le_refl _) (by rw [List.size_toArray, hl]; exact Nat.le_refl _)
    (fun j _ => by simp) (fun u hu => by
      obtain ⟨v, hv, hu⟩ := List.mem_flatMap.1 hu
      exact (hcs v hv).2 u hu)
  exact ⟨g', _, hrun, h1, h2, h3, h4, h5⟩

theorem intsK_some {kd : IntKind} {R : Type} : ∀ {vs : List AV} {k : List Int → Option R} {r : R}, intsK kd vs k = some r → ∃ l, vs = l.map (AV.int kd) ∧ k l = some r
  | [], k, r, h => ⟨[], rfl, h⟩
  | v :: vs, k, r, h => by
    cases v with
    | int k' n =>
      simp only [intsK] at h
      obtain ⟨h1, h2⟩ | ⟨_, h2⟩ := cond_some h
      case inr => exact absurd h2 (by simp)
      simp only [decide_eq_true_eq] at h1
      subst h1
      obtain ⟨l, rfl, h3⟩ := intsK_some h2
      exact ⟨n :: l, rfl, h3⟩
    | _ => exact absurd h (by simp [intsK])
theorem strsK_some {R : Type} : ∀ {vs : List AV} {k : List Str → Option R} {r : R}, strsK vs k = some r → ∃ l, vs = l.map AV.str ∧ k l = some r
  | [], k, r, h => ⟨[], rfl, h⟩
  | v :: vs, k, r, h => by
    cases v with
    | str x =>
      simp only [strsK] at h
      obtain ⟨l, rfl, h3⟩ := strsK_some h
      exact ⟨x :: l, rfl, h3⟩
    | _ => exact absurd h (by simp [strsK])
theorem VRs_ints {g : Gh} {w : World} {kd : IntKind} : ∀ {l : List Int} {us : List Value}, VRs g w (l.map (AV.int kd)) us → us = l.map (Value.int kd)
  | [], us, h => by simp only [List.map_nil, VRs] at h; exact h
  | n :: l, us, h => by
    simp only [List.map_cons, VRs, VR] at h
    obtain ⟨v, us', rfl, rfl, h3⟩ := h
    rw [VRs_ints h3]; rfl
theorem VRs_strs {g : Gh} {w : World} : ∀ {l : List Str} {us : List Value}, VRs g w (l.map AV.str) us → us = l.map fun s => Value.string ⟨s.toArray⟩
  | [], us, h => by simp only [List.map_nil, VRs] at h; exact h
  | n :: l, us, h => by
    simp only [List.map_cons, VRs, VR] at h
    obtain ⟨v, us', rfl, ⟨s, rfl, h2⟩, h3⟩ := h
    rw [VRs_strs h3]
    simp only [List.map_cons]
    congr 2
    cases s
    subst h2
    simp

theorem ok_litI {kd : IntKind} {xs : List AX} {ps : List Operand} {t e : TypeId} {zr : Value} (h : o.op = .buildSlice t ps.length (idxd ps).toArray) (hu : c.P.underlying t = some (.slice e)) (hi : (c.P.info? e).map (fun i => (i.size, i.zero)) = some (1, some zr)) (hsmall : ps.length ≤ 16777216) (hx : fitXs xs ps = true) : OpOK c (.litI kd xs) o := by
  obtain ⟨i, hi1, hi2⟩ := Option.map_eq_some_iff.1 hi
  injection hi2 with hi2 hi3
  intro s R k r hr
  simp only [AOp.run] at hr
  obtain ⟨l, h1, h2⟩ := intsK_some hr
  refine ⟨_, _, h2, OpSem.run fun F g a w B hB hpre hs => ?_⟩
  have h3 := (AX.oks hs hx).1
  rw [h1] at h3
  have h4 := VRs_ints h3
  have hlen : ps.length = (ps.map a.eval).length := by simp
  obtain ⟨g', w', h5, h6, h7, h8, h9, h10⟩ := lit_effect hs hu hi1 hi3 hi2 (by omega) (ps.map a.eval) (by
    rw [h4]
    intro u hu
    obtain ⟨n, _, rfl⟩ := List.mem_map.1 hu
    exact ⟨rfl, by simp [Value.cells, Value.oneCell']⟩) (by rw [← hlen]; omega)
  refine ⟨.slice (some ⟨w.heap.size, 0, none⟩) (ps.map a.eval).length (ps.map a.eval).length, g', w', ?_, ?_, by rw [h6]; exact hpre, ?_, h9⟩
  · simp only [execOp, h]
    refine run_value ?_
    rw [hlen]
    have : ((idxd ps).toArray.map fun x => (x.1, a.eval x.2)) = (idxd (ps.map a.eval)).toArray := by
      rw [← idxd_map]; simp
    exact (congrArg (fun q => (Instr.buildSlice t (ps.map a.eval).length q).run c.P w) this).trans h5
  · simp only [VR]
    refine ⟨_, _, _, rfl, ?_⟩
    have e1 : ((ps.map a.eval).flatMap fun u => u.cells.toList) = l.map (Value.int kd) := by
      rw [h4]; simp only [List.flatMap_map, Value.cells]; rw [List.map_eq_flatMap]
    rw [e1] at h7
    exact h7
  · have e2 : (ps.map a.eval).length = l.length := by rw [h4]; simp
    rw [owns_ints, ← e2]
    simpa using h10

theorem ok_litS {xs : List AX} {ps : List Operand} {t e : TypeId} {zr : Value} (h : o.op = .buildSlice t ps.length (idxd ps).toArray) (hu : c.P.underlying t = some (.slice e)) (hi : (c.P.info? e).map (fun i => (i.size, i.zero)) = some (1, some zr)) (hsmall : ps.length ≤ 16777216) (hx : fitXs xs ps = true) : OpOK c (.litS xs) o := by
  obtain ⟨i, hi1, hi2⟩ := Option.map_eq_some_iff.1 hi
  injection hi2 with hi2 hi3
  intro s R k r hr
  simp only [AOp.run] at hr
  obtain ⟨l, h1, h2⟩ := strsK_some hr
  refine ⟨_, _, h2, OpSem.run fun F g a w B hB hpre hs => ?_⟩
  have h3 := (AX.oks hs hx).1
  rw [h1] at h3
  have h4 := VRs_strs h3
  have hlen : ps.length = (ps.map a.eval).length := by simp
  obtain ⟨g', w', h5, h6, h7, h8, h9, h10⟩ := lit_effect hs hu hi1 hi3 hi2 (by omega) (ps.map a.eval) (by
    rw [h4]
    intro u hu
    obtain ⟨n, _, rfl⟩ := List.mem_map.1 hu
    exact ⟨rfl, by simp [Value.cells, Value.oneCell']⟩) (by rw [← hlen]; omega)
  refine ⟨.slice (some ⟨w.heap.size, 0, none⟩) (ps.map a.eval).length (ps.map a.eval).length, g', w', ?_, ?_, by rw [h6]; exact hpre, ?_, h9⟩
  · simp only [execOp, h]
    refine run_value ?_
    rw [hlen]
    have : ((idxd ps).toArray.map fun x => (x.1, a.eval x.2)) = (idxd (ps.map a.eval)).toArray := by
      rw [← idxd_map]; simp
    exact (congrArg (fun q => (Instr.buildSlice t (ps.map a.eval).length q).run c.P w) this).trans h5
  · simp only [VR]
    refine ⟨_, _, _, rfl, ?_⟩
    have e1 : ((ps.map a.eval).flatMap fun u => u.cells.toList) = l.map fun s => Value.string ⟨s.toArray⟩ := by
      rw [h4]; simp only [List.flatMap_map, Value.cells]; rw [List.map_eq_flatMap]
    rw [e1] at h7
    exact h7
  · have e2 : (ps.map a.eval).length = l.length := by rw [h4]; simp
    rw [owns_strs, ← e2]
    simpa using h10

theorem ok_makeI {kd : IntKind} {bytes : Nat} {x : AX} {p : Operand} {t e : TypeId} (h : o.op = .makeSlice t p p) (hu : c.P.underlying t = some (.slice e)) (hi : (c.P.info? e).map (fun i => (i.size, i.bytes, i.zero)) = some (1, bytes, some (.int kd 0))) (hb0 : 0 < bytes) (hx : fitX x p = true) : OpOK c (.makeI kd bytes x) o := by
  obtain ⟨i, hi1, hi2⟩ := Option.map_eq_some_iff.1 hi
  injection hi2 with hi2 hi3
  injection hi3 with hi3 hi4
  intro s R k r hr
  simp only [AOp.run] at hr
  split at hr
  · rename_i km m hv
    obtain ⟨h1, hr2⟩ | ⟨_, hr2⟩ := cond_some hr
    case inr => exact absurd hr2 (by simp)
    obtain ⟨h2, hr3⟩ | ⟨_, hr3⟩ := cond_some hr2
    case inr => exact absurd hr3 (by simp)
    simp only [decide_eq_true_eq] at h1 h2
    refine ⟨_, _, hr3, OpSem.run fun F g a w B hB hpre hs => ?_⟩
    have hp := ev_read hs hx
    rw [hv] at hp
    simp only [VR] at hp
    have hm : m ≤ 140737488355328 := by
      have h5 : m * 1 ≤ m * (bytes : Int) := Int.mul_le_mul_of_nonneg_left (by omega) h1
      omega
    have hrun := run_make (P := c.P) w t e i _ hu hi1 hi4 km km m m h1 (Int.le_refl _) (by rw [hi3, Int.mul_comm]; omega) (by omega)
    obtain ⟨g', h3, h4, h5, h6, h7⟩ := new_row (w' := w.alloc (.cells (madeCells (Value.int kd 0).cells (m.toNat * i.size)) e)) hs (fun k hk => heap_alloc_old w _ k hk) (by simp) rfl rfl rfl (.plain (heap_alloc_new w _)) (n := m.toNat) (cp := m.toNat) (z := 1) (vs := (List.replicate m.toNat (0 : Int)).map (Value.int kd)) (by simp) (Nat.le_refl _) (by rw [size_madeCells, hi2]; omega)
      (fun j hj => by
        simp only [List.length_map, List.length_replicate] at hj
        have h8 : j < m.toNat * i.size := by rw [hi2]; omega
        simp [madeCells, Value.cells, hj, h8]
        simp [Nat.mod_one]) (fun u hu => by
        obtain ⟨n, _, rfl⟩ := List.mem_map.1 hu
        rfl)
    refine ⟨.slice (some ⟨w.heap.size, 0, none⟩) m.toNat m.toNat, g', _, ?_, ?_, by rw [h3]; exact hpre, ?_, h6⟩
    · simp only [execOp, h]
      refine run_value ?_
      rw [hp]
      exact hrun
    · simp only [VR]
      exact ⟨_, _, _, rfl, h4⟩
    · rw [owns_ints]
      simpa using h7
  · exact absurd hr (by simp)
theorem beq_lens {vs : List AV} {n : Nat} (h : (vs.all fun v => Nat.beq (cellsOf v).length n && (cellsOf v).all one && noPtrL (cellsOf v)) = true) : ∀ v ∈ vs, (cellsOf v).length = n ∧ (cellsOf v).all one = true ∧ noPtrL (cellsOf v) = true := by
  intro v hv
  have := List.all_eq_true.1 h v hv
  simp only [Bool.and_eq_true] at this
  exact ⟨Nat.eq_of_beq_eq_true this.1.1, this.1.2, this.2⟩
theorem cellsOf_disown {v : AV} : cellsOf (disown v) = disownL (cellsOf v) := by cases v <;> rfl
theorem VRss_lits {g : Gh} {w : World} : ∀ {vs : List AV} {us : List Value}, VRs g w vs us → (∀ v ∈ vs, (cellsOf v).all one = true) → VRss g w (vs.map fun v => cellsOf (disown v)) (us.flatMap fun u => u.cells.toList)
  | [], us, h, _ => by simp only [VRs] at h; subst h; simp [VRss]
  | v :: vs, us, h, h1 => by
    simp only [VRs] at h
    obtain ⟨u, us', rfl, h2, h3⟩ := h
    simp only [List.map_cons, List.flatMap_cons, VRss]
    refine ⟨_, _, rfl, ?_, VRss_lits h3 (fun v hv => h1 v (by simp [hv]))⟩
    rw [cellsOf_disown]
    exact VRs.disown _ _ (cellsOf_ok h2 (h1 v (by simp))).1
mutual
theorem noPtr_disown : ∀ (c : AV), noPtr (disown c) = noPtr c
  | .undef | .int .. | .bool .. | .str .. | .ints .. | .strs .. | .sl .. | .eptr .. | .mut .. | .mo .. | .yld _ | .nilFunc | .nilIface => rfl
  | .ptr none | .ptr (some _) | .map none | .map (some _) => rfl
  | .agg cs | .tuple cs => by simp only [disown, noPtr]; exact noPtrL_disown cs
  | .func f a b => by simp only [disown, noPtr, noPtrL_disown a, noPtrL_disown b]
  | .iface t v => by simp only [disown, noPtr]; exact noPtr_disown v
theorem noPtrL_disown : ∀ (cs : List AV), noPtrL (disownL cs) = noPtrL cs
  | [] => rfl
  | c :: cs => by simp only [disownL, noPtrL, noPtr_disown c, noPtrL_disown cs]
end
theorem disownL_length : ∀ (cs : List AV), (disownL cs).length = cs.length
  | [] => rfl
  | c :: cs => by simp [disownL, disownL_length cs]

theorem ok_litC {n : Nat} {xs : List AX} {ps : List Operand} {t e : TypeId} {zr : Value} (h : o.op = .buildSlice t ps.length (idxd ps).toArray) (hu : c.P.underlying t = some (.slice e)) (hi : (c.P.info? e).map (fun i => (i.size, i.zero)) = some (n, some zr)) (h0 : 0 < n) (hsmall : ps.length * n ≤ 16777216) (hx : fitXs xs ps = true) : OpOK c (.litC n xs) o := by
  obtain ⟨i, hi1, hi2⟩ := Option.map_eq_some_iff.1 hi
  injection hi2 with hi2 hi3
  intro s R k r hr
  simp only [AOp.run] at hr
  obtain ⟨h1, h2⟩ | ⟨_, h2⟩ := cond_some hr
  case inr => exact absurd h2 (by simp)
  refine ⟨_, _, h2, OpSem.run fun F g a w B hB hpre hs => ?_⟩
  have h3 := (AX.oks hs hx).1
  have h4 := beq_lens h1
  have hlen : ps.length = (ps.map a.eval).length := by simp
  have hvl := h3.length
  obtain ⟨g', w', h5, h6, h7, h8, h9, h10⟩ := lit_effect hs hu hi1 hi3 hi2 h0 (ps.map a.eval) (by
    intro u hu
    obtain ⟨j, hj, rfl⟩ := List.mem_iff_getElem.1 hu
    obtain ⟨v', h11, h12⟩ := h3.get j ((evs s xs)[j]'(by omega)) (List.getElem?_eq_getElem _)
    rw [List.getElem?_eq_getElem hj] at h11
    injection h11 with h11
    rw [h11]
    have h13 := h4 _ (List.getElem_mem (by omega : j < (evs s xs).length))
    obtain ⟨h14, h15, _⟩ := cellsOf_ok h12 h13.2.1
    exact ⟨by have := h14.length; rw [h13.1] at this; simpa using this.symm, h15⟩) (by rw [← hlen]; omega)
  refine ⟨.slice (some ⟨w.heap.size, 0, none⟩) (ps.map a.eval).length (ps.map a.eval).length, g', w', ?_, ?_, by rw [h6]; exact hpre, ?_, h9⟩
  · simp only [execOp, h]
    refine run_value ?_
    rw [hlen]
    have : ((idxd ps).toArray.map fun x => (x.1, a.eval x.2)) = (idxd (ps.map a.eval)).toArray := by
      rw [← idxd_map]; simp
    exact (congrArg (fun q => (Instr.buildSlice t (ps.map a.eval).length q).run c.P w) this).trans h5
  · simp only [VR]
    refine ⟨_, _, _, _, rfl, h7, by rw [List.length_map]; exact hvl, ?_, VRss.ext h8 _ _ (VRss_lits h3 (fun v hv => (h4 v hv).2.1))⟩
    intro e he
    obtain ⟨v, hv, rfl⟩ := List.mem_map.1 he
    rw [cellsOf_disown, disownL_length, noPtrL_disown]
    exact ⟨(h4 v hv).1, (h4 v hv).2.2⟩
  · rw [owns_sl, List.length_map, hvl]
    exact h10

theorem simx_put_heap {s : St} {H : List AObj} {a : Act} : slotOwns ⟨s.slots, H⟩ 0 a.tmps.toList = slotOwns s 0 a.tmps.toList := slotOwns_congr _ _ (fun _ _ => rfl)

theorem evs_length (s : St) : ∀ xs : List AX, (evs s xs).length = xs.length
  | [] => rfl
  | x :: xs => by rw [evs, List.length_cons, evs_length (x.st s) xs, List.length_cons]
/-- A literal of one-cell elements (pointers) as an object. -/
theorem ok_litP {xs : List AX} {ps : List Operand} {t e : TypeId} {zr : Value} (h : o.op = .buildSlice t ps.length (idxd ps).toArray) (hu : c.P.underlying t = some (.slice e)) (hi : (c.P.info? e).map (fun i => (i.size, i.zero)) = some (1, some zr)) (hsmall : ps.length * 1 ≤ 16777216) (hx : fitXs xs ps = true) : OpOK c (.litP e xs) o := by
  obtain ⟨i, hi1, hi2⟩ := Option.map_eq_some_iff.1 hi
  injection hi2 with hi2 hi3
  intro s R k r hr
  simp only [AOp.run] at hr
  obtain ⟨h1, h2⟩ | ⟨_, h2⟩ := cond_some hr
  case inr => exact absurd h2 (by simp)
  refine ⟨_, _, h2, OpSem.run fun F g a w B hB hpre hs => ?_⟩
  have h3 := (AX.oks hs hx).1
  have hlen : ps.length = (ps.map a.eval).length := by simp
  have hvl := h3.length
  have hones : ∀ u ∈ ps.map a.eval, u.oneCell' = true := by
    intro u hu
    obtain ⟨j, hj, rfl⟩ := List.mem_iff_getElem.1 hu
    obtain ⟨v', h11, h12⟩ := h3.get j ((evs s xs)[j]'(by omega)) (List.getElem?_eq_getElem _)
    rw [List.getElem?_eq_getElem hj] at h11
    injection h11 with h11
    rw [h11]
    exact one_cell (List.all_eq_true.1 h1 _ (List.getElem_mem _)) h12
  have hcs : ∀ u ∈ ps.map a.eval, u.cells.size = 1 ∧ ∀ v ∈ u.cells.toList, v.oneCell' = true := fun u hu => by
    rw [cells_one (hones u hu)]
    exact ⟨rfl, fun v hv => by simp at hv; rw [hv]; exact hones u hu⟩
  have hflat : ∀ l : List Value, (∀ u ∈ l, u.oneCell' = true) → (l.flatMap fun u => u.cells.toList) = l := by
    intro l
    induction l with
    | nil => intro _; rfl
    | cons u l ih =>
      intro h
      rw [List.flatMap_cons, cells_one (h u (by simp)), ih (fun v hv => h v (by simp [hv]))]
      rfl
  have hrun := lit_run (w := w) (P := c.P) hu hi1 hi3 hi2 (by omega) (ps.map a.eval) hcs (by rw [← hlen]; omega)
  rw [hflat _ hones] at hrun
  have hc := hs.core
  rw [List.nil_append] at hc
  obtain ⟨g', e1, e2, e3, e4⟩ := Core.newObj (cs := disownL (evs s xs)) (arr := (ps.map a.eval).toArray) (t := e) (w' := w.alloc (.cells (ps.map a.eval).toArray e)) (os := slotOwns s 0 a.tmps.toList) (by rw [ownsL_disown, List.nil_append]; exact hc) (fun k hk => heap_alloc_old w _ k hk) (by simp) rfl rfl rfl (heap_alloc_new w _) (by simpa using VRs.disown _ _ h3)
  have hgl : g.obj.length = s.heap.length := hs.core.heap.length.symm
  refine ⟨.slice (some ⟨w.heap.size, 0, none⟩) (ps.map a.eval).length (ps.map a.eval).length, g', _, ?_, ?_, by rw [e1]; exact hpre.trans (List.prefix_append _ _), ?_, e3⟩
  · simp only [execOp, h]
    refine run_value ?_
    rw [hlen]
    have : ((idxd ps).toArray.map fun x => (x.1, a.eval x.2)) = (idxd (ps.map a.eval)).toArray := by
      rw [← idxd_map]; simp
    exact (congrArg (fun q => (Instr.buildSlice t (ps.map a.eval).length q).run c.P w) this).trans hrun
  · simp only [VR]
    have hxl : xs.length = (ps.map a.eval).length := by rw [← hvl, evs_length]
    exact ⟨_, w.heap.size, _, by rw [hxl], fun _ => rfl, by rw [hxl]; exact Nat.le_refl _, by rw [e1, ← hgl, List.getElem?_append_right (Nat.le_refl _), Nat.sub_self]; rfl⟩
  · refine ⟨hs.size, fun t' => VR.ext e2 _ _ (hs.slots t'), ?_⟩
    rw [simx_put_heap]
    have : owns (.mut s.heap.length 0 xs.length 1) (.slice (some ⟨w.heap.size, 0, none⟩) (ps.map a.eval).length (ps.map a.eval).length) = [] := rfl
    rw [this, List.nil_append]
    exact e4

theorem ok_box {t : TypeId} {n : Nat} {x : AX} {p : Operand} (h : o.op = .box t p) (hx : fitX x p = true) : OpOK c (.box t n x) o := by
  intro s R k r hr
  simp only [AOp.run] at hr
  obtain ⟨h1, h2⟩ | ⟨_, h2⟩ := cond_some hr
  case inr => exact absurd h2 (by simp)
  simp only [Bool.and_eq_true, decide_eq_true_eq] at h1
  refine ⟨_, _, h2, OpSem.run fun F g a w B hB hpre hs => ?_⟩
  obtain ⟨h3, h4⟩ := AX.ok hs hx
  obtain ⟨h5, h6, h7⟩ := cellsOf_ok h3 h1.2
  have hc := h4.core
  rw [← h7, List.append_nil] at hc
  obtain ⟨g', e1, e2, e3, e4⟩ := hc.newObj (w' := w.alloc (.cells (a.eval p).cells t)) (t := t) (fun k hk => heap_alloc_old w _ k hk) (by simp) rfl rfl rfl (heap_alloc_new w _) h5
  have hst : (x.st s).heap = s.heap := by cases x <;> rfl
  refine ⟨.pointer (some ⟨w.heap.size, 0, none⟩), g', w.alloc (.cells (a.eval p).cells t), ?_, ?_, by rw [e1]; exact hpre.trans (List.prefix_append _ _), ?_, e3⟩
  · simp [execOp, h, Instr.box, newVar, newRow]
  · simp only [VR]
    refine ⟨_, rfl, ?_⟩
    rw [e1, ← hst, h4.core.heap.length]
    simp
  · refine ⟨h4.size, fun t' => VR.ext e2 _ _ (h4.slots t'), ?_⟩
    rw [show ((⟨(x.st s).slots, s.heap ++ [.cells t (cellsOf (x.ev s))]⟩ : St)).heap = (x.st s).heap ++ [.cells t (cellsOf (x.ev s))] by rw [hst]]
    rw [simx_put_heap]
    exact e4

theorem ok_alloc {t : TypeId} {zero : List AV} {zr : Value} (h : o.op = .alloc t) (hz : (c.P.info? t).bind (·.zero) = some zr) (hf : fitCs zero zr.cells.toList = true) : OpOK c (.alloc t zero) o := by
  intro s R k r hr
  simp only [AOp.run] at hr
  obtain ⟨i, hi1, hi2⟩ := Option.bind_eq_some_iff.1 hz
  refine ⟨_, _, hr, OpSem.run fun F g a w B hB hpre hs => ?_⟩
  obtain ⟨h5, h7⟩ := fitCs_ok g w zero zr.cells.toList hf
  have hc := hs.core
  have hc' : Core F g s.heap (ownsL zero zr.cells.toList ++ slotOwns s 0 a.tmps.toList) w := by rw [h7]; exact hc
  obtain ⟨g', e1, e2, e3, e4⟩ := hc'.newObj (w' := w.alloc (.cells zr.cells t)) (t := t) (fun k hk => heap_alloc_old w _ k hk) (by simp) rfl rfl rfl (heap_alloc_new w _) h5
  refine ⟨.pointer (some ⟨w.heap.size, 0, none⟩), g', w.alloc (.cells zr.cells t), ?_, ?_, by rw [e1]; exact hpre.trans (List.prefix_append _ _), ?_, e3⟩
  · simp [execOp, h, Instr.alloc, zeroValue, typeInfo, hi1, hi2, newVar, newRow]
  · simp only [VR]
    refine ⟨_, rfl, ?_⟩
    rw [e1, hs.core.heap.length]
    simp
  · exact ⟨hs.size, fun t' => VR.ext e2 _ _ (hs.slots t'), by rw [simx_put_heap]; exact e4⟩

theorem setCells_length : ∀ (us : List AV) (cs : List AV) (off : Nat), (setCells cs off us).length = cs.length
  | [], _, _ => rfl
  | u :: us, cs, off => by simp [setCells, setCells_length us]
/-- Cells put into a row. -/
def putCells (cs : List Value) (off : Nat) : List Value → List Value
  | [] => cs
  | v :: vs => putCells (cs.set off v) (off + 1) vs
theorem putCells_length : ∀ (us : List Value) (cs : List Value) (off : Nat), (putCells cs off us).length = cs.length
  | [], _, _ => rfl
  | u :: us, cs, off => by simp [putCells, putCells_length us]
theorem putCells_eq : ∀ (us : List Value) (cs : List Value) (off : Nat), off + us.length ≤ cs.length → putCells cs off us = cs.take off ++ us ++ cs.drop (off + us.length)
  | [], cs, off, _ => by simp [putCells]
  | u :: us, cs, off, h => by
    simp only [List.length_cons] at h
    rw [putCells, putCells_eq us (cs.set off u) (off + 1) (by simp; omega)]
    have := list_seg_step cs off u us (by omega)
    simp only [List.length_cons]
    rw [show off + (us.length + 1) = off + 1 + us.length by omega]
    rw [this]
    congr 2
    omega
theorem VRs.set {g : Gh} {w : World} {u : AV} {v : Value} (hv : VR g w u v) : ∀ {cs : List AV} {vs : List Value} (i : Nat), VRs g w cs vs → VRs g w (cs.set i u) (vs.set i v)
  | [], vs, i, h => by simp only [VRs] at h; subst h; simp [VRs]
  | c :: cs, vs, i, h => by
    simp only [VRs] at h
    obtain ⟨v', us, rfl, h2, h3⟩ := h
    cases i with
    | zero => simp only [List.set_cons_zero, VRs]; exact ⟨v, us, rfl, hv, h3⟩
    | succ i => simp only [List.set_cons_succ, VRs]; exact ⟨v', _, rfl, h2, VRs.set hv i h3⟩
theorem VRs.setCells {g : Gh} {w : World} : ∀ {us : List AV} {vs : List Value} {cs : List AV} {ws : List Value} (off : Nat), VRs g w us vs → VRs g w cs ws → VRs g w (setCells cs off us) (putCells ws off vs)
  | [], vs, cs, ws, off, h, k => by simp only [VRs] at h; subst h; exact k
  | u :: us, vs, cs, ws, off, h, k => by
    simp only [VRs] at h
    obtain ⟨v, vs', rfl, h2, h3⟩ := h
    exact VRs.setCells (off + 1) h3 (k.set h2 off)
theorem ownsL_set {u : AV} {v : Value} : ∀ {cs : List AV} {vs : List Value} (i : Nat), (∀ b, oc b (ownsL (cs.set i u) (vs.set i v)) ≤ oc b (owns u v) + oc b (ownsL cs vs)) ∧ ∀ r, r ∈ ownsL (cs.set i u) (vs.set i v) → r ∈ owns u v ∨ r ∈ ownsL cs vs
  | [], vs, i => by simp [ownsL, oc_nil]
  | c :: cs, [], i => by cases i <;> simp [ownsL, oc_nil]
  | c :: cs, v' :: vs, i => by
    cases i with
    | zero =>
      simp only [List.set_cons_zero, ownsL]
      exact ⟨fun b => by simp only [oc_append]; omega, fun r hr => by simp only [List.mem_append] at hr ⊢; rcases hr with h | h <;> simp [h]⟩
    | succ i =>
      obtain ⟨h1, h2⟩ := ownsL_set (u := u) (v := v) (cs := cs) (vs := vs) i
      simp only [List.set_cons_succ, ownsL]
      exact ⟨fun b => by have := h1 b; simp only [oc_append]; omega, fun r hr => by
        simp only [List.mem_append] at hr ⊢
        rcases hr with h | h
        · simp [h]
        · rcases h2 r h with h | h <;> simp [h]⟩
theorem ownsL_setCells : ∀ {us : List AV} {vs : List Value} {cs : List AV} {ws : List Value} (off : Nat), us.length = vs.length → (∀ b, oc b (ownsL (setCells cs off us) (putCells ws off vs)) ≤ oc b (ownsL us vs) + oc b (ownsL cs ws)) ∧ ∀ r, r ∈ ownsL (setCells cs off us) (putCells ws off vs) → r ∈ ownsL us vs ∨ r ∈ ownsL cs ws
  | [], vs, cs, ws, off, h => by
    have : vs = [] := List.length_eq_zero_iff.1 (by simpa using h.symm)
    subst this
    exact ⟨fun b => by simp only [Sh.setCells, putCells]; omega, fun r hr => .inr hr⟩
  | u :: us, [], cs, ws, off, h => by simp at h
  | u :: us, v :: vs, cs, ws, off, h => by
    obtain ⟨h1, h2⟩ := ownsL_setCells (us := us) (vs := vs) (cs := cs.set off u) (ws := ws.set off v) (off + 1) (by simpa using h)
    obtain ⟨h3, h4⟩ := ownsL_set (u := u) (v := v) (cs := cs) (vs := ws) off
    simp only [Sh.setCells, putCells, ownsL]
    exact ⟨fun b => by have := h1 b; have := h3 b; simp only [oc_append]; omega, fun r hr => by
      simp only [List.mem_append]
      rcases h2 r hr with h | h
      · simp [h]
      · rcases h4 r h with h | h <;> simp [h]⟩

theorem VR.plain' {g g1 : Gh} {w w1 : World} : ∀ {a : AV} {v : Value}, a.plain = true → VR g w a v → VR g1 w1 a v
  | .int _ _, _, _, h => h
  | .bool _, _, _, h => h
  | .str _, _, _, h => h
theorem VRs.plain' {g g1 : Gh} {w w1 : World} : ∀ {l : List AV} (vs : List Value), l.all AV.plain = true → VRs g w l vs → VRs g1 w1 l vs
  | [], _, _, h => h
  | a :: l, vs, hp, h => by
    simp only [List.all_cons, Bool.and_eq_true] at hp
    simp only [VRs] at h ⊢
    obtain ⟨v, us, rfl, h1, h2⟩ := h
    exact ⟨v, us, rfl, VR.plain' hp.1 h1, VRs.plain' us hp.2 h2⟩
theorem VRss.plain' {g g1 : Gh} {w w1 : World} : ∀ {l : List (List AV)}, (∀ e ∈ l, e.all AV.plain = true) → ∀ (vs : List Value), VRss g w l vs → VRss g1 w1 l vs
  | [], _, _, h => h
  | a :: l, hp, vs, h => by
    simp only [VRss] at h ⊢
    obtain ⟨p, q, rfl, h1, h2⟩ := h
    exact ⟨p, q, rfl, VRs.plain' p (hp a (by simp)) h1, VRss.plain' (fun e he => hp e (by simp [he])) q h2⟩
theorem VRs.len' {g : Gh} {w : World} : ∀ {l : List AV} {vs : List Value}, VRs g w l vs → vs.length = l.length
  | [], vs, h => by simp only [VRs] at h; subst h; rfl
  | a :: l, vs, h => by
    simp only [VRs] at h
    obtain ⟨v, us, rfl, _, h2⟩ := h
    simp [VRs.len' h2]
theorem VRs.setAt {g : Gh} {w : World} {a : AV} {v : Value} (ha : VR g w a v) : ∀ {l : List AV} {vs : List Value} (j : Nat), VRs g w l vs → VRs g w (l.set j a) (vs.set j v)
  | [], vs, j, h => by simp only [VRs] at h; subst h; simp [VRs]
  | b :: l, vs, 0, h => by
    simp only [VRs] at h
    obtain ⟨u, us, rfl, h1, h2⟩ := h
    simp only [List.set_cons_zero, VRs]
    exact ⟨_, _, rfl, ha, h2⟩
  | b :: l, vs, j + 1, h => by
    simp only [VRs] at h
    obtain ⟨u, us, rfl, h1, h2⟩ := h
    simp only [List.set_cons_succ, VRs]
    exact ⟨_, _, rfl, h1, VRs.setAt ha j h2⟩
theorem VRss.setCell {g : Gh} {w : World} {sz : Nat} {a : AV} {v : Value} : ∀ {els : List (List AV)} {vs : List Value} {off : Nat} {e : List AV}, (∀ e ∈ els, e.length = sz) → VRss g w els vs → els[off / sz]? = some e → off % sz < e.length → VR g w a v → VRss g w (els.set (off / sz) (e.set (off % sz) a)) (vs.set off v)
  | [], _, _, _, _, _, h, _, _ => by simp at h
  | b :: els, vs, off, e, hl, h, he, hj, ha => by
    simp only [VRss] at h
    obtain ⟨p, q, rfl, h1, h2⟩ := h
    have hb := hl b (by simp)
    have hp := VRs.len' h1
    have h0 : 0 < sz := by
      have := hl e (List.mem_of_getElem? he)
      omega
    by_cases hlt : off < sz
    · have e1 : off / sz = 0 := Nat.div_eq_of_lt hlt
      have e2 : off % sz = off := Nat.mod_eq_of_lt hlt
      rw [e1] at he ⊢
      rw [e2] at hj ⊢
      simp at he
      subst he
      rw [List.set_cons_zero, List.set_append_left _ _ (by omega)]
      simp only [VRss]
      exact ⟨_, _, rfl, VRs.setAt ha off h1, h2⟩
    · have e1 : off / sz = (off - sz) / sz + 1 := by
        rw [Nat.div_eq_sub_div h0 (by omega)]
      have e2 : off % sz = (off - sz) % sz := by rw [Nat.mod_eq_sub_mod (by omega)]
      rw [e1] at he ⊢
      rw [e2] at hj ⊢
      simp at he
      have ih := VRss.setCell (fun e he => hl e (by simp [he])) h2 he hj ha
      rw [List.set_cons_succ, List.set_append_right _ _ (by omega), hp, hb]
      simp only [VRss]
      exact ⟨_, _, rfl, h1, ih⟩
/-- A store into a row that turns. -/
theorem row_store {s : St} {x : AX} {p q : Operand} {t : TypeId} {id off : Nat} {ob ob' : AObj} {v : Value} (h : o.op = .store t p q) (hn : (c.P.info? t).map (·.size) = some 1) (hx : fitX x p = true) (hv : x.ev s = .ptr (some (id, off))) (hob : s.heap[id]? = some ob) (hdd : ob.dead = false)
    (hfit : ∀ (g : Gh) (w : World) (b : Nat), ObjR g w b ob → ∃ arr tt, CellsAt w b arr tt ∧ off < arr.size ∧ True)
    (hset : ∀ (g : Gh) (w w' : World) (b : Nat) (arr arr' : Array Value) (tt : TypeId), ObjR g w b ob → CellsAt w b arr tt → CellsAt w' b arr' tt → arr'.toList = arr.toList.set off v → (∀ fz, w.heap[b]? = some (.cells arr tt fz) → w'.heap[b]? = some (.cells arr' tt fz)) → ObjR g w' b ob')
    (hO : ∀ w b, ownsO w b ob = []) (hO' : ∀ w b, ownsO w b ob' = []) (hone : v.oneCell' = true) (F : Nat → Prop) (g : Gh) (a : Act) (w : World) (B : List Nat) (hpre : B <+: g.obj) (hs : SimX F c.nt g s a w []) (hval : a.eval q = v) (ro : Option Nat) (dn : Nat) (next : Act → World → Prop) (Q : Exit → Act → World → Prop)
    (hnext : ∀ v' g' w', VR g' w' .undef v' → B <+: g'.obj → SimX F c.nt g' ⟨s.slots, s.heap.set id ob'⟩ a w' (owns .undef v') → Step F g w g' w' → next (a.put o.dst v') w') : o.wpIn (fw ro) dn c.P a w next Q := by
  have hp := ev_read hs hx
  rw [hv] at hp
  simp only [VR] at hp
  obtain ⟨b, hp, hb⟩ := hp
  have hobj := getObj_ok hs.core.heap id b _ hob hb
  obtain ⟨arr, tt, hw, hlt, _⟩ := hfit g w b hobj
  have hst := run_storeCells_C c.P b off tt [v] 0 arr w hw (by simp; omega) (by simpa using hone)
  simp only [Nat.add_zero] at hst
  have hrun : (execOp a.eval o).run c.P w = .ok .skip (w.setRow b (arr.toList.take off ++ [v] ++ arr.toList.drop (off + 1)).toArray) := by
    have hcs : v.cells = #[v] := cells_one hone
    simp only [execOp, h, Instr.storeAt, hp, hval, Instr.sureAddr, Sem.run_bind, Sem.run_pure, Result.andThen, storeVar, hcs, run_sizeOf' hn]
    rw [if_neg (by simp)]
    simp only [Sem.run_bind, hst, Sem.run_pure, Result.andThen]
    rfl
  have hw' := hw.setRow (new := (arr.toList.take off ++ [v] ++ arr.toList.drop (off + 1)).toArray) (by simp; omega)
  have heq : (arr.toList.take off ++ [v] ++ arr.toList.drop (off + 1)).toArray.toList = arr.toList.set off v := by
    simp only [List.append_assoc, List.singleton_append]
    rw [List.set_eq_take_append_cons_drop, if_pos (by simpa using hlt)]
  have hc := hs.core
  rw [List.nil_append] at hc
  obtain ⟨e1, e2, e3⟩ := hc.setObjG (ob' := ob') (os0 := []) (os1 := []) (os' := slotOwns s 0 a.tmps.toList) hob hb hdd (fun k hk => setRow_other w b k _ hk) (by rw [hw.bsz, hw'.bsz]; simp; omega) (by simp) rfl rfl rfl (hO _ _) (hO' _ _)
    (fun _ => hset g w _ b arr _ tt hobj hw hw' heq (fun fz hf => setRow_heap w b arr _ tt fz hf)) (fun x => Nat.le_refl _) (fun r hr => hr)
  refine opw_skip hrun (hnext undef g _ (by simp [VR]) hpre ?_ e2)
  refine ⟨hs.size, fun t' => VR.ext e1 _ _ (hs.slots t'), ?_⟩
  rw [simx_put_heap, owns_undef]
  exact e3

theorem ok_store {n : Nat} {x y : AX} {p q : Operand} {t : TypeId} (h : o.op = .store t p q) (hn : (c.P.info? t).map (·.size) = some n) (hx : fitX x p = true) (hy : fitX y q = true) : OpOK c (.store n x y) o := by
  intro s R k r hr
  simp only [AOp.run] at hr
  split at hr
  · rename_i id off hv
    split at hr
    · rename_i ot cs hob
      obtain ⟨h1, h2⟩ | ⟨_, h2⟩ := cond_some hr
      case inr => exact absurd h2 (by simp)
      simp only [Bool.and_eq_true, decide_eq_true_eq] at h1
      obtain ⟨⟨h1, h1b⟩, h1c⟩ := h1
      refine ⟨_, _, h2, fun F g a w B hB hpre hs ro dn next Q hnext => ?_⟩
      have hp := ev_read hs hx
      rw [hv] at hp
      simp only [VR] at hp
      obtain ⟨b, hp, hbi⟩ := hp
      obtain ⟨h3, h4⟩ := AX.ok hs hy
      obtain ⟨h5, h6, h7⟩ := cellsOf_ok h3 h1c
      have hst : (y.st s).heap = s.heap := by cases y <;> rfl
      have hobj := getObj_ok hs.core.heap id b _ hob hbi
      simp only [ObjR] at hobj
      obtain ⟨arr, hw, hvs⟩ := hobj
      have hul := h5.length
      have hvl := hvs.length
      simp only [Array.length_toList] at hul hvl
      have hrun : (execOp a.eval o).run c.P w = .ok .skip (w.setRow b (putCells arr.toList off (a.eval q).cells.toList).toArray) := by
        have hst := run_storeCells_at c.P b off ot (a.eval q).cells.toList 0 arr w hw (by simp; omega) h6
        simp only [Nat.add_zero] at hst
        rw [putCells_eq _ _ _ (by simp; omega)]
        have hne : ¬ (a.eval q).cells.size ≠ n := by omega
        simp only [execOp, h, Instr.storeAt, hp, Instr.sureAddr, Sem.run_bind, Sem.run_pure, Result.andThen, storeVar, run_sizeOf' hn, if_neg hne, hst]
      have hw' := setRow_heap w b arr (putCells arr.toList off (a.eval q).cells.toList).toArray ot _ hw
      have hc := h4.core
      rw [hst] at hc
      obtain ⟨k1, k2⟩ := ownsL_setCells (us := cellsOf (y.ev s)) (vs := (a.eval q).cells.toList) (cs := cs) (ws := arr.toList) off (by simpa using hul)
      obtain ⟨e1, e2, e3⟩ := hc.setObj (os' := slotOwns (y.st s) 0 a.tmps.toList) (cs' := setCells cs off (cellsOf (y.ev s))) hob hbi hw hw' (by simp; rw [putCells_eq _ _ _ (by simp; omega)]; simp; omega) (fun k hk => setRow_other w b k _ hk) (by simp) rfl rfl rfl (by simpa using h5.setCells off hvs)
        (fun x => by have := k1 x; rw [h7] at this; simp only [oc_append, oc_nil, List.toList_toArray] at this ⊢; omega) (fun r hr => by
          rcases hr with hr | hr
          · exact .inl (List.mem_append_right _ hr)
          · rcases k2 r hr with h | h
            · rw [h7] at h; exact .inl (List.mem_append_left _ (List.mem_append_left _ h))
            · exact .inr h)
      refine opw_skip hrun (hnext undef g _ (by simp [VR]) hpre ?_ e2)
      refine ⟨h4.size, fun t' => VR.ext e1 _ _ (h4.slots t'), ?_⟩
      rw [simx_put_heap]
      rw [owns_undef]
      exact e3
    · rename_i ot xs hob
      split at hr
      · rename_i y0 hy0
        obtain ⟨hn1, hr2⟩ | ⟨_, hr2⟩ := cond_some hr
        case inr => exact absurd hr2 (by simp)
        obtain ⟨hlt, hr3⟩ | ⟨_, hr3⟩ := cond_some hr2
        case inr => exact absurd hr3 (by simp)
        have hn1 := Nat.eq_of_beq_eq_true hn1
        simp only [decide_eq_true_eq] at hlt
        subst hn1
        refine ⟨_, _, hr3, fun F g a w B hB hpre hs ro dn next Q hnext => ?_⟩
        have hq := ev_read hs hy
        rw [hy0] at hq
        simp only [VR] at hq
        obtain ⟨s1, hq, hs1⟩ := hq
        have hval : a.eval q = .string ⟨y0.toArray⟩ := by rw [hq, ← hs1]
        exact row_store (ob' := .rowS ot (xs.set off y0)) h hn hx hv hob rfl (fun g w b hob' => by
          simp only [ObjR] at hob'
          obtain ⟨arr0, rest, h1, h2⟩ := hob'
          exact ⟨arr0, ot, .plain h1, by have := congrArg List.length h2; simp at this; omega, trivial⟩) (fun g w w' b arr arr' tt hob' hw hw' heq hfz => by
          simp only [ObjR] at hob' ⊢
          obtain ⟨arr0, rest, h1, h2⟩ := hob'
          obtain ⟨rfl, rfl⟩ := hw.uniq (.plain h1)
          exact ⟨arr', rest, hfz _ h1, by rw [heq, h2, List.set_append_left _ _ (by simpa using hlt), List.map_set]⟩) (fun _ _ => rfl) (fun _ _ => rfl) rfl F g a w B hpre hs hval ro dn next Q hnext
      · exact absurd hr (by simp)
    · rename_i ot kd xs hob
      split at hr
      · rename_i kv y0 hy0
        obtain ⟨hn1, hr2⟩ | ⟨_, hr2⟩ := cond_some hr
        case inr => exact absurd hr2 (by simp)
        obtain ⟨hlt, hr3⟩ | ⟨_, hr3⟩ := cond_some hr2
        case inr => exact absurd hr3 (by simp)
        simp only [Bool.and_eq_true, decide_eq_true_eq] at hn1 hlt
        obtain ⟨hn1, rfl⟩ := hn1
        have hn1 := Nat.eq_of_beq_eq_true hn1
        subst hn1
        refine ⟨_, _, hr3, fun F g a w B hB hpre hs ro dn next Q hnext => ?_⟩
        have hval := ev_read hs hy
        rw [hy0] at hval
        simp only [VR] at hval
        exact row_store (ob' := .rowI ot kv (xs.set off y0)) h hn hx hv hob rfl (fun g w b hob' => by
          simp only [ObjR] at hob'
          obtain ⟨arr0, rest, h1, h2⟩ := hob'
          exact ⟨arr0, ot, .plain h1, by have := congrArg List.length h2; simp at this; omega, trivial⟩) (fun g w w' b arr arr' tt hob' hw hw' heq hfz => by
          simp only [ObjR] at hob' ⊢
          obtain ⟨arr0, rest, h1, h2⟩ := hob'
          obtain ⟨rfl, rfl⟩ := hw.uniq (.plain h1)
          exact ⟨arr', rest, hfz _ h1, by rw [heq, h2, List.set_append_left _ _ (by simpa using hlt), List.map_set]⟩) (fun _ _ => rfl) (fun _ _ => rfl) rfl F g a w B hpre hs hval ro dn next Q hnext
      · exact absurd hr (by simp)
    · rename_i kd xs hob
      split at hr
      · rename_i kv y0 hy0
        obtain ⟨hn1, hr2⟩ | ⟨_, hr2⟩ := cond_some hr
        case inr => exact absurd hr2 (by simp)
        obtain ⟨hlt, hr3⟩ | ⟨_, hr3⟩ := cond_some hr2
        case inr => exact absurd hr3 (by simp)
        simp only [Bool.and_eq_true, decide_eq_true_eq] at hn1 hlt
        obtain ⟨hn1, rfl⟩ := hn1
        have hn1 := Nat.eq_of_beq_eq_true hn1
        subst hn1
        have hne : xs ≠ [] := by intro e0; subst e0; simp at hlt
        have hdd : (AObj.rowN kv xs).dead = false := by cases xs with | nil => exact absurd rfl hne | cons a b => rfl
        refine ⟨_, _, hr3, fun F g a w B hB hpre hs ro dn next Q hnext => ?_⟩
        have hval := ev_read hs hy
        rw [hy0] at hval
        simp only [VR] at hval
        exact row_store (ob' := .rowN kv (xs.set off y0)) h hn hx hv hob hdd (fun g w b hob' => by
          simp only [ObjR] at hob'
          obtain ⟨arr0, ot, rest, h1, h2⟩ := hob'.resolve_left hne
          exact ⟨arr0, ot, h1, by have := congrArg List.length h2; simp at this; omega, trivial⟩) (fun g w w' b arr arr' tt hob' hw hw' heq hfz => by
          simp only [ObjR] at hob' ⊢
          obtain ⟨arr0, ot, rest, h1, h2⟩ := hob'.resolve_left hne
          obtain ⟨rfl, rfl⟩ := hw.uniq h1
          exact .inr ⟨arr', _, rest, hw', by rw [heq, h2, List.set_append_left _ _ (by simpa using hlt), List.map_set]⟩) (fun _ _ => rfl) (fun _ _ => rfl) rfl F g a w B hpre hs hval ro dn next Q hnext
      · exact absurd hr (by simp)
    · rename_i sz els hob
      obtain ⟨hn1, hr2⟩ | ⟨_, hr2⟩ := cond_some hr
      case inr => exact absurd hr2 (by simp)
      obtain ⟨e, he, hr3⟩ := Option.bind_eq_some_iff.1 hr2
      obtain ⟨hlt, hr4⟩ | ⟨_, hr4⟩ := cond_some hr3
      case inr => exact absurd hr4 (by simp)
      simp only [Bool.and_eq_true, decide_eq_true_eq] at hn1 hlt
      obtain ⟨hn1, hpl⟩ := hn1
      have hn1 := Nat.eq_of_beq_eq_true hn1
      subst hn1
      have hne : els ≠ [] := by intro e0; subst e0; simp at he
      refine ⟨_, _, hr4, fun F g a w B hB hpre hs ro dn next Q hnext => ?_⟩
      have hval := ev_read hs hy
      have hdd : (AObj.rowC sz els).dead = false := by cases els with | nil => exact absurd rfl hne | cons a b => rfl
      have hilt := (List.getElem?_eq_some_iff.1 he).1
      have fit : ∀ (g : Gh) (w : World) (b : Nat), ObjR g w b (.rowC sz els) → (∀ e ∈ els, e.length = sz ∧ e.all AV.plain = true) ∧ ∃ arr t vs rest, CellsAt w b arr t ∧ arr.toList = vs ++ rest ∧ VRss g w els vs := fun g w b h => by
        simp only [ObjR] at h
        exact h.resolve_left hne
      have hez : ∀ (g : Gh) (w : World) (b : Nat), ObjR g w b (.rowC sz els) → off < els.length * sz := fun g w b h => by
        have h1 := ((fit g w b h).1 e (List.mem_of_getElem? he)).1
        have h2 : off / sz * sz + off % sz = off := by rw [Nat.mul_comm]; exact Nat.div_add_mod off sz
        have h3 : (off / sz + 1) * sz ≤ els.length * sz := Nat.mul_le_mul_right sz hilt
        rw [Nat.succ_mul] at h3
        omega
      have hone : (a.eval q).oneCell' = true := by
        cases hyv : y.ev s with
        | int k z => rw [hyv] at hval; simp only [VR] at hval; rw [hval]; rfl
        | bool z => rw [hyv] at hval; simp only [VR] at hval; rw [hval]; rfl
        | str z => rw [hyv] at hval; simp only [VR] at hval; obtain ⟨_, hval, _⟩ := hval; rw [hval]; rfl
        | _ => rw [hyv] at hpl; simp [AV.plain] at hpl
      exact row_store (ob' := .rowC sz (els.set (off / sz) (e.set (off % sz) (y.ev s)))) h hn hx hv hob hdd (fun g w b hob' => by
        obtain ⟨h1, arr, t, vs, rest, h2, h3, h4⟩ := fit g w b hob'
        have h5 := h4.length (fun e he => (h1 e he).1)
        have h6 := hez g w b hob'
        exact ⟨arr, t, h2, by have := congrArg List.length h3; simp at this; omega, trivial⟩) (fun g' w1 w2 b arr arr' tt hob' hw hw' heq _ => by
        obtain ⟨h1, arr0, t, vs, rest, h2, h3, h4⟩ := fit g' w1 b hob'
        obtain ⟨rfl, rfl⟩ := hw.uniq h2
        have h5 := h4.length (fun e he => (h1 e he).1)
        have h6 := hez g' w1 b hob'
        simp only [ObjR]
        refine .inr ⟨fun e' he' => ?_, arr', _, vs.set off (a.eval q), rest, hw', by rw [heq, h3, List.set_append_left _ _ (by omega)], ?_⟩
        · rcases List.mem_or_eq_of_mem_set he' with he' | he'
          · exact h1 e' he'
          · subst he'
            have h7 := h1 e (List.mem_of_getElem? he)
            refine ⟨by rw [List.length_set]; exact h7.1, ?_⟩
            rw [List.all_eq_true]
            intro z hz
            rcases List.mem_or_eq_of_mem_set hz with hz | hz
            · exact List.all_eq_true.1 h7.2 z hz
            · rw [hz]; exact hpl
        · refine VRss.setCell (sz := sz) (fun e he => (h1 e he).1) (VRss.plain' (fun e he => (h1 e he).2) _ h4) he hlt ?_
          exact VR.plain' hpl hval) (fun _ _ => rfl) (fun _ _ => rfl) hone F g a w B hpre hs rfl ro dn next Q hnext
    · exact absurd hr (by simp)
  · exact absurd hr (by simp)
end Go.Sh

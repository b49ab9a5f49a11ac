/- Appending. -/
import Derived.Test.YtcbgfjghebopoaaDoorSH
import Derived.IntWalk
import Derived.Lib.AppendStr
namespace Go.Sh
open Go.RowKit
set_option linter.unusedSimpArgs false
set_option linter.unusedVariables false
variable {c : Cx} {o : Oper}

/-- The record of a row of one's own. -/
def recs (ao : Option Addr) (k cp : Nat) : List Rec := match ao with
  | some a => [(a.block, k, cp)]
  | none => []

/-- What is appended, as the operation reads it. -/
structure Src (P : Program) (w : World) (z : Nat) (x : Value) (m : Nat) (us : List Value) : Prop where
  len : (Builtin.lenOf x).run P w = .ok m w
  cells : (Builtin.firstCells z m x).run P w = .ok us.toArray w
  cells2 : (Builtin.firstCells z m x).run P w.drew = .ok us.toArray w.drew
  size : us.length = m * z
  one : ∀ u ∈ us, u.oneCell' = true

theorem Row.src {P : Program} {g : Gh} {w : World} {own : Bool} {ao : Option Addr} {m cq z : Nat} {us : List Value} (h : Row g w own ao m cq z us) : Src P w z (.slice ao m cq) m us := by
  have hc : ∀ w1 : World, (∀ b j, w1.cell? ⟨b, j, none⟩ = w.cell? ⟨b, j, none⟩) → (Builtin.firstCells z m (.slice ao m cq)).run P w1 = .ok us.toArray w1 := by
    intro w1 hw1
    by_cases h0 : us = []
    · subst h0
      have hm : m * z = 0 := by have := h.1; simp only [List.length_nil] at this; exact this.symm
      cases ao with
      | none => simp [Builtin.firstCells]
      | some a => simp [Builtin.firstCells, hm, loadCells, loadCellsFrom]
    · obtain ⟨ad, rfl, hr⟩ := h.2.2.2.1 (List.length_pos_iff.2 h0)
      exact run_firstCells_some w1 z m ad m cq us h.1 (fun j v hj => by
        have hlt : j < us.length := (List.getElem?_eq_some_iff.1 hj).1
        rw [add_eq _ hr.1, hw1, hr.2.2 j hlt, hj])
  exact ⟨by simp [Builtin.lenOf], hc w (fun _ _ => rfl), hc w.drew (fun _ _ => rfl), h.1, h.2.2.2.2.2.2⟩

theorem src_string {P : Program} (w : World) (s : ByteArray) : Src P w 1 (.string s) s.size (Lib.strCells s) :=
  ⟨by simp [Builtin.lenOf], Lib.run_firstCells_string w 1 s, Lib.run_firstCells_string w.drew 1 s, by simp [Lib.strCells_length], Lib.strCells_oneCell s⟩

theorem CellsAt.setRow {w : World} {b : Nat} {arr new : Array Value} {t : TypeId} (h : CellsAt w b arr t) (hs : new.size = arr.size) : CellsAt (w.setRow b new) b new t := by
  obtain ⟨fz, h1, h2⟩ := h
  exact ⟨fz, setRow_heap w b arr new t fz h1, by rw [hs]; exact h2⟩
theorem run_storeCells_C (P : Program) (g o : Nat) (t : TypeId) : ∀ (vs : List Value) (i : Nat) (cur : Array Value) (w : World), CellsAt w g cur t → o + i + vs.length ≤ cur.size → (∀ v ∈ vs, v.oneCell' = true) →
    (storeCells ⟨g, o, none⟩ vs i).run P w = .ok () (w.setRow g (cur.toList.take (o + i) ++ vs ++ cur.toList.drop (o + i + vs.length)).toArray)
  | [], i, cur, w, hg, _, _ => by
    obtain ⟨fz, hg, _⟩ := hg
    simp only [storeCells, List.append_nil, List.length_nil, Nat.add_zero, List.take_append_drop, Array.toArray_toList]
    rw [setRow_self w g cur t fz hg]
    rfl
  | v :: rest, i, cur, w, hg, hl, h1 => by
    have hi : o + i < cur.size := by simp at hl; omega
    have hadd : (⟨g, o, none⟩ : Addr).add i = ⟨g, o + i, none⟩ := by rw [add_eq _ rfl]
    have hst : (store ((⟨g, o, none⟩ : Addr).add i) v).run P w = .ok () (w.setRow g (cur.setIfInBounds (o + i) v)) := by
      obtain ⟨fz, hg, hz⟩ := hg
      have hcell : w.cell? ⟨g, o + i, none⟩ = some cur[o + i] := by simp [World.cell?, hg, hi]
      have hfro : w.frozen? ⟨g, o + i, none⟩ = false := by
        obtain ⟨lo, hi'⟩ := fz
        simp only at hz
        simp only [World.frozen?, hg, Bool.and_eq_false_iff, decide_eq_false_iff_not]
        omega
      rw [hadd, run_store P w _ v _ (h1 v (by simp)), hcell]
      simp [hfro, setCell_eq_setRow w g (o + i) cur t fz v hg]
    have ih := run_storeCells_C P g o t rest (i + 1) (cur.setIfInBounds (o + i) v) (w.setRow g (cur.setIfInBounds (o + i) v)) (hg.setRow (by simp)) (by simp at hl ⊢; omega) (fun x hx => h1 x (by simp [hx]))
    simp only [storeCells, Sem.run_bind, hst, Result.andThen_ok, ih, setRow_setRow]
    congr 3
    have e := list_seg_step cur.toList (o + i) v rest (by simp at hl ⊢; omega)
    simpa [Array.toList_setIfInBounds, Nat.add_assoc] using e

theorem append_core {F : Nat → Prop} {g : Gh} {H : List AObj} {os : List Rec} {w : World} {ao : Option Addr} {n cp z m bytes : Nat} {vs us : List Value} {P : Program} {x : Value} {t u ty e : TypeId} {i : TypeInfo} {zr : Value} {du : TypeDesc}
    (ht : P.underlying t = some (.slice e)) (hu : P.underlying u = some du) (hdu : du = .string ∨ ∃ e', du = .slice e') (hi : P.info? e = some i) (hz : i.zero = some zr) (hsz : i.size = z) (hby : i.bytes = bytes) (hzs : zr.cells.size = z) (h0 : 0 < z) (hb0 : 0 < bytes)
    (hcr : Core F g H (recs ao (n * z) (cp * z) ++ os) w) (hrow : Row g w true ao n cp z vs) (hsrc : Src P w z x m us) (hroom : (n + m) * bytes ≤ 140737488355328) :
    ∃ ao' cp' g' w', (Builtin.append_ #[t, u] ty #[.slice ao n cp, x]).run P w = .ok (.slice ao' (n + m) cp') w' ∧ Row g' w' true ao' (n + m) cp' z (vs ++ us) ∧ Ext g w g' w' ∧ Step F g w g' w' ∧ g'.obj = g.obj ∧ Core F g' H (recs ao' ((n + m) * z) (cp' * z) ++ os) w' ∧
      (∀ ad', ao' = some ad' → tyOf w' ad'.block = some e ∨ ∃ ad, ao = some ad ∧ tyOf w' ad'.block = tyOf w ad.block) ∧ (∀ k, k < w.heap.size → (∀ ad, ao = some ad → k ≠ ad.block) → w'.heap[k]? = w.heap[k]?) ∧ (ao = none → n + m = 0 → ao' = none ∧ cp' = 0) ∧ (ao' = ao ∨ ∃ ad', ao' = some ad' ∧ w.heap.size ≤ ad'.block) := by
  subst hsz
  subst hby
  have hnm : n + m ≤ 140737488355328 := Nat.le_trans (Nat.le_mul_of_pos_right _ hb0) hroom
  have hlen : (vs ++ us).length = (n + m) * i.size := by rw [List.length_append, hrow.1, hsrc.size, Nat.add_mul]
  have hone : ∀ v ∈ vs ++ us, v.oneCell' = true := fun v hv => by
    rcases List.mem_append.1 hv with h | h
    · exact hrow.2.2.2.2.2.2 v h
    · exact hsrc.one v h
  by_cases hcase : n + m ≤ cp
  · cases ao with
    | none =>
      obtain ⟨e1, e2⟩ := hrow.2.2.2.2.2.1 rfl
      have em : m = 0 := by omega
      subst e1; subst e2; subst em
      have ev : vs = [] := by have := hrow.1; simpa using this
      have eu : us = [] := by have := hsrc.size; simpa using this
      subst ev; subst eu
      refine ⟨none, 0, g, w, ?_, row_nil _ _ _ _, Ext.refl _ _, Step.refl _ _ _, rfl, by simpa [recs] using hcr, fun ad h => (by cases h), fun _ _ _ => rfl, fun _ _ => ⟨rfl, rfl⟩, .inl rfl⟩
      have h1 := hsrc.len
      have h2 := hsrc.cells
      rcases hdu with rfl | ⟨e', rfl⟩ <;> simp [Builtin.append_, run_underlying ht, run_underlying hu, sizeOf, typeInfo, hi, h1, h2]
    | some ad =>
      obtain ⟨e1, e2⟩ := hrow.2.2.2.2.1 rfl ad rfl
      obtain ⟨b, off, sp⟩ := ad
      simp only at e1 e2
      subst e1; subst e2
      have hcore := hcr
      simp only [recs, List.cons_append, List.nil_append] at hcore
      obtain ⟨o1, o2, arr, t0, o3, o4⟩ := hcore.own _ (.inl (List.mem_cons_self ..))
      simp only at o1 o2 o3 o4
      have hle : (n + m) * i.size ≤ cp * i.size := Nat.mul_le_mul_right _ hcase
      rw [Nat.add_mul] at hle
      have hfit : n * i.size + 0 + us.length ≤ arr.size := by rw [hsrc.size]; omega
      have hst := run_storeCells_C P b (n * i.size) t0 us 0 arr w o3 hfit hsrc.one
      simp only [Nat.add_zero] at hst
      have hw' := o3.setRow (new := (arr.toList.take (n * i.size) ++ us ++ arr.toList.drop (n * i.size + us.length)).toArray) (by
        simp only [List.size_toArray, List.length_append, List.length_take, List.length_drop, Array.length_toList]; omega)
      have hlt : n * i.size ≤ arr.toList.length := by simp; omega
      have hwr := hcore.write (n' := (n + m) * i.size) o3 hw' (fun k hk => setRow_other w b k _ hk) (by simp) rfl rfl rfl (by
          simp only [List.size_toArray, List.length_append, List.length_take, List.length_drop, Array.length_toList]; omega) (fun j hj => by
          simp only [List.getElem?_toArray]
          rw [List.append_assoc, List.getElem?_append_left (by simp; omega), List.getElem?_take, if_pos hj]
          simp) (by rw [Nat.add_mul]; omega) (by rw [Nat.add_mul]; exact hle)
      refine ⟨some ⟨b, 0, none⟩, cp, g.set b ((n + m) * i.size), _, ?_, ?_, hwr.1, hwr.2.1, rfl, by simpa [recs] using hwr.2.2, fun ad h => (by injection h with h; subst h; exact .inr ⟨_, rfl, by rw [hw'.ty, o3.ty]⟩), fun k hk hne => setRow_other w b k _ (hne _ rfl), fun h => (by cases h), .inl rfl⟩
      · have h1 := hsrc.len
        have h2 := hsrc.cells
        have hadd : (⟨b, 0, none⟩ : Addr).add (n * i.size) = ⟨b, n * i.size, none⟩ := by rw [add_eq _ rfl]; simp
        rcases hdu with rfl | ⟨e', rfl⟩ <;> simp [Builtin.append_, run_underlying ht, run_underlying hu, sizeOf, typeInfo, hi, h1, h2, hcase, hadd, hst]
      · refine ⟨hlen, hcase, by omega, fun hp => ⟨_, rfl, rfl, ?_, fun j hj => ?_⟩, fun _ ad h => by injection h with h; subst h; exact ⟨rfl, rfl⟩, fun h => by simp at h, hone⟩
        · simp only [Gh.set, if_true, hlen]; omega
        · simp only [Nat.zero_add]
          rw [hw'.cell]
          rw [hlen, Nat.add_mul] at hj
          have hvs : vs = arr.toList.take (n * i.size) := by
            apply List.ext_getElem?
            intro q
            by_cases hq : q < n * i.size
            · rw [List.getElem?_take, if_pos hq]
              have hp0 : 0 < vs.length := by rw [hrow.1]; omega
              obtain ⟨ad', e3, hr⟩ := hrow.2.2.2.1 hp0
              injection e3 with e3
              subst e3
              have := hr.2.2 q (by rw [hrow.1]; exact hq)
              rw [← this]
              rw [o3.cell]; simp
            · rw [List.getElem?_eq_none (by rw [hrow.1]; omega), List.getElem?_eq_none (by simp; omega)]
          rw [hvs]
          simp only [List.getElem?_toArray]
          rw [List.getElem?_append_left]
          rw [List.length_append, List.length_take, hsrc.size]
          omega
  · have holds : (Builtin.firstCells i.size n (.slice ao n cp)).run P w.drew = .ok vs.toArray w.drew := (Row.src (P := P) hrow).cells2
    have h1 := hsrc.len
    have h2 := hsrc.cells2
    have h63' : ¬ (9223372036854775807 < ((n : Int) + (m : Int))) := by omega
    have hfit := growslice_fits (need := n + m) (old := cp) (bytes := i.bytes) (by omega) hroom
    have h48' : ¬ (281474976710656 < Builtin.nextslicecap (n + m) cp * i.bytes) := by omega
    have hge := grownCap_ge w (n + m) cp e
    have hnew : (w.drew.alloc (.cells (vs.toArray ++ us.toArray ++ Builtin.zeroCells zr.cells (grownCap w (n + m) cp e - (n + m))) e)).heap[w.heap.size]? = some (.cells (vs.toArray ++ us.toArray ++ Builtin.zeroCells zr.cells (grownCap w (n + m) cp e - (n + m))) e (0, 0)) := heap_alloc_new w.drew _
    have hsize : (vs.toArray ++ us.toArray ++ Builtin.zeroCells zr.cells (grownCap w (n + m) cp e - (n + m))).size = grownCap w (n + m) cp e * i.size := by
      simp only [Array.size_append, List.size_toArray, size_zeroCells, hzs, hrow.1, hsrc.size, ← Nat.add_mul]
      congr 1
      omega
    have hgr := (hcr.weaken (os' := os) (fun r hr => List.mem_append_right _ hr) (fun b => by rw [oc_append]; omega)).growOwn (w' := w.drew.alloc (.cells (vs.toArray ++ us.toArray ++ Builtin.zeroCells zr.cells (grownCap w (n + m) cp e - (n + m))) e))
      (fun k hk => heap_alloc_old w.drew _ k hk) (by simp) rfl rfl rfl ((n + m) * i.size) (grownCap w (n + m) cp e * i.size) (.plain hnew) (Nat.mul_le_mul_right _ hge) (by omega)
    refine ⟨some ⟨w.heap.size, 0, none⟩, grownCap w (n + m) cp e, _, _, ?_, ?_, hgr.1, hgr.2.1, rfl, by simpa [recs] using hgr.2.2, fun ad h => (by injection h with h; subst h; exact .inl (tyOf_cells hnew)), fun k hk _ => heap_alloc_old w.drew _ k hk, fun _ h => absurd (by omega : n + m ≤ cp) hcase, .inr ⟨_, rfl, Nat.le_refl _⟩⟩
    · rcases hdu with rfl | ⟨e', rfl⟩ <;> simp [Builtin.append_, run_underlying ht, run_underlying hu, sizeOf, typeInfo, zeroValue, hi, hz, h1, hcase, h63', h48', Question.forced, h2, holds, newRow, grownCap] <;> (congr 2; apply Array.ext'; simp [List.append_assoc])
    · refine ⟨hlen, hge, by omega, fun hp => ⟨_, rfl, rfl, ?_, fun j hj => ?_⟩, fun _ ad h => by injection h with h; subst h; exact ⟨rfl, rfl⟩, fun h => by simp at h, hone⟩
      · simp only [Gh.set, if_true, hlen]; omega
      · simp only [Nat.zero_add]
        rw [cell_of_row _ w.heap.size j _ e (0, 0) hnew, Array.getElem?_append_left (by simpa using hj)]
        simp

theorem append_effect {F : Nat → Prop} {nt : Nat} {g : Gh} {s : St} {a : Act} {w : World} {ao : Option Addr} {n cp z m bytes : Nat} {vs us : List Value} {P : Program} {x : Value} {t u ty e : TypeId} {i : TypeInfo} {zr : Value} {du : TypeDesc}
    (ht : P.underlying t = some (.slice e)) (hu : P.underlying u = some du) (hdu : du = .string ∨ ∃ e', du = .slice e') (hi : P.info? e = some i) (hz : i.zero = some zr) (hsz : i.size = z) (hby : i.bytes = bytes) (hzs : zr.cells.size = z) (h0 : 0 < z) (hb0 : 0 < bytes)
    (hs : SimX F nt g s a w (recs ao (n * z) (cp * z))) (hrow : Row g w true ao n cp z vs) (hsrc : Src P w z x m us) (hroom : (n + m) * bytes ≤ 140737488355328) :
    ∃ ao' cp' g' w', (Builtin.append_ #[t, u] ty #[.slice ao n cp, x]).run P w = .ok (.slice ao' (n + m) cp') w' ∧ Row g' w' true ao' (n + m) cp' z (vs ++ us) ∧ Ext g w g' w' ∧ Step F g w g' w' ∧ g'.obj = g.obj ∧ SimX F nt g' s a w' (recs ao' ((n + m) * z) (cp' * z)) := by
  obtain ⟨ao', cp', g', w', h1, h2, h3, h4, h5, h6, _⟩ := append_core (ty := ty) ht hu hdu hi hz hsz hby hzs h0 hb0 hs.core hrow hsrc hroom
  exact ⟨ao', cp', g', w', h1, h2, h3, h4, h5, hs.move h3 h6⟩

theorem VRss.append {g : Gh} {w : World} : ∀ {els : List (List AV)} {vs : List Value} {els' : List (List AV)} {us : List Value}, VRss g w els vs → VRss g w els' us → VRss g w (els ++ els') (vs ++ us)
  | [], vs, _, us, h, k => by simp only [VRss] at h; subst h; simpa using k
  | e :: els, vs, _, us, h, k => by
    simp only [VRss] at h
    obtain ⟨p, q, rfl, h1, h2⟩ := h
    simp only [List.cons_append, VRss]
    exact ⟨p, q ++ _, by simp, h1, VRss.append h2 k⟩
theorem owns_ints {kd : IntKind} {l : List Int} {ao : Option Addr} {n cp : Nat} : owns (.ints true kd l) (.slice ao n cp) = recs ao l.length cp := by cases ao <;> rfl
theorem owns_strs {l : List Str} {ao : Option Addr} {n cp : Nat} : owns (.strs true l) (.slice ao n cp) = recs ao l.length cp := by cases ao <;> rfl
theorem owns_sl {sz : Nat} {l : List (List AV)} {ao : Option Addr} {n cp : Nat} : owns (.sl true sz l) (.slice ao n cp) = recs ao (l.length * sz) (cp * sz) := by cases ao <;> rfl

theorem ok_append {z bytes : Nat} {x y : AX} {p q : Operand} {t u e : TypeId} {zr : Value} {cl : Call} {e' : TypeId} (h : o.op = .call cl) (hc : cl.callee = .builtin .append) (hargs : cl.args = #[p, q]) (hts : cl.argTypes = #[t, u]) (ht : c.P.underlying t = some (.slice e)) (hu : c.P.underlying u = some (.slice e'))
    (hi : (c.P.info? e).map (fun i => (i.size, i.bytes, i.zero)) = some (z, bytes, some zr)) (hzs : zr.cells.size = z) (h0 : 0 < z) (hb0 : 0 < bytes) (hx : fitX x p = true) (hy : fitX y q = true) (hfr : y.free = true) : OpOK c (.append z bytes x y) o := by
  obtain ⟨i, hi1, hi2⟩ := Option.map_eq_some_iff.1 hi
  injection hi2 with hi2 hi3
  injection hi3 with hi3 hi4
  intro s R k r hr
  have key : ∀ (F : Nat → Prop) (g : Gh) (a : Act) (w : World) (B : List Nat) (v : AV) (ao bo : Option Addr) (n m cp cq : Nat) (vs us : List Value) (own2 : Bool), B.length = B.length → B <+: g.obj → SimX F c.nt g (x.st s) a w (recs ao (n * z) (cp * z)) →
      a.eval p = .slice ao n cp → a.eval q = .slice bo m cq → Row g w true ao n cp z vs → Row g w own2 bo m cq z us → (n + m) * bytes ≤ 140737488355328 →
      (∀ (g' : Gh) (w' : World) (ao' : Option Addr) (cp' : Nat), Ext g w g' w' → Row g' w' true ao' (n + m) cp' z (vs ++ us) → VR g' w' v (.slice ao' (n + m) cp') ∧ owns v (.slice ao' (n + m) cp') = recs ao' ((n + m) * z) (cp' * z)) →
      ∃ v' g' w', (execOp a.eval o).run c.P w = .ok (.value v') w' ∧ VR g' w' v v' ∧ B <+: g'.obj ∧ SimX F c.nt g' (x.st s) a w' (owns v v') ∧ Step F g w g' w' := by
    intro F g a w B v ao bo n m cp cq vs us own2 hB hpre hs hp hq hr1 hr2 hroom hv
    obtain ⟨ao', cp', g', w', h1, h2, h3, h4, h5, h6⟩ := append_effect (ty := o.type) ht hu (.inr ⟨e', rfl⟩) hi1 hi4 hi2 hi3 hzs h0 hb0 hs hr1 (hr2.src) hroom
    obtain ⟨h7, h8⟩ := hv g' w' ao' cp' h3 h2
    refine ⟨_, g', w', ?_, h7, by rw [h5]; exact hpre, by rw [h8]; exact h6, h4⟩
    refine run_call_builtin h hc ?_
    rw [hargs, hts]
    simp only [builtin, List.map_toArray, List.map_cons, List.map_nil, hp, hq, Sem.run_bind, h1, Result.andThen]
    rfl
  simp only [AOp.run] at hr
  split at hr
  · rename_i kd l own2 km l2 hv hw
    obtain ⟨h1, hr2⟩ | ⟨_, hr2⟩ := cond_some hr
    case inr => exact absurd hr2 (by simp)
    obtain ⟨h2, hr3⟩ | ⟨_, hr3⟩ := cond_some hr2
    case inr => exact absurd hr3 (by simp)
    simp only [Bool.and_eq_true, beq_iff_eq, decide_eq_true_eq] at h1 h2
    obtain ⟨rfl, rfl⟩ := h1
    refine ⟨_, _, hr3, OpSem.run fun F g a w B hB hpre hs => ?_⟩
    obtain ⟨h3, h4⟩ := AX.ok hs hx
    have h5 := ev_read h4 hy
    rw [hv] at h3 h4
    rw [hw] at h5
    simp only [VR] at h3 h5
    obtain ⟨ao, n, cp, e1, hr1⟩ := h3
    obtain ⟨bo, m, cq, e2, hr2⟩ := h5
    have hn : n = l.length := by have := hr1.1; simp at this; exact this.symm
    have hm : m = l2.length := by have := hr2.1; simp at this; exact this.symm
    subst hn; subst hm
    rw [e1, owns_ints, List.append_nil] at h4
    refine key F g a w B _ ao bo _ _ cp cq _ _ own2 hB hpre (by simpa using h4) e1 e2 hr1 hr2 h2 (fun g' w' ao' cp' he hrow => ⟨?_, ?_⟩)
    · simp only [VR]
      exact ⟨_, _, _, rfl, by rw [List.map_append]; exact hrow⟩
    · rw [owns_ints]; simp
  · rename_i l own2 l2 hv hw
    obtain ⟨h1, hr2⟩ | ⟨_, hr2⟩ := cond_some hr
    case inr => exact absurd hr2 (by simp)
    obtain ⟨h2, hr3⟩ | ⟨_, hr3⟩ := cond_some hr2
    case inr => exact absurd hr3 (by simp)
    simp only [beq_iff_eq, decide_eq_true_eq] at h1 h2
    subst h1
    refine ⟨_, _, hr3, OpSem.run fun F g a w B hB hpre hs => ?_⟩
    obtain ⟨h3, h4⟩ := AX.ok hs hx
    have h5 := ev_read h4 hy
    rw [hv] at h3 h4
    rw [hw] at h5
    simp only [VR] at h3 h5
    obtain ⟨ao, n, cp, e1, hr1⟩ := h3
    obtain ⟨bo, m, cq, e2, hr2⟩ := h5
    have hn : n = l.length := by have := hr1.1; simp at this; exact this.symm
    have hm : m = l2.length := by have := hr2.1; simp at this; exact this.symm
    subst hn; subst hm
    rw [e1, owns_strs, List.append_nil] at h4
    refine key F g a w B _ ao bo _ _ cp cq _ _ own2 hB hpre (by simpa using h4) e1 e2 hr1 hr2 h2 (fun g' w' ao' cp' he hrow => ⟨?_, ?_⟩)
    · simp only [VR]
      exact ⟨_, _, _, rfl, by rw [List.map_append]; exact hrow⟩
    · rw [owns_strs]; simp
  · rename_i sz l own2 sm l2 hv hw
    obtain ⟨h1, hr2⟩ | ⟨_, hr2⟩ := cond_some hr
    case inr => exact absurd hr2 (by simp)
    obtain ⟨h2, hr3⟩ | ⟨_, hr3⟩ := cond_some hr2
    case inr => exact absurd hr3 (by simp)
    simp only [Bool.and_eq_true, beq_iff_eq, decide_eq_true_eq] at h1 h2
    obtain ⟨h1a, h1b⟩ := h1
    rw [← h1a] at hv hr3
    rw [← h1b] at hw
    refine ⟨_, _, hr3, OpSem.run fun F g a w B hB hpre hs => ?_⟩
    obtain ⟨h3, h4⟩ := AX.ok hs hx
    have h5 := ev_read h4 hy
    rw [hv] at h3 h4
    rw [hw] at h5
    simp only [VR] at h3 h5
    obtain ⟨ao, n, cp, vs, e1, hr1, hn, hsz1, hvs⟩ := h3
    obtain ⟨bo, m, cq, us, e2, hr2, hm, hsz2, hus⟩ := h5
    subst hn; subst hm
    rw [e1, owns_sl, List.append_nil] at h4
    refine key F g a w B _ ao bo _ _ cp cq _ _ own2 hB hpre h4 e1 e2 hr1 hr2 h2 (fun g' w' ao' cp' he hrow => ⟨?_, ?_⟩)
    · simp only [VR]
      refine ⟨_, _, _, _, rfl, hrow, by simp, ?_, (VRss.ext he _ _ hvs).append (VRss.ext he _ _ hus)⟩
      intro e he
      rcases List.mem_append.1 he with h | h
      · exact hsz1 e h
      · exact hsz2 e h
    · rw [owns_sl]; simp
  · exact absurd hr (by simp)

theorem strCells_eq (s : ByteArray) : Lib.strCells s = (intsOf s.data.toList).map (Value.int .u8) := by
  simp [Lib.strCells, intsOf]

theorem ok_appendS {bytes : Nat} {x y : AX} {p q : Operand} {t u e : TypeId} {zr : Value} {cl : Call} (h : o.op = .call cl) (hc : cl.callee = .builtin .append) (hargs : cl.args = #[p, q]) (hts : cl.argTypes = #[t, u]) (ht : c.P.underlying t = some (.slice e)) (hu : c.P.underlying u = some .string)
    (hi : (c.P.info? e).map (fun i => (i.size, i.bytes, i.zero)) = some (1, bytes, some zr)) (hzs : zr.cells.size = 1) (hb0 : 0 < bytes) (hx : fitX x p = true) (hy : fitX y q = true) : OpOK c (.appendS bytes x y) o := by
  obtain ⟨i, hi1, hi2⟩ := Option.map_eq_some_iff.1 hi
  injection hi2 with hi2 hi3
  injection hi3 with hi3 hi4
  intro s R k r hr
  simp only [AOp.run] at hr
  split at hr
  · rename_i l l2 hv hw
    obtain ⟨h2, hr3⟩ | ⟨_, hr3⟩ := cond_some hr
    case inr => exact absurd hr3 (by simp)
    simp only [decide_eq_true_eq] at h2
    refine ⟨_, _, hr3, OpSem.run fun F g a w B hB hpre hs => ?_⟩
    obtain ⟨h3, h4⟩ := AX.ok hs hx
    have h5 := ev_read h4 hy
    rw [hv] at h3 h4
    rw [hw] at h5
    have h6 := h5.str_len
    simp only [VR] at h3 h5
    obtain ⟨ao, n, cp, e1, hr1⟩ := h3
    obtain ⟨s1, e2, e3⟩ := h5
    obtain ⟨s2, e4, e5⟩ := h6
    have : s2 = s1 := by rw [e2] at e4; injection e4 with e; exact e.symm
    subst this
    have hn : n = l.length := by have := hr1.1; simp at this; exact this.symm
    subst hn
    rw [e1, owns_ints, List.append_nil] at h4
    obtain ⟨ao', cp', g', w', h1, h7, h8, h9, h10, h11⟩ := append_effect (ty := o.type) ht hu (.inl rfl) hi1 hi4 hi2 hi3 hzs (by omega) hb0 (by simpa using h4) hr1 (src_string w s2) (by rw [e5]; exact h2)
    refine ⟨.slice ao' (l.length + s2.size) cp', g', w', ?_, ?_, by rw [h10]; exact hpre, ?_, h9⟩
    · refine run_call_builtin h hc ?_
      rw [hargs, hts]
      simp only [builtin, List.map_toArray, List.map_cons, List.map_nil, e1, e2, Sem.run_bind, h1, Result.andThen]
      rfl
    · simp only [VR]
      refine ⟨_, _, _, rfl, ?_⟩
      rw [List.map_append, ← e3, ← strCells_eq]
      exact h7
    · rw [owns_ints]
      simpa [intsOf, e5] using h11
  · exact absurd hr (by simp)
/-! ### zeros behind bytes -/
theorem zero_size (m : Nat) : (⟨Array.replicate m 0⟩ : ByteArray).size = m := by
  show (Array.replicate m (0 : UInt8)).size = m
  simp
theorem zero_bytes (m : Nat) : ((⟨Array.replicate m 0⟩ : ByteArray).extract 0 m).data.map (fun b => Value.int .u8 b.toNat) = Builtin.zeroCells #[.int .u8 0] m := by
  have e : ((⟨Array.replicate m 0⟩ : ByteArray).extract 0 m).data = Array.replicate m 0 := by
    rw [ByteArray.data_extract]
    apply Array.ext
    · simp
    · intro i h1 h2; simp
  rw [e]
  apply Array.ext
  · simp [Builtin.zeroCells]
  · intro i h1 h2
    simp [Builtin.zeroCells, Nat.mod_one]
theorem append_zero_eq {P : Program} {w : World} {t u v ty e : TypeId} {i : TypeInfo} {n cp m : Nat} {ao : Option Addr} {k k' : IntKind} (ht : P.underlying t = some (.slice e)) (hu : P.underlying u = some (.int k)) (hv : P.underlying v = some .string) (hi : P.info? e = some i) (hz : i.zero = some (.int .u8 0)) (hsz : i.size = 1) (hb0 : 0 < i.bytes) (hroom : (n + m) * i.bytes ≤ 140737488355328) :
    (Builtin.append_ #[t, u] ty #[.slice ao n cp, .int k' (m : Int)]).run P w = (Builtin.append_ #[t, v] ty #[.slice ao n cp, .string ⟨Array.replicate m 0⟩]).run P w := by
  have hnm : n + m ≤ 140737488355328 := Nat.le_trans (Nat.le_mul_of_pos_right _ hb0) hroom
  have hw : IntKind.i64.wrap (m : Int) = m := by rw [IntWalk.i64_in _ (by omega)]
  have h0 : ¬ (m : Int) < 0 := by omega
  have h2 : m * i.bytes ≤ 140737488355328 := Nat.le_trans (Nat.mul_le_mul_right _ (by omega)) hroom
  have h1 : ¬ (281474976710656 < (m : Int) * (i.bytes : Int)) := by
    have h9 := Int.ofNat_le.2 h2
    rw [Int.natCast_mul] at h9
    omega
  have h3 : ¬ (9223372036854775807 < ((n : Int) + (m : Int))) := by omega
  have hz0 : Builtin.zeroCells #[.int .u8 0] 0 = #[] := by simp [Builtin.zeroCells]
  have hF : ∀ w, (Builtin.firstCells 1 m (.string ⟨Array.replicate m 0⟩)).run P w = .ok (Builtin.zeroCells #[.int .u8 0] m) w := fun w => by
    simp only [Builtin.firstCells, zero_bytes]; rfl
  have hL : ∀ w, (Builtin.lenOf (.string ⟨Array.replicate m 0⟩)).run P w = .ok m w := fun w => by
    simp only [Builtin.lenOf, zero_size]; rfl
  have hw0 : IntKind.i64.wrap 0 = 0 := by decide
  have hL0 : ∀ w, (Builtin.lenOf (.string ⟨#[]⟩)).run P w = .ok 0 w := fun w => rfl
  have hF0 : ∀ w, (Builtin.firstCells 1 0 (.string ⟨#[]⟩)).run P w = .ok #[] w := fun w => by have := zero_bytes 0; simp only [Array.replicate_zero, hz0] at this; simp only [Builtin.firstCells, this]; rfl
  by_cases hc : n + m ≤ cp <;> by_cases hm : m = 0
  · subst hm
    have hc' := hc
    rw [Nat.add_zero] at hc'
    simp [Builtin.append_, run_underlying ht, run_underlying hu, run_underlying hv, sizeOf, typeInfo, zeroValue, asInt, asIntOf, hi, hz, hsz, hw0, hL0, hF0, hc', hz0]
  · simp [Builtin.append_, run_underlying ht, run_underlying hu, run_underlying hv, sizeOf, typeInfo, zeroValue, asInt, asIntOf, hi, hz, hsz, hw, h0, h1, hc, hm, hL, hF, Value.cells]
  · subst hm
    have hc' := hc
    rw [Nat.add_zero] at hc'
    have hfit := growslice_fits (need := n) (old := cp) (bytes := i.bytes) (by omega) (by simpa using hroom)
    have h48 : ¬ (281474976710656 < Builtin.nextslicecap n cp * i.bytes) := by omega
    have h63 : ¬ (9223372036854775807 < (n : Int)) := by omega
    simp [Builtin.append_, run_underlying ht, run_underlying hu, run_underlying hv, sizeOf, typeInfo, zeroValue, asInt, asIntOf, hi, hz, hsz, hw0, hL0, hF0, hc', hz0, h48, h63]
  · have hfit := growslice_fits (need := n + m) (old := cp) (bytes := i.bytes) (by omega) hroom
    have h48 : ¬ (281474976710656 < Builtin.nextslicecap (n + m) cp * i.bytes) := by omega
    simp [Builtin.append_, run_underlying ht, run_underlying hu, run_underlying hv, sizeOf, typeInfo, zeroValue, asInt, asIntOf, hi, hz, hsz, hw, h0, h1, h3, h48, hc, hm, hL, hF, Value.cells]
theorem ok_appendZ {bytes : Nat} {x y : AX} {p q : Operand} {t u v e : TypeId} {k' : IntKind} {cl : Call} (h : o.op = .call cl) (hc : cl.callee = .builtin .append) (hargs : cl.args = #[p, q]) (hts : cl.argTypes = #[t, u]) (ht : c.P.underlying t = some (.slice e)) (hu : c.P.underlying u = some (.int k')) (hv : c.P.underlying v = some .string)
    (hi : (c.P.info? e).map (fun i => (i.size, i.bytes, i.zero)) = some (1, bytes, some (.int .u8 0))) (hb0 : 0 < bytes) (hx : fitX x p = true) (hy : fitX y q = true) : OpOK c (.appendZ bytes x y) o := by
  obtain ⟨i, hi1, hi2⟩ := Option.map_eq_some_iff.1 hi
  injection hi2 with hi2 hi3
  injection hi3 with hi3 hi4
  intro s R k r hr
  simp only [AOp.run] at hr
  split at hr
  · rename_i l kk m hv1 hw
    obtain ⟨h2, hr2⟩ | ⟨_, hr2⟩ := cond_some hr
    case inr => exact absurd hr2 (by simp)
    obtain ⟨h3, hr3⟩ | ⟨_, hr3⟩ := cond_some hr2
    case inr => exact absurd hr3 (by simp)
    simp only [decide_eq_true_eq] at h2 h3
    obtain ⟨m, rfl⟩ := Int.eq_ofNat_of_zero_le h2
    simp only [Int.toNat_natCast] at h3 hr3
    refine ⟨_, _, hr3, OpSem.run fun F g a w B hB hpre hs => ?_⟩
    obtain ⟨h5, h4⟩ := AX.ok hs hx
    have h6 := ev_read h4 hy
    rw [hv1] at h5 h4
    rw [hw] at h6
    simp only [VR] at h5 h6
    obtain ⟨ao, n, cp, e1, hr1⟩ := h5
    have hn : n = l.length := by have := hr1.1; simp at this; exact this.symm
    subst hn
    rw [e1, owns_ints, List.append_nil] at h4
    have hsz := zero_size m
    obtain ⟨ao', cp', g', w', h1, h7, h8, h9, h10, h11⟩ := append_effect (ty := o.type) ht hv (.inl rfl) hi1 hi4 hi2 hi3 rfl (by omega) hb0 (by simpa using h4) hr1 (src_string w ⟨Array.replicate m 0⟩) (by rw [hsz]; exact h3)
    rw [hsz] at h1 h7 h11
    refine ⟨.slice ao' (l.length + m) cp', g', w', ?_, ?_, by rw [h10]; exact hpre, ?_, h9⟩
    · refine run_call_builtin h hc ?_
      rw [hargs, hts]
      simp only [builtin, List.map_toArray, List.map_cons, List.map_nil, e1, h6, Sem.run_bind]
      rw [append_zero_eq ht hu hv hi1 hi4 hi2 (by rw [hi3]; exact hb0) (by rw [hi3]; exact h3), h1]
      rfl
    · simp only [VR]
      refine ⟨_, _, _, rfl, ?_⟩
      rw [List.map_append]
      rw [strCells_eq] at h7
      have : intsOf (List.replicate m (0 : UInt8)) = List.replicate m (0 : Int) := by simp [intsOf]
      simpa [this] using h7
    · rw [owns_ints]
      simpa using h11
  · exact absurd hr (by simp)
end Go.Sh

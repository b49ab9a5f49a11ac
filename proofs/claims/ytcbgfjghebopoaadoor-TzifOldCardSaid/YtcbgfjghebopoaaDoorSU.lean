/- Taking out of an object; building structs. -/
import Derived.Test.YtcbgfjghebopoaaDoorSS
namespace Go.Sh
open Go.RowKit
set_option linter.unusedSimpArgs false
set_option linter.unusedVariables false
variable {c : Cx} {o : Oper}

theorem setCells_eq : ∀ (us : List AV) (cs : List AV) (off : Nat), off + us.length ≤ cs.length → setCells cs off us = cs.take off ++ us ++ cs.drop (off + us.length)
  | [], cs, off, _ => by simp [setCells]
  | u :: us, cs, off, h => by
    simp only [List.length_cons] at h
    rw [setCells, setCells_eq us (cs.set off u) (off + 1) (by simp; omega)]
    have h1 : (cs.set off u).take (off + 1) = cs.take off ++ [u] := by
      rw [List.take_succ_eq_append_getElem (by simp; omega)]
      simp only [List.take_set, List.getElem_set_self]
      rw [List.set_eq_of_length_le (by rw [List.length_take]; exact Nat.min_le_left _ _)]
    have h2 : (cs.set off u).drop (off + 1 + us.length) = cs.drop (off + (us.length + 1)) := by
      rw [List.drop_set_of_lt (by omega)]
      congr 1
      omega
    rw [h1, h2]
    simp
theorem ownsL_append : ∀ {a : List AV} {u : List Value} {b : List AV} {v : List Value}, a.length = u.length → ownsL (a ++ b) (u ++ v) = ownsL a u ++ ownsL b v
  | [], u, b, v, h => by
    have : u = [] := List.length_eq_zero_iff.1 (by simpa using h.symm)
    subst this
    rfl
  | x :: a, [], b, v, h => by simp at h
  | x :: a, y :: u, b, v, h => by simp only [List.cons_append, ownsL, ownsL_append (a := a) (u := u) (b := b) (v := v) (by simpa using h), List.append_assoc]

theorem ok_loadT {n : Nat} {aggr : Bool} {x : AX} {p : Operand} {t : TypeId} {d : TypeDesc} (h : o.op = .load t p) (ht : c.P.underlying t = some d) (ha : isAggD d = aggr) (hn : (c.P.info? t).map (·.size) = some n) (h0 : 0 < n) (hx : fitX x p = true) : OpOK c (.loadT n aggr x) o := by
  intro s R k r hr
  simp only [AOp.run] at hr
  split at hr
  · rename_i id off hv
    split at hr
    · rename_i ot cs hob
      obtain ⟨v, h1, h2⟩ := asK_some hr
      refine ⟨_, _, h1, OpSem.run fun F g a w B hB hpre hs => ?_⟩
      have hp := ev_read hs hx
      rw [hv] at hp
      simp only [VR] at hp
      obtain ⟨b, hp, hb⟩ := hp
      have hobj := getObj_ok hs.core.heap id b _ hob hb
      simp only [ObjR] at hobj
      obtain ⟨arr, hw, hvs⟩ := hobj
      have hl := hvs.length
      have hpart := (hvs.drop off).take n
      have hplen := hpart.length
      -- in three parts
      have ecs : cs = cs.take off ++ ((cs.drop off).take n ++ (cs.drop off).drop n) := by rw [List.take_append_drop, List.take_append_drop]
      have earr : arr.toList = arr.toList.take off ++ ((arr.toList.drop off).take n ++ (arr.toList.drop off).drop n) := by rw [List.take_append_drop, List.take_append_drop]
      have hl1 : (cs.take off).length = (arr.toList.take off).length := by simp [hl]
      have hO : ownsL cs arr.toList = ownsL (cs.take off) (arr.toList.take off) ++ (ownsL ((cs.drop off).take n) ((arr.toList.drop off).take n) ++ ownsL ((cs.drop off).drop n) ((arr.toList.drop off).drop n)) := by
        conv => lhs; rw [ecs, earr]
        rw [ownsL_append hl1, ownsL_append hplen]
      have hval : ∃ v', (execOp a.eval o).run c.P w = .ok (.value v') w ∧ VR g w v v' ∧ (∀ r, r ∈ owns v v' → r ∈ ownsL ((cs.drop off).take n) ((arr.toList.drop off).take n)) ∧ ∀ x, oc x (owns v v') ≤ oc x (ownsL ((cs.drop off).take n) ((arr.toList.drop off).take n)) := by
        have hread : ∀ j, j < ((arr.toList.drop off).take n).length → w.cell? ⟨b, off + j, none⟩ = ((arr.toList.drop off).take n)[j]? := fun j hj => by
          rw [List.length_take] at hj
          rw [List.getElem?_take, if_pos (by omega), List.getElem?_drop]
          simp [World.cell?, hw]
        have run : ∀ v', (loadVar t ⟨b, off, none⟩).run c.P w = .ok v' w → (execOp a.eval o).run c.P w = .ok (.value v') w := fun v' hv' => by
          simp only [execOp, h]
          refine run_value ?_
          rw [hp]
          simp only [Instr.loadAt, Instr.sureAddr, Sem.run_bind, Sem.run_pure, Result.andThen]
          exact hv'
        rcases h2 with ⟨rfl, h3, rfl⟩ | ⟨rfl, rest, h3⟩
        · refine ⟨.agg ((arr.toList.drop off).take n).toArray, run _ ?_, by simp only [VR]; exact ⟨_, rfl, by simpa using hpart⟩, fun r hr => by simpa [owns] using hr, fun x => by simp [owns]⟩
          simp only [loadVar, Sem.run_bind, run_isAgg' ht, ha, Result.andThen, if_true, run_sizeOf' hn]
          have hn' : n = ((arr.toList.drop off).take n).length := by omega
          conv => lhs; rw [hn']
          rw [run_loadCells_list w ⟨b, off, none⟩ ((arr.toList.drop off).take n) (fun j x hj => by
            have hlt : j < ((arr.toList.drop off).take n).length := (List.getElem?_eq_some_iff.1 hj).1
            rw [add_eq _ rfl, hread j hlt, hj])]
          rfl
        · rw [h3] at hpart
          simp only [VRs] at hpart
          obtain ⟨v', us, h4, h5, _⟩ := hpart
          rw [h3, h4]
          refine ⟨v', run _ ?_, h5, fun r hr => by simp [ownsL, hr], fun x => by simp [ownsL, oc_append]⟩
          have h0 := hread 0 (by rw [h4]; simp)
          rw [h4] at h0
          simp only [Nat.add_zero, List.getElem?_cons_zero] at h0
          simp only [loadVar, Sem.run_bind, run_isAgg' ht, ha, Result.andThen, Bool.false_eq_true, if_false, run_load, h0]
      obtain ⟨v', hrun, hvr, hm1, hm2⟩ := hval
      by_cases hfit : off + (disownL ((cs.drop off).take n)).length ≤ cs.length
      · have eset : setCells cs off (disownL ((cs.drop off).take n)) = cs.take off ++ (disownL ((cs.drop off).take n) ++ (cs.drop off).drop n) := by
          rw [setCells_eq _ _ _ hfit, List.append_assoc, disownL_length, List.drop_drop]
          congr 2
          simp only [List.length_take, List.length_drop]
          by_cases hh : off + n ≤ cs.length
          · rw [Nat.min_eq_left (by omega)]
          · rw [Nat.min_eq_right (by omega), List.drop_eq_nil_of_le (by omega), List.drop_eq_nil_of_le (by omega)]
        have hvs' : VRs g w (setCells cs off (disownL ((cs.drop off).take n))) arr.toList := by
          rw [eset]
          conv => arg 4; rw [earr]
          exact (hvs.take off).append ((VRs.disown _ _ hpart).append ((hvs.drop off).drop n))
        have hO' : ownsL (setCells cs off (disownL ((cs.drop off).take n))) arr.toList = ownsL (cs.take off) (arr.toList.take off) ++ ownsL ((cs.drop off).drop n) ((arr.toList.drop off).drop n) := by
          rw [eset]
          conv => lhs; rw [earr]
          rw [ownsL_append hl1, ownsL_append (by rw [disownL_length]; exact hplen), ownsL_disown, List.nil_append]
        have hc := hs.core
        rw [List.nil_append] at hc
        obtain ⟨e1, e2, e3⟩ := hc.setObj (w' := w) (os' := owns v v' ++ slotOwns s 0 a.tmps.toList) hob hb hw hw rfl (fun _ _ => rfl) rfl rfl rfl rfl hvs' (fun x => by
          have := hm2 x
          rw [hO, hO']
          simp only [oc_append]
          omega) (fun r hr => by
          rw [hO]
          rw [hO'] at hr
          simp only [List.mem_append] at hr ⊢
          rcases hr with (hr | hr) | hr | hr
          · exact .inr (.inr (.inl (hm1 r hr)))
          · exact .inl hr
          · exact .inr (.inl hr)
          · exact .inr (.inr (.inr hr)))
        refine ⟨v', g, w, hrun, hvr, hpre, ⟨hs.size, fun t' => hs.slots t', ?_⟩, e2⟩
        rw [simx_put_heap]
        exact e3
      · -- nothing is there
        exfalso
        rw [disownL_length, List.length_take, List.length_drop] at hfit
        rcases h2 with ⟨_, h3, _⟩ | ⟨_, rest, h3⟩
        · rw [List.length_take, List.length_drop] at h3
          omega
        · have : 0 < ((cs.drop off).take n).length := by rw [h3]; simp
          rw [List.length_take, List.length_drop] at this
          omega
    · exact absurd hr (by simp)
  · exact absurd hr (by simp)

/-- A struct's parts, put one behind the other. -/
theorem fill_ok {g : Gh} {w : World} {place : Nat → Option (Nat × Nat)} : ∀ (ps : List (Nat × Nat)) (is : List Nat) (vs : List AV) (us : List Value) (cs cs' : List AV) (cells : Array Value), VRs g w vs us → VRs g w cs cells.toList → putParts cs ps vs = some cs' → is.length = ps.length → (∀ (j i : Nat) (q : Nat × Nat), is[j]? = some i → ps[j]? = some q → place i = some q) →
    ∃ cells', Instr.fill place cells (is.zip us) = some cells' ∧ VRs g w cs' cells'.toList ∧ (∀ b, oc b (ownsL cs' cells'.toList) ≤ oc b (ownsL vs us) + oc b (ownsL cs cells.toList)) ∧ ∀ r, r ∈ ownsL cs' cells'.toList → r ∈ ownsL vs us ∨ r ∈ ownsL cs cells.toList
  | [], is, vs, us, cs, cs', cells, hv, hc, hp, hl, _ => by
    have : is = [] := List.length_eq_zero_iff.1 (by simpa using hl)
    subst this
    cases vs with
    | nil => simp only [putParts] at hp; injection hp with hp; subst hp; exact ⟨cells, rfl, hc, fun b => by omega, fun r hr => .inr hr⟩
    | cons v vs => simp [putParts] at hp
  | q :: ps, [], vs, us, cs, cs', cells, hv, hc, hp, hl, _ => by simp at hl
  | (off, n) :: ps, i :: is, [], us, cs, cs', cells, hv, hc, hp, hl, _ => by simp [putParts] at hp
  | (off, n) :: ps, i :: is, v :: vs, us, cs, cs', cells, hv, hc, hp, hl, hplace => by
    simp only [putParts] at hp
    obtain ⟨h1, hp⟩ | ⟨_, hp⟩ := cond_some hp
    case inr => exact absurd hp (by simp)
    simp only [Bool.and_eq_true] at h1
    obtain ⟨⟨h1, h2⟩, h3⟩ := h1
    have h1 := Nat.eq_of_beq_eq_true h1
    have h3 := Nat.le_of_ble_eq_true h3
    simp only [VRs] at hv
    obtain ⟨u, us', rfl, hv1, hv2⟩ := hv
    obtain ⟨h4, _, h5⟩ := cellsOf_ok hv1 h2
    have hul := h4.length
    have hcl := hc.length
    simp only [Array.length_toList] at hul hcl
    have hfold : ∀ (l : List Value) (j : Nat) (arr : Array Value), ((l.zipIdx j).foldl (fun cs (x : Value × Nat) => cs.setIfInBounds (off + x.2) x.1) arr).toList = putCells arr.toList (off + j) l := by
      intro l
      induction l with
      | nil => intro j arr; rfl
      | cons y l ih =>
        intro j arr
        simp only [List.zipIdx_cons, List.foldl_cons, putCells]
        rw [ih]
        simp [Array.toList_setIfInBounds, Nat.add_assoc]
    have hcells : (u.cells.zipIdx.foldl (fun cs (x : Value × Nat) => cs.setIfInBounds (off + x.2) x.1) cells).toList = putCells cells.toList off u.cells.toList := by
      rw [← Array.foldl_toList, Array.toList_zipIdx]
      simpa using hfold u.cells.toList 0 cells
    have hput : VRs g w (setCells cs off (cellsOf v)) (u.cells.zipIdx.foldl (fun cs (x : Value × Nat) => cs.setIfInBounds (off + x.2) x.1) cells).toList := by
      rw [hcells]
      exact h4.setCells off hc
    obtain ⟨cells', k1, k2, k3, k4⟩ := fill_ok ps is vs us' _ cs' _ hv2 hput hp (by simpa using hl) (fun j i q hj hq => hplace (j + 1) i q (by simpa using hj) (by simpa using hq))
    obtain ⟨m1, m2⟩ := ownsL_setCells (us := cellsOf v) (vs := u.cells.toList) (cs := cs) (ws := cells.toList) off (by simpa using hul)
    rw [h5] at m1 m2
    rw [hcells] at k3 k4
    refine ⟨cells', ?_, k2, fun b => ?_, fun r hr => ?_⟩
    · have hpl := hplace 0 i (off, n) rfl rfl
      simp only [List.zip_cons_cons, Instr.fill, hpl]
      have hne : ¬ ((u.cells.size ≠ n || decide (off + u.cells.size > cells.size)) = true) := by
        simp only [Bool.or_eq_true, decide_eq_true_eq, not_or]
        omega
      rw [if_neg hne]
      exact k1
    · have := k3 b; have := m1 b
      simp only [ownsL, oc_append]
      omega
    · simp only [ownsL, List.mem_append]
      rcases k4 r hr with h | h
      · exact .inl (.inr h)
      · rcases m2 r h with h | h
        · exact .inl (.inl h)
        · exact .inr h
/-- A struct's places. -/
def placesOf (P : Program) (fs : Array Field) : Option (List (Nat × Nat)) := fs.toList.mapM fun f => (P.info? f.type).map fun i => (f.offset, i.size)
/-- The parts of a build, told apart. -/
def fitParts : List (Nat × Nat × AX) → List (Nat × Operand) → List (Nat × Nat) → Bool
  | [], [], _ => true
  | (off, n, x) :: ps, (i, p) :: qs, pl => decide (pl[i]? = some (off, n)) && fitX x p && fitParts ps qs pl
  | _, _, _ => false
theorem fitParts_ok : ∀ {ps : List (Nat × Nat × AX)} {qs : List (Nat × Operand)} {pl : List (Nat × Nat)}, fitParts ps qs pl = true → fitXs (ps.map fun p => p.2.2) (qs.map fun q => q.2) = true ∧ (qs.map fun q => q.1).length = (ps.map fun p => (p.1, p.2.1)).length ∧ ∀ (j i : Nat) (q : Nat × Nat), (qs.map fun q => q.1)[j]? = some i → (ps.map fun p => (p.1, p.2.1))[j]? = some q → pl[i]? = some q
  | [], [], _, _ => ⟨rfl, rfl, fun j i q h => by simp at h⟩
  | [], _ :: _, _, h => by simp [fitParts] at h
  | (_, _, _) :: _, [], _, h => by simp [fitParts] at h
  | (off, n, x) :: ps, (i, p) :: qs, pl, h => by
    simp only [fitParts, Bool.and_eq_true, decide_eq_true_eq] at h
    obtain ⟨⟨h1, h2⟩, h3⟩ := h
    obtain ⟨h4, h5, h6⟩ := fitParts_ok h3
    refine ⟨by simp [fitXs, h2, h4], by simpa using h5, fun j i' q hj hq => ?_⟩
    cases j with
    | zero => simp at hj hq; subst hj; subst hq; exact h1
    | succ j => exact h6 j i' q (by simpa using hj) (by simpa using hq)

theorem ok_build {zero : List AV} {ps : List (Nat × Nat × AX)} {qs : List (Nat × Operand)} {t : TypeId} {fs : Array Field} {pl : List (Nat × Nat)} {zr : Value} (h : o.op = .build t qs.toArray) (ht : c.P.underlying t = some (.struct fs)) (hz : (c.P.info? t).bind (·.zero) = some zr) (hpl : placesOf c.P fs = some pl) (hf : fitCs zero zr.cells.toList = true) (hx : fitParts ps qs pl = true) : OpOK c (.build zero ps) o := by
  obtain ⟨hx1, hx2, hx3⟩ := fitParts_ok hx
  obtain ⟨it, hi1, hi2⟩ := Option.bind_eq_some_iff.1 hz
  intro s R k r hr
  simp only [AOp.run] at hr
  obtain ⟨cs', h1, h2⟩ := Option.bind_eq_some_iff.1 hr
  refine ⟨_, _, h2, OpSem.run fun F g a w B hB hpre hs => ?_⟩
  obtain ⟨h3, h4⟩ := AX.oks hs hx1
  obtain ⟨h5, h6⟩ := fitCs_ok g w zero zr.cells.toList hf
  obtain ⟨cells', k1, k2, k3, k4⟩ := fill_ok (place := fun i => pl.toArray[i]?) _ (qs.map fun q => q.1) _ _ zero cs' zr.cells h3 h5 h1 hx2 (fun j i q hj hq => by simpa using hx3 j i q hj hq)
  rw [h6] at k3 k4
  refine ⟨.agg cells', g, w, ?_, by simp only [VR]; exact ⟨_, rfl, k2⟩, hpre, h4.less (fun r hr => ?_) (fun b => ?_), Step.refl _ _ _⟩
  · simp only [execOp, h]
    refine run_value (run_build w t _ cells' ?_)
    have hparts : (qs.toArray.map fun (x : Nat × Operand) => (x.1, a.eval x.2)).toList = (qs.map fun q => q.1).zip ((qs.map fun q => q.2).map a.eval) := by
      simp [List.zip_map', List.map_map, Function.comp_def, List.zip_map]
    unfold Program.built
    unfold placesOf at hpl
    rw [hi1, ht]
    simp only [hi2, hpl]
    exact (congrArg (Instr.fill (fun i => pl.toArray[i]?) zr.cells) hparts).trans k1
  · simp only [owns] at hr
    exact List.mem_append_left _ ((k4 r hr).resolve_right (by simp))
  · have := k3 b
    simp only [owns, oc_append, oc_nil] at this ⊢
    omega
end Go.Sh

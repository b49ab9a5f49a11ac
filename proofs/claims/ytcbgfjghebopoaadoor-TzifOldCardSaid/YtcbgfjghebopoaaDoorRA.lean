/- Ranges over functions. -/
import Derived.Test.YtcbgfjghebopoaaDoorSZ
import Derived.Test.YtcbgfjghebopoaaDoorS1
import Derived.RangeFuncRecord
import Derived.RangeFuncLeaves
namespace Go.Sh
open Go.RowKit
set_option linter.unusedSimpArgs false
set_option linter.unusedVariables false
variable {c : Cx} {o : Oper}

/-- What a round does. -/
structure RSound (P : Program) (key : Nat) (sp : FSpec) : Prop where
  law : ∀ (az : List AV) (H : List AObj) (R : Type) (k : AV → List AObj → Option R) (r : R), sp az H R k = some r → ∃ v H', k v H' = some r ∧
    ∀ (F : Nat → Prop) (g : Gh) (us : List Value) (w : World) (l : Nat) (rec : Loop), VRs g w az (us ++ (loopMeta key).slots.map fun t => rec.tmps.getD t undef) →
      Core F g H [] w →
      w.heap[l]? = some (.loop rec) → rec.state = .ready → rec.pending = none → rec.params.toList = (loopMeta key).params → rec.assign = (loopMeta key).assign → rec.body = (loopMeta key).body → rec.tmps.size = (loopMeta key).nt →
      us.length = (loopMeta key).params.length → F l → Keeps (fun b => F b ∧ b ≠ l) w →
      ∀ (ro : Option Nat) (dn : Nat), RoundIn (fw ro) dn P l rec.fn ((rec.params.zip us.toArray).foldl (fun tmps x => tmps.setIfInBounds x.1 x.2) rec.tmps) rec.assign rec.body w
        fun e w' => ∃ v' g', e = .returned v' ∧ VR g' w' v v' ∧ g.obj <+: g'.obj ∧ Core F g' H' (owns v v') w' ∧ Step F g w g' w'

theorem Keeps.turn {F F0 : Nat → Prop} {w w' : World} {l : Nat} (h : Keeps (fun b => F0 b ∧ b ≠ l) w) (hF : ∀ b, F0 b → F b) (he : ∀ b, F0 b → b ≠ l → w'.heap[b]? = w.heap[b]?) : Keeps F w' := by
  obtain ⟨bs, h1, h2⟩ := h
  exact ⟨bs, h1, fun b hb => ⟨hF b (h2 b hb).1.1, (he b (h2 b hb).1.1 (h2 b hb).1.2).trans (h2 b hb).2⟩⟩
theorem loop_cell {w : World} {l : Nat} {r : Loop} (h : w.heap[l]? = some (.loop r)) (j : Nat) : w.cell? ⟨l, j, none⟩ = none := by simp [World.cell?, h]
theorem loop_ty {w w' : World} {l : Nat} {r r' : Loop} (h : w.heap[l]? = some (.loop r)) (h' : w'.heap[l]? = some (.loop r')) : tyOf w' l = tyOf w l := by simp [tyOf, h, h']
theorem put_loop {w : World} {l : Nat} {r : Loop} (x : Loop) (h : w.heap[l]? = some (.loop r)) : (w.putObj l (.loop x)).heap[l]? = some (.loop x) := by simp [World.putObj, Array.getElem?_setIfInBounds_self_of_lt (Array.getElem?_eq_some_iff.1 h).1]
theorem zipS_get (H : List AObj) : ∀ (ts : List Nat) (vs : List AV) (t : Nat), ts.Nodup → ts.length = vs.length → (∀ (i : Nat) (v : AV), ts[i]? = some t → vs[i]? = some v → (⟨ts.zip vs, H⟩ : St).get t = v) ∧ (t ∉ ts → (⟨ts.zip vs, H⟩ : St).get t = .undef)
  | [], vs, t, _, _ => ⟨fun i v h => by simp at h, fun _ => rfl⟩
  | u :: ts, [], t, _, h => by simp at h
  | u :: ts, v :: vs, t, hn, hl => by
    obtain ⟨h1, h2⟩ := List.nodup_cons.1 hn
    obtain ⟨h3, h4⟩ := zipS_get H ts vs t h2 (by simpa using hl)
    refine ⟨fun i x hi hx => ?_, fun ht => ?_⟩
    · rw [List.zip_cons_cons, get_cons]
      cases i with
      | zero =>
        simp only [List.getElem?_cons_zero, Option.some.injEq] at hi hx
        rw [if_pos hi, hx]
      | succ i =>
        simp only [List.getElem?_cons_succ] at hi hx
        rw [if_neg (fun (e : u = t) => h1 (e ▸ List.mem_of_getElem? hi)), h3 i x hi hx]
    · simp only [List.mem_cons, not_or] at ht
      rw [List.zip_cons_cons, get_cons, if_neg (fun e => ht.1 e.symm), h4 ht.2]
theorem fold_get : ∀ (ps : List Nat) (us : List Value) (a : Array Value) (t : Nat), ps.Nodup → ps.length = us.length → (∀ p ∈ ps, p < a.size) →
    ((ps.zip us).foldl (fun (tmps : Array Value) (x : Nat × Value) => tmps.setIfInBounds x.1 x.2) a).size = a.size ∧
    (∀ (i : Nat) (u : Value), ps[i]? = some t → us[i]? = some u → ((ps.zip us).foldl (fun (tmps : Array Value) (x : Nat × Value) => tmps.setIfInBounds x.1 x.2) a).getD t undef = u) ∧
    (t ∉ ps → ((ps.zip us).foldl (fun (tmps : Array Value) (x : Nat × Value) => tmps.setIfInBounds x.1 x.2) a).getD t undef = a.getD t undef)
  | [], us, a, t, _, _, _ => ⟨rfl, fun i u h => by simp at h, fun _ => rfl⟩
  | p :: ps, [], a, t, _, h, _ => by simp at h
  | p :: ps, u :: us, a, t, hn, hl, hlt => by
    obtain ⟨h1, h2⟩ := List.nodup_cons.1 hn
    obtain ⟨h3, h4, h5⟩ := fold_get ps us (a.setIfInBounds p u) t h2 (by simpa using hl) (fun q hq => by simpa using hlt q (by simp [hq]))
    refine ⟨by simpa using h3, fun i x hi hx => ?_, fun ht => ?_⟩
    · rw [List.zip_cons_cons, List.foldl_cons]
      cases i with
      | zero =>
        simp only [List.getElem?_cons_zero, Option.some.injEq] at hi hx
        subst hi; subst hx
        rw [h5 h1, Array.getD_eq_getD_getElem?, Array.getElem?_setIfInBounds_self_of_lt (hlt p (by simp))]
        rfl
      | succ i =>
        simp only [List.getElem?_cons_succ] at hi hx
        exact h4 i x hi hx
    · simp only [List.mem_cons, not_or] at ht
      rw [List.zip_cons_cons, List.foldl_cons, h5 ht.2, Array.getD_eq_getD_getElem?, Array.getElem?_setIfInBounds_ne (fun e => ht.1 e.symm), ← Array.getD_eq_getD_getElem?]

/-- A round out of its code. -/
theorem rsound_of {P : Program} {key nb : Nat} {ea eb : Ex} {n : Option Nat} {sp : FSpec} (hn : ((loopMeta key).params ++ (loopMeta key).slots).Nodup) (hlt : ∀ t ∈ (loopMeta key).params, t < (loopMeta key).nt)
    (ha : Snd ⟨P, nb, (loopMeta key).nt⟩ ea (loopMeta key).assign) (hb : Snd ⟨P, nb, (loopMeta key).nt⟩ eb (loopMeta key).body) (hra : rfn (loopMeta key).assign = false) (hrb : rfn (loopMeta key).body = false) (hnn : ∀ m, n = some m → m = nb)
    (hsp : ∀ (az : List AV) (H : List AObj) (R : Type) (k : AV → List AObj → Option R) (r : R), sp az H R k = some r → az.length = ((loopMeta key).params ++ (loopMeta key).slots).length ∧ H.length = nb ∧
      eseq ea eb ⟨((loopMeta key).params ++ (loopMeta key).slots).zip (disownL az), H⟩ R (fun e s => match e with | .normal => eres [] n .normal s fun _ h => k (.bool true) h | _ => none) = some r) : RSound P key sp := by
  refine ⟨fun az H R k r hr => ?_⟩
  obtain ⟨hlen, hH, hrun⟩ := hsp az H R k r hr
  unfold eseq at hrun
  obtain ⟨e1, s1, h1, h2⟩ := ha _ R _ r hrun
  cases e1 with
  | exit i => simp at h1
  | ret => simp at h1
  | normal =>
  obtain ⟨e2, s2, h3, h4⟩ := hb _ R _ r h1
  cases e2 with
  | exit i => simp at h3
  | ret => simp at h3
  | normal =>
  simp only [eres, resG] at h3
  -- what is handed back
  obtain ⟨H', hk, hgc⟩ : ∃ H', k (.bool true) H' = some r ∧ ∀ (F : Nat → Prop) (g : Gh) (w : World) (B : List Nat), B.length = nb → B <+: g.obj → Core F g s2.heap [] w → ∃ g', B <+: g'.obj ∧ g'.len = g.len ∧ Core F g' H' [] w := by
    cases n with
    | none => exact ⟨s2.heap, h3, fun F g w B _ hp hc => ⟨g, hp, rfl, hc⟩⟩
    | some m =>
      have hm := hnn m rfl
      subst hm
      obtain ⟨ids, vs', hs, g1, g2, g3, g4, g5⟩ := gcV_some h3
      exact ⟨hs, g5, fun F g w B hB hp hc => ⟨partOf g ids, prefix_part hp (by rw [hB]; exact g2), rfl, hc.gc g1 g4⟩⟩
  refine ⟨.bool true, H', hk, fun F g us w l rec hvs hcore hw hst hpd hps has hbd hnt hul hFl hkp ro dn => ?_⟩
  rw [has, hbd]
  have hnp := (List.nodup_append.1 hn).1
  have hf := fold_get (loopMeta key).params us rec.tmps
  have harr : (rec.params.zip us.toArray).foldl (fun (tmps : Array Value) (x : Nat × Value) => tmps.setIfInBounds x.1 x.2) rec.tmps = ((loopMeta key).params.zip us).foldl (fun (tmps : Array Value) (x : Nat × Value) => tmps.setIfInBounds x.1 x.2) rec.tmps := by
    rw [← Array.foldl_toList, Array.toList_zip, hps]
  rw [harr]
  have hlt' : ∀ p ∈ (loopMeta key).params, p < rec.tmps.size := fun p hp => by rw [hnt]; exact hlt p hp
  have hdl : ((loopMeta key).params ++ (loopMeta key).slots).length = (disownL az).length := by rw [disownL_length, hlen]
  have hz := zipS_get H ((loopMeta key).params ++ (loopMeta key).slots) (disownL az)
  have hds := VRs.disown az _ hvs
  have hfree : ∀ t v, owns ((⟨((loopMeta key).params ++ (loopMeta key).slots).zip (disownL az), H⟩ : St).get t) v = [] := fun t v => by
    by_cases ht : t ∈ (loopMeta key).params ++ (loopMeta key).slots
    · obtain ⟨i, hi⟩ := List.getElem?_of_mem ht
      have hil := (List.getElem?_eq_some_iff.1 hi).1
      have hx := List.getElem?_eq_getElem (l := disownL az) (i := i) (by omega)
      rw [(hz t hn hdl).1 i _ hi hx]
      have : ∀ (l : List AV) (i : Nat) (h : i < (disownL l).length), ∃ x, (disownL l)[i] = disown x := by
        intro l
        induction l with
        | nil => intro i h; simp [disownL] at h
        | cons x l ih =>
          intro i h
          cases i with
          | zero => exact ⟨x, rfl⟩
          | succ i => simpa [disownL] using ih i (by simpa [disownL] using h)
      obtain ⟨x, hx⟩ := this az i (by omega)
      rw [hx, owns_disown]
    · rw [(hz t hn hdl).2 ht, owns_undefA]
  have hsl0 : ∀ (vs : List Value) (i : Nat), slotOwns (⟨((loopMeta key).params ++ (loopMeta key).slots).zip (disownL az), H⟩ : St) i vs = [] := by
    intro vs
    induction vs with
    | nil => intro i; rfl
    | cons v vs ih => intro i; simp only [slotOwns, hfree, ih, List.append_nil]
  have hcore0 : Core F g H [] w := hcore
  have hsim : SimX F (loopMeta key).nt g ⟨((loopMeta key).params ++ (loopMeta key).slots).zip (disownL az), H⟩ { tmps := ((loopMeta key).params.zip us).foldl (fun (tmps : Array Value) (x : Nat × Value) => tmps.setIfInBounds x.1 x.2) rec.tmps, defers := [] } w [] := by
    refine ⟨by rw [(hf 0 hnp hul.symm hlt').1, hnt], fun t => ?_, by rw [List.nil_append, hsl0]; exact hcore0⟩
    by_cases ht : t ∈ (loopMeta key).params ++ (loopMeta key).slots
    · obtain ⟨i, hi⟩ := List.getElem?_of_mem ht
      have hil := (List.getElem?_eq_some_iff.1 hi).1
      have hx := List.getElem?_eq_getElem (l := disownL az) (i := i) (by omega)
      rw [(hz t hn hdl).1 i _ hi hx]
      obtain ⟨v, hv1, hv2⟩ := hds.get i _ hx
      have : ({ tmps := ((loopMeta key).params.zip us).foldl (fun (tmps : Array Value) (x : Nat × Value) => tmps.setIfInBounds x.1 x.2) rec.tmps, defers := [] } : Act).tmps.getD t undef = v := by
        show (((loopMeta key).params.zip us).foldl (fun (tmps : Array Value) (x : Nat × Value) => tmps.setIfInBounds x.1 x.2) rec.tmps).getD t undef = v
        by_cases hip : i < (loopMeta key).params.length
        · rw [List.getElem?_append_left hip] at hi
          rw [List.getElem?_append_left (by omega)] at hv1
          exact (hf t hnp hul.symm hlt').2.1 i v hi hv1
        · rw [List.getElem?_append_right (by omega)] at hi hv1
          have htn : t ∉ (loopMeta key).params := fun hp => (List.nodup_append.1 hn).2.2 t hp t (List.mem_of_getElem? hi) rfl
          rw [(hf t hnp hul.symm hlt').2.2 htn]
          rw [hul, List.getElem?_map, hi] at hv1
          simpa using hv1
      rw [this]
      exact hv2
    · rw [(hz t hn hdl).2 ht]
      simp only [VR]
  have hB : g.obj.length = nb := by rw [← hcore0.heap.length]; exact hH
  refine roundIn_of_wpIn trivial ?_
  show (loopMeta key).assign.wpIn (fw (some l)) dn P _ _ w
  refine wpIn_mono (h2 F g _ w g.obj hB (List.prefix_refl _) hsim (some l) dn (fun h => by rw [hra] at h; cases h)) ?_
  rintro e a1 w1 ⟨rfl, F1, g1, hF1, hp1, hs1, hst1, _⟩
  have hw1 : w1.heap[l]? = some (.loop rec) := by rw [(hst1.frame l hFl).1]; exact hw
  have hlt1 := (Array.getElem?_eq_some_iff.1 hw1).1
  have oth : ∀ (w : World) (x : Obj) b, b ≠ l → (w.putObj l x).heap[b]? = w.heap[b]? := fun w x b hb => by simp [World.putObj, Array.getElem?_setIfInBounds_ne (Ne.symm hb)]
  refine ⟨_, run_beginRound hw1 hst, ?_⟩
  have hk1 : Keeps F1 (w1.putObj l (.loop { rec with state := .busy })) := hkp.turn hF1 fun b hb hne => by rw [oth _ _ _ hne]; exact (hst1.frame b hb).1
  have hs1' := simx_turn hs1 (hF1 l hFl) hlt1 (loop_cell hw1) (loop_cell (put_loop _ hw1)) (loop_ty hw1 (put_loop _ hw1)) hk1
  have ext1 := (hs1.core.turn (hF1 l hFl) hlt1 (loop_cell hw1) (loop_cell (put_loop _ hw1)) (loop_ty hw1 (put_loop _ hw1)) hk1).1
  show (loopMeta key).body.wpIn (fw (some l)) dn P _ _ _
  refine wpIn_mono (h4 F1 g1 _ _ g.obj hB hp1 hs1' (some l) dn (fun h => by rw [hrb] at h; cases h)) ?_
  rintro e a2 w2 ⟨rfl, F2, g2, hF2, hp2, hs2, hst2, _⟩
  have hw2 : w2.heap[l]? = some (.loop { rec with state := .busy }) := by
    rw [(hst2.frame l (hF1 l hFl)).1]
    simp [World.putObj, Array.getElem?_setIfInBounds_self_of_lt hlt1]
  have hlt2 := (Array.getElem?_eq_some_iff.1 hw2).1
  have hrec : ({ { rec with state := .busy } with state := if (none : Option Code).isNone then .ready else .done, pending := none } : Loop) = rec := by
    cases rec
    simp only at hst hpd
    subst hst; subst hpd
    rfl
  refine ⟨_, _, run_endRound none hw2, ?_⟩
  have hk2 : Keeps F2 (w2.putObj l (.loop { { rec with state := .busy } with state := if (none : Option Code).isNone then .ready else .done, pending := none })) := hkp.turn (fun b hb => hF2 b (hF1 b hb)) fun b hb hne => by
    rw [oth _ _ _ hne, (hst2.frame b (hF1 b hb)).1, oth _ _ _ hne, (hst1.frame b hb).1]
  obtain ⟨ext2, hc2⟩ := hs2.core.turn (hF2 l (hF1 l hFl)) hlt2 (loop_cell hw2) (loop_cell (put_loop _ hw2)) (loop_ty hw2 (put_loop _ hw2)) hk2
  obtain ⟨g3, hp3, hl3, hc3⟩ := hgc F2 g2 _ g.obj hB hp2 (hc2.weaken (fun r hr => by simp at hr) (fun b => by simp [oc_nil]))
  have hstep : Step F g w g2 (w2.putObj l (.loop { { rec with state := .busy } with state := if (none : Option Code).isNone then .ready else .done, pending := none })) := by
    have hl12 : ∀ b, g.len b ≤ g1.len b := hst1.len
    refine ⟨fun b j hj => ?_, fun b hb => ?_, fun b => Nat.le_trans (hst1.bsz b) (Nat.le_trans (ext1.bsz b) (Nat.le_trans (hst2.bsz b) (ext2.bsz b))), fun b => Nat.le_trans (hst1.len b) (hst2.len b), fun b hb => ⟨?_, ?_⟩, ?_, ?_, ?_, ?_⟩
    · have j1 := Nat.lt_of_lt_of_le hj (hst1.len b)
      have j2 := Nat.lt_of_lt_of_le j1 (hst2.len b)
      rw [ext2.cell b j j2, hst2.cell b j j1, ext1.cell b j j1, hst1.cell b j hj]
    · have j1 := Nat.lt_of_lt_of_le hb (hst1.len b)
      have j2 := Nat.lt_of_lt_of_le j1 (hst2.len b)
      rw [ext2.ty b j2, hst2.ty b j1, ext1.ty b j1, hst1.ty b hb]
    · by_cases e : b = l
      · subst e
        rw [hrec, hw]
        simp [World.putObj, Array.getElem?_setIfInBounds_self_of_lt hlt2]
      · rw [oth _ _ _ e, (hst2.frame b (hF1 b hb)).1, oth _ _ _ e, (hst1.frame b hb).1]
    · rw [(hst2.frame b (hF1 b hb)).2, (hst1.frame b hb).2]
    · have h5 := hst1.size
      have h6 := hst2.size
      simp only [World.putObj, Array.size_setIfInBounds] at h6 ⊢
      omega
    · exact hst2.os.trans hst1.os
    · exact hst2.tape.trans hst1.tape
    · exact hst2.output.trans hst1.output
  refine ⟨.bool true, g3, rfl, by simp only [VR], hp3, ⟨hc3.heap, hc3.own, hc3.dist, fun b hb => hc3.notF b (hF2 b (hF1 b hb)), hc3.objlen, hc3.lenlt, fun b hb => hc3.flt b (hF2 b (hF1 b hb)), ?_⟩, hstep.lenEq hl3⟩
  obtain ⟨bs, k1, k2⟩ := hkp
  exact ⟨bs, k1, fun b hb => ⟨(k2 b hb).1.1, by
    rw [oth _ _ _ (k2 b hb).1.2, (hst2.frame b (hF1 b (k2 b hb).1.1)).1, oth _ _ _ (k2 b hb).1.2, (hst1.frame b (k2 b hb).1.1).1]; exact (k2 b hb).2⟩⟩

theorem opw_round {P : Program} {o : Oper} {a : Act} {w w' : World} {l : Nat} {f : FuncId} {tmps : Array Value} {az bd : Code} {ro : Option Nat} {n : Nat} {next : Act → World → Prop} {Q : Exit → Act → World → Prop} (h : (execOp a.eval o).run P w = .ok (.round l f tmps az bd) w')
    (hn : RoundIn (fw ro) (n - 1) P l f tmps az bd w' fun e w'' => ∃ v, e = .returned v ∧ next (a.put o.dst v) w'') : o.wpIn (fw ro) n P a w next Q := by
  refine ⟨fun _ _ => trivial, ?_⟩
  rw [Oper.semAt_eq _ _ _ (not_defer h (by simp)), h, Oper.uponIn_round]
  exact ⟨fun hd => (by cases hd), hn.mono (by rintro e w'' ⟨v, rfl, h⟩; exact h)⟩

theorem ok_callY {sp : FSpec} {key : Nat} {fv : AX} {fp : Operand} {xs : List AX} {ps : List Operand} {cl : Call} (h : o.op = .call cl) (hc : cl.callee = .value fp) (hargs : cl.args = ps.toArray) (hs : RSound c.P key sp) (hlen : ps.length = (loopMeta key).params.length) (hfx : fitX fv fp = true) (hx : fitXs xs ps = true) : OpOK c (.callY sp key fv xs) o := by
  intro s R k r hr
  simp only [AOp.run] at hr
  split at hr
  case h_2 => exact absurd hr (by simp)
  rename_i id hfv
  split at hr
  case h_2 => exact absurd hr (by simp)
  rename_i key' caps hob
  obtain ⟨hff, hr2⟩ | ⟨_, hr2⟩ := cond_some hr
  case inr => exact absurd hr2 (by simp)
  clear hr
  simp only [Bool.and_eq_true, Bool.not_eq_true', List.contains_eq_mem, decide_eq_false_iff_not] at hff
  obtain ⟨hff, hid⟩ := hff
  have hff := Nat.eq_of_beq_eq_true hff
  subst hff
  have hsh := sts_heap xs s
  rw [← hsh] at hid hob
  have hn := gcIds_nodup 0 (evs s xs ++ caps) (sts s xs).heap
  unfold callK at hr2
  generalize gcIds 0 (evs s xs ++ caps) (sts s xs).heap = ids at hr2 hn hid
  obtain ⟨args', h1, h2⟩ := Option.bind_eq_some_iff.1 hr2
  obtain ⟨hs', h3, h4⟩ := Option.bind_eq_some_iff.1 h2
  obtain ⟨v0, H0, h5, h6⟩ := hs.law _ _ _ _ _ h4
  obtain ⟨v', h7, h8⟩ := Option.bind_eq_some_iff.1 h5
  obtain ⟨H', h9, h10⟩ := Option.bind_eq_some_iff.1 h8
  refine ⟨v', _, h10, fun F g a w B hB hpre hsim ro dn next Q hnext => ?_⟩
  have hl : ∀ i ∈ ids, i < (sts s xs).heap.length := pick_lt h3
  obtain ⟨hv1, hsim1⟩ := AX.oks hsim hx
  have hfval := ev_read hsim hfx
  rw [hfv] at hfval
  simp only [VR] at hfval
  obtain ⟨b, hfe, hbi⟩ := hfval
  have hobj := getObj_ok hsim1.core.heap id b _ hob hbi
  simp only [ObjR] at hobj
  obtain ⟨rec, hw, k1, k2, k3, k4, k5, k6, k7⟩ := hobj
  have hvs := hv1.append k7
  have hcW : Core F g (sts s xs).heap ([] ++ slotOwns (sts s xs) 0 a.tmps.toList) w := hsim1.core.weaken (fun r hr => List.mem_append_right _ (by simpa using hr)) (fun b => by simp only [oc_append, oc_nil]; omega)
  have hpart : ∀ (i j b : Nat), toPos ids i = some j → g.obj[i]? = some b → (partOf g ids).obj[j]? = some b := fun i j b hij hb => by
    rw [partOf_get (toPos_some hij), List.getD_eq_getElem?_getD, hb]; rfl
  obtain ⟨h11, _⟩ := VRs.ren (g := g) (g1 := partOf g ids) (w := w) (fun _ => Nat.le_refl _) hpart (noPtr_ok fun _ => Nat.le_refl _) _ _ _ h1 hvs
  have hsplit := hcW.split hn hl h3
  have hidlt := (List.getElem?_eq_some_iff.1 hob).1
  have hheld : Held F g (sts s xs).heap ids (slotOwns (sts s xs) 0 a.tmps.toList) w b := .inr (.inr (List.mem_flatMap.2 ⟨id, by simp [others, hidlt, hid], List.mem_append_right _ (liveI_at hob hbi rfl)⟩))
  have hbm : b ∈ lives (sts s xs).heap g.obj := lives_at hob hbi rfl
  have hkp : Keeps (fun x => Held F g (sts s xs).heap ids (slotOwns (sts s xs) 0 a.tmps.toList) w x ∧ x ≠ b) w := by
    obtain ⟨bs, q1, q2⟩ := hcW.good
    refine ⟨bs, q1, fun x hx => ⟨⟨.inl (q2 x hx).1, fun e => ?_⟩, (q2 x hx).2⟩⟩
    subst e
    have := hcW.notF x (q2 x hx).1
    have := List.count_pos_iff.2 hbm
    omega
  have hul : (ps.map a.eval).length = (loopMeta key').params.length := by rw [List.length_map]; exact hlen
  have hrun : (execOp a.eval o).run c.P w = .ok (.round b rec.fn ((rec.params.zip (ps.map a.eval).toArray).foldl (fun tmps x => tmps.setIfInBounds x.1 x.2) rec.tmps) rec.assign rec.body) w := by
    have hy := run_yield (P := c.P) (args := (ps.map a.eval).toArray) hw (by rw [List.size_toArray, hul, ← k3, Array.length_toList])
    simp only [execOp, h, resolve, hc, hargs, hfe, Deferred.ofValue, Sem.run_bind, Sem.run_pure, Result.andThen, invoke]
    have e1 : (#[] ++ Array.map a.eval ps.toArray : Array Value) = (ps.map a.eval).toArray := by simp
    rw [e1]
    exact hy
  refine opw_round hrun ((h6 _ (partOf g ids) _ w b rec h11 hsplit hw k1 k2 k3 k4 k5 k6 hul hheld hkp ro (dn - 1)).mono ?_)
  rintro e w1 ⟨v1, g1, rfl, q1, q2, q3, q4⟩
  obtain ⟨j1, j2, j3, j4⟩ := hcW.join hn hl q3 q4 q2 h9
  obtain ⟨j5, j6⟩ := j4 _ _ v1 h7 q1
  exact ⟨v1, rfl, hnext v1 _ w1 j5 (hpre.trans ⟨_, rfl⟩) ⟨hsim1.size, fun t => VR.ext j3 _ _ (hsim1.slots t), by rw [simx_put_heap, j6]; exact j1⟩ j2⟩

/-- More may be framed. -/
theorem Core.moreF {F : Nat → Prop} {g : Gh} {H : List AObj} {os : List Rec} {w : World} {D : Nat} (h : Core F g H os w) (hD : oc D os + oc D (ownsH w H g.obj) + (lives H g.obj).count D = 0) (hlt : D < w.heap.size) : Core (fun b => F b ∨ b = D) g H os w := by
  obtain ⟨bs, h1, h2⟩ := h.good
  refine ⟨h.heap, h.own, h.dist, fun b hb => ?_, h.objlen, h.lenlt, fun b hb => ?_, bs, h1, fun b hb => ⟨.inl (h2 b hb).1, (h2 b hb).2⟩⟩
  · rcases hb with hb | rfl
    · exact h.notF b hb
    · exact hD
  · rcases hb with hb | rfl
    · exact h.flt b hb
    · exact hlt
theorem Core.fresh {F : Nat → Prop} {g : Gh} {H : List AObj} {os : List Rec} {w : World} {b : Nat} (h : Core F g H os w) (hb : w.heap.size ≤ b) : oc b os + oc b (ownsH w H g.obj) + (lives H g.obj).count b = 0 := by
  have a1 : oc b os = 0 := by
    rcases Nat.eq_zero_or_pos (oc b os) with e | e
    · exact e
    · obtain ⟨r, hr, hr2⟩ := List.countP_pos_iff.1 e
      have := (h.own r (.inl hr)).lt
      simp at hr2
      omega
  have a2 : oc b (ownsH w H g.obj) = 0 := by
    rcases Nat.eq_zero_or_pos (oc b (ownsH w H g.obj)) with e | e
    · exact e
    · obtain ⟨r, hr, hr2⟩ := List.countP_pos_iff.1 e
      have := (h.own r (.inr hr)).lt
      simp at hr2
      omega
  have a3 : (lives H g.obj).count b = 0 := List.count_eq_zero.2 fun hm => by have := h.heap.lt b hm; omega
  omega

theorem vrs_map {F : Nat → Prop} {nt : Nat} {g : Gh} {s : St} {a : Act} {w : World} {os : List Rec} (h : SimX F nt g s a w os) : ∀ (ts : List Nat), VRs g w (disownL (ts.map s.get)) (ts.map fun t => a.tmps.getD t undef)
  | [] => by simp [disownL, VRs]
  | t :: ts => by
    simp only [List.map_cons, disownL, VRs]
    exact ⟨_, _, rfl, VR.disown _ _ (h.slots t), vrs_map h ts⟩

theorem snd_range {key : Nat} {ts : List Nat} {sp : FSpec} {f : FuncId} {x : AX} {p : Operand} {ps : Array Tmp} {assign body : Code} (hs : FSound c.P f sp) (hx : fitX x p = true) (hfree : x.free = true) (hm : loopMeta key = ⟨ps.toList, assign, body, ts, c.nt⟩) : Snd c (erange key ts sp f x) (.rangeFunc p ps assign body) := by
  intro s R k r h
  unfold erange at h
  split at h
  case h_2 => cases h
  rename_i f' caps hfv
  obtain ⟨hff, hr2⟩ | ⟨_, hr2⟩ := cond_some h
  case inr => cases hr2
  clear h
  have hff := Nat.eq_of_beq_eq_true hff
  subst hff
  obtain ⟨v, s', h1, h2⟩ := call_effect hs hr2
  split at h1
  case h_2 => cases h1
  rename_i key' caps' hob
  refine ⟨.normal, _, h1, fun F g a w B hB hp hsim ro dn hro => ?_⟩
  obtain rfl := hro rfl
  refine wpIn_rangeFunc fun fn _ => ?_
  have hfval := ev_read hsim hx
  rw [hfv] at hfval
  simp only [VR] at hfval
  obtain ⟨us, ys, hfe, hus, hys⟩ := hfval
  simp only [VRs] at hus
  have hus0 : us = #[] := by cases us; simpa using hus
  subst hus0
  generalize hrec : ({ state := .ready, pending := none, fn, tmps := a.tmps, params := ps, assign, body, defers := w.heap.size } : Loop) = rec
  generalize hW : (w.alloc (.deferred (some []))).alloc (.loop rec) = W
  have hWl : W.heap[w.heap.size + 1]? = some (.loop rec) := by
    rw [← hW]
    have := World.alloc_heap_new (w.alloc (.deferred (some []))) (.loop rec)
    rw [World.size_alloc] at this
    exact this
  have hWD : W.heap[w.heap.size]? = some (.deferred (some [])) := by
    rw [← hW, heap_alloc_old _ _ _ (by rw [World.size_alloc]; omega)]
    exact heap_alloc_new w _
  have hWo : ∀ b, b < w.heap.size → W.heap[b]? = w.heap[b]? := fun b hb => by
    rw [← hW, heap_alloc_old _ _ _ (by rw [World.size_alloc]; omega), heap_alloc_old _ _ _ hb]
  have hWs : W.heap.size = w.heap.size + 2 := by rw [← hW, World.size_alloc, World.size_alloc]
  have hbel : Below w.heap.size w W := ⟨by rw [← hW]; rfl, by rw [← hW]; rfl, by rw [← hW]; rfl, by omega, fun b hb => hWo b hb⟩
  -- the record, an object
  obtain ⟨e1, e2, e3⟩ := hsim.core.below hbel
  have hlen := hsim.core.heap.length
  have ext1 : Ext g w ⟨g.obj ++ [w.heap.size + 1], g.len⟩ W := ⟨e1.cell, e1.ty, e1.bsz, e1.len, fun i b hi => by
    simp only
    rw [List.getElem?_append_left (List.getElem?_eq_some_iff.1 hi).1]; exact hi⟩
  have hobj := (ObjsR.move e1 s.heap g.obj hsim.core.heap (fun b hb => hWo b (hsim.core.heap.lt b hb))).2
  have hfr : ∀ b, w.heap.size ≤ b → oc b ([] ++ slotOwns s 0 a.tmps.toList) + oc b (ownsH W s.heap g.obj) + (lives s.heap g.obj).count b = 0 := fun b hb => by
    rw [hobj]; exact hsim.core.fresh hb
  have hl0 : ∀ b, w.heap.size ≤ b → g.len b = 0 := fun b hb => by
    rcases Nat.eq_zero_or_pos (g.len b) with e | e
    · exact e
    · have := hsim.core.lenlt b e; omega
  have hcap := vrs_map hsim ts
  have hrt : rec.tmps = a.tmps := by rw [← hrec]
  have hR : ObjR ⟨g.obj ++ [w.heap.size + 1], g.len⟩ W (w.heap.size + 1) (.loop key (disownL (ts.map s.get))) := by
    simp only [ObjR, hm]
    refine ⟨rec, hWl, by rw [← hrec], by rw [← hrec], by rw [← hrec], by rw [← hrec], by rw [← hrec], by rw [hrt]; exact hsim.size, ?_⟩
    rw [hrt]
    exact VRs.ext ext1 _ _ hcap
  have hc1 : Core F ⟨g.obj ++ [w.heap.size + 1], g.len⟩ (s.heap ++ [.loop key (disownL (ts.map s.get))]) ([] ++ slotOwns s 0 a.tmps.toList) W :=
    e3.addObj (hfr _ (by omega)) (fun hF => by have := hsim.core.flt _ hF; omega) (hl0 _ (by omega)) rfl hR
  have hc2 := hc1.moreF (D := w.heap.size) (by
    have h5 := hfr w.heap.size (Nat.le_refl _)
    rw [ownsH_append (g := g) hlen, lives_append hlen]
    simp only [ownsO, List.append_nil, List.count_append, AObj.dead, cond_false]
    have : List.count w.heap.size [w.heap.size + 1] = 0 := List.count_eq_zero.2 (by simp)
    omega) (by omega)
  have hargs : VRs ⟨g.obj ++ [w.heap.size + 1], g.len⟩ W (.yld s.heap.length :: caps) (.func (.yield (w.heap.size + 1)) #[] #[] :: ys.toList) := by
    simp only [VRs]
    refine ⟨_, _, rfl, ?_, VRs.ext ext1 _ _ hys⟩
    simp only [VR]
    exact ⟨_, rfl, by rw [hlen]; simp⟩
  have hownA : ownsL (.yld s.heap.length :: caps) (.func (.yield (w.heap.size + 1)) #[] #[] :: ys.toList) = [] := by
    simp only [ownsL, owns, List.nil_append]
    exact caps_free hfree hx hfv _
  have hsim2 : SimX (fun b => F b ∨ b = w.heap.size) c.nt ⟨g.obj ++ [w.heap.size + 1], g.len⟩ ⟨s.slots, s.heap ++ [.loop key (disownL (ts.map s.get))]⟩ { a with defers := { target := .collected w.heap.size, args := #[] } :: a.defers } W (ownsL (.yld s.heap.length :: caps) (.func (.yield (w.heap.size + 1)) #[] #[] :: ys.toList)) := by
    rw [hownA]
    refine ⟨hsim.size, fun t => VR.ext ext1 _ _ (hsim.slots t), ?_⟩
    rw [simx_put_heap]
    exact hc2
  have hres : (resolve a.eval (rangeCall p (w.heap.size + 1)) 0).run c.P W = .ok { target := .fn (.func f') ys, args := #[.func (.yield (w.heap.size + 1)) #[] #[]] } W := by
    simp only [resolve, rangeCall, hfe, Deferred.ofValue, Sem.run_pure]
    simp [Act.eval]
  have hinv : (invoke (.fn (.func f') ys) #[.func (.yield (w.heap.size + 1)) #[] #[]]).run c.P W = .ok (.enter f' (Value.func (.yield (w.heap.size + 1)) #[] #[] :: ys.toList).toArray) W := by
    simp only [invoke]
    rw [hs.enters]
    congr 2
    simp
  refine ⟨w.heap.size + 1, [{ target := .collected w.heap.size, args := #[] }], W, _, W, f', _, W, ?_, hres, fun _ _ => trivial, hinv, fun hd => (by cases hd), ?_⟩
  · have := run_enterLoop_outer (P := c.P) (w := w) fn a.tmps ps assign body
    rw [hrec, hW] at this
    exact this
  · refine CallsIn.mono (F := fw none) (callsIn_wide.2 (h2 _ c.nt _ _ W _ hargs hsim2)) ?_
    rintro e w3 ⟨v1, g', rfl, q1, q2, q3, q4⟩
    have hbi : g'.obj[s.heap.length]? = some (w.heap.size + 1) := by
      obtain ⟨t, ht⟩ := q2
      rw [← ht, hlen]
      simp
    have hob3 := getObj_ok q3.core.heap _ _ _ hob hbi
    simp only [ObjR] at hob3
    obtain ⟨r3, j1, j2, j3, _⟩ := hob3
    have hlt3 := (Array.getElem?_eq_some_iff.1 j1).1
    have hend := run_endLoop (P := c.P) j1 (by rw [j2]; simp)
    rw [j3] at hend
    generalize ({ r3 with state := .exhausted, pending := none } : Loop) = X at hend
    have hoth : ∀ b, b ≠ w.heap.size + 1 → (w3.putObj (w.heap.size + 1) (.loop X)).heap[b]? = w3.heap[b]? := fun b hb => by simp [World.putObj, Array.getElem?_setIfInBounds_ne (Ne.symm hb)]
    have hD3 : w3.heap[w.heap.size]? = some (.deferred (some [])) := by rw [(q4.frame w.heap.size (.inr rfl)).1]; exact hWD
    have h03 : bsize w3 (w.heap.size + 1) = 0 := by unfold bsize; rw [j1]
    show ∃ jump w4, _ ∧ _
    refine ⟨none, _, hend, ?_⟩
    refine ⟨rfl, fun b => F b ∨ b = w.heap.size, g', fun b hb => .inl hb, ?_, ?_, ?_, [w.heap.size], rfl, by simp, fun D hD => ?_⟩
    · exact (hp.trans (List.prefix_append _ _)).trans q2
    · have hc3 := q3.core.weaken (os' := [] ++ slotOwns s' 0 a.tmps.toList) (fun r hr => List.mem_append_right _ (by simpa using hr)) (fun b => by simp only [oc_append, oc_nil]; omega)
      obtain ⟨x1, x2, x3⟩ := hc3.setObjG (ob' := .gone) (os0 := []) (os1 := []) (os' := [] ++ slotOwns s' 0 a.tmps.toList) (w' := w3.putObj (w.heap.size + 1) (.loop X)) hob hbi rfl (fun k hk => hoth k hk) (by rw [h03]; exact Nat.zero_le _) (by simp [World.putObj]) rfl rfl rfl rfl rfl (fun _ => trivial) (fun _ => Nat.le_refl _) (fun r hr => hr)
      refine ⟨q3.size, fun t => VR.ext x1 _ _ (q3.slots t), ?_⟩
      rw [simx_put_heap]
      exact x3
    · have hlenL : g'.len (w.heap.size + 1) = 0 := q3.core.objlen _ (lives_at hob hbi rfl)
      refine ⟨fun b j hj => ?_, fun b hb => ?_, fun b => Nat.le_trans (e1.bsz b) (Nat.le_trans (q4.bsz b) (bsz_one hoth (by rw [h03]; exact Nat.zero_le _) b)), fun b => q4.len b, fun b hb => ?_, ?_, ?_, ?_, ?_⟩
      · have hb := hsim.core.lenlt b (by omega)
        rw [cell_of (hoth b (by omega)), q4.cell b j hj, e1.cell b j hj]
      · have hb' := hsim.core.lenlt b hb
        rw [tyOf_block (hoth b (by omega)), q4.ty b hb, e1.ty b hb]
      · have hb' := hsim.core.flt b hb
        rw [hoth b (by omega), (q4.frame b (.inl hb)).1, hWo b hb']
        exact ⟨rfl, (q4.frame b (.inl hb)).2⟩
      · have := q4.size
        simp only [World.putObj, Array.size_setIfInBounds]
        omega
      · exact q4.os.trans hbel.os
      · exact q4.tape.trans hbel.tape
      · exact q4.output.trans hbel.output
    · simp only [List.mem_singleton] at hD
      subst hD
      exact ⟨Nat.le_refl _, .inr rfl, by rw [hoth _ (by omega)]; exact hD3⟩
theorem snd_rangeP {key : Nat} {ts : List Nat} {sp : FSpec} {f : FuncId} {u : Nat} {cd : Code} (hcd : cd = .rangeFunc (.tmp u) cd.rp.toArray cd.ra cd.rb) (hm : loopMeta key = ⟨cd.rp, cd.ra, cd.rb, ts, c.nt⟩) (hs : FSound c.P f sp) : Snd c (erange key ts sp f (.tmp u)) cd := by
  rw [hcd]
  exact snd_range hs (by simp [fitX]) rfl (by rw [hm])

/-- A builder that is new. -/
def isBuf0 : List Value → Bool
  | [.pointer none, .slice none 0 0] => true
  | _ => false
theorem isBuf0_ok {l : List Value} (h : isBuf0 l = true) : l = [.pointer none, .slice none 0 0] := by
  unfold isBuf0 at h
  split at h
  · rfl
  · cases h
theorem ok_allocB {t : TypeId} {zr : Value} (h : o.op = .alloc t) (hz : (c.P.info? t).bind (·.zero) = some zr) (hf : isBuf0 zr.cells.toList = true) : OpOK c (.allocO (.buf 0 t [])) o := by
  intro s R k r hr
  simp only [AOp.run] at hr
  obtain ⟨i, hi1, hi2⟩ := Option.bind_eq_some_iff.1 hz
  refine ⟨_, _, hr, OpSem.run fun F g a w B hB hpre hs => ?_⟩
  have hc := hs.core
  have hcells : zr.cells = #[.pointer none, .slice none 0 0] := by
    apply Array.ext'
    simpa using isBuf0_ok hf
  obtain ⟨g', e1, e2, e3, e4⟩ := Core.newObjG (os0 := []) (ob := .buf 0 t []) (w' := w.alloc (.cells zr.cells t)) hc (fun k hk => heap_alloc_old w _ k hk) (by simp) rfl rfl rfl (by
      have := heap_alloc_new w (.cells zr.cells t)
      rw [hcells] at this
      simp only [ownsO]
      rw [hcells, this]
      rfl)
    (fun g' _ => by
      simp only [ObjR]
      refine ⟨_, _, by rw [← hcells]; exact heap_alloc_new w _, .inl rfl, ?_, fun _ => rfl, fun a n c h => by injection h with h; cases h⟩
      simp only [VR]
      exact ⟨none, 0, 0, rfl, row_nil _ _ _ _⟩)
  refine ⟨.pointer (some ⟨w.heap.size, 0, none⟩), g', w.alloc (.cells zr.cells t), ?_, ?_, by rw [e1]; exact hpre.trans (List.prefix_append _ _), ?_, e3⟩
  · simp [execOp, h, Instr.alloc, zeroValue, typeInfo, hi1, hi2, newVar, newRow]
  · simp only [VR]
    refine ⟨_, rfl, ?_⟩
    rw [e1, hs.core.heap.length]
    simp
  · exact ⟨hs.size, fun t' => VR.ext e2 _ _ (hs.slots t'), by rw [simx_put_heap]; exact e4⟩
end Go.Sh

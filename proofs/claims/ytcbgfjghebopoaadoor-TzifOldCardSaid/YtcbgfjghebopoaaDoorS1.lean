/- Functions whose results lie in memory. -/
import Derived.Test.YtcbgfjghebopoaaDoorSP
import Derived.RangeFuncRecord
import Derived.RangeFuncLeaves
namespace Go.Sh
open Go.RowKit
set_option linter.unusedSimpArgs false
set_option linter.unusedVariables false

def RV.var : RV → ResultVar
  | .tmp t => .tmp t
  | .cell t ty _ _ => .cell t ty
def RV.slots : List RV → List Nat
  | [] => []
  | .tmp t :: rs => t :: RV.slots rs
  | .cell .. :: rs => RV.slots rs
/-- Are the cells' types as they are told. -/
def rvOK (P : Program) : List RV → Bool
  | [] => true
  | .tmp _ :: rs => rvOK P rs
  | .cell _ ty n ag :: rs => (match P.underlying ty with | some d => isAggD d == ag | none => false) && ((P.info? ty).map (·.size) == some n) && rvOK P rs
def resF (tmps : Array Value) : ResultVar → Sem Value := fun
  | .tmp t => pure (tmps.getD t undef)
  | .cell a t => do loadVar t (← asAddr (tmps.getD a undef))
theorem resG_run {P : Program} {nt : Nat} {s : St} : ∀ {rs : List RV} {R : Type} {k : List AV → Option R} {r : R}, rvOK P rs = true → resG s rs k = some r → ∃ vs, k vs = some r ∧ ∀ (F : Nat → Prop) (g : Gh) (a : Act) (w : World), SimX F nt g s a w [] →
    ∃ us, ((rs.map RV.var).mapM (resF a.tmps)).run P w = .ok us w ∧ VRs g w vs us ∧ ownsL vs us = ownsL ((RV.slots rs).map s.get) ((RV.slots rs).map fun t => a.tmps.getD t undef)
  | [], R, k, r, _, h => ⟨[], h, fun F g a w hs => ⟨[], by simp, by simp [VRs], rfl⟩⟩
  | .tmp t :: rs, R, k, r, hok, h => by
    simp only [resG] at h
    obtain ⟨vs, h1, h2⟩ := resG_run (by simpa [rvOK] using hok) h
    refine ⟨s.get t :: vs, h1, fun F g a w hs => ?_⟩
    obtain ⟨us, h3, h4, h5⟩ := h2 F g a w hs
    refine ⟨a.tmps.getD t undef :: us, ?_, ?_, ?_⟩
    · simp only [List.map_cons, List.mapM_cons, RV.var, resF, Sem.run_bind, Sem.run_pure, Result.andThen]
      rw [h3]
    · simp only [VRs]
      exact ⟨_, _, rfl, hs.slots t, h4⟩
    · simp only [RV.slots, List.map_cons, ownsL, h5]
  | .cell t ty n ag :: rs, R, k, r, hok, h => by
    simp only [resG] at h
    simp only [rvOK, Bool.and_eq_true, beq_iff_eq] at hok
    obtain ⟨⟨hd, hz⟩, hok⟩ := hok
    split at hd
    case h_2 => cases hd
    rename_i d hu
    simp only [beq_iff_eq] at hd
    split at h
    · rename_i id off hv
      split at h
      · rename_i ot cs hob
        obtain ⟨v, h1, h2⟩ := asK_some h
        obtain ⟨vs, h3, h4⟩ := resG_run hok h1
        refine ⟨disown v :: vs, h3, fun F g a w hs => ?_⟩
        obtain ⟨us, h5, h6, h7⟩ := h4 F g a w hs
        have hp := hs.slots t
        rw [hv] at hp
        simp only [VR] at hp
        obtain ⟨b, hp, hb⟩ := hp
        have hobj := getObj_ok hs.core.heap id b _ hob hb
        simp only [ObjR] at hobj
        obtain ⟨arr, hw, hvs⟩ := hobj
        obtain ⟨v', h8, h9⟩ := loadVar_ok (b := b) (off := off) hu hd hz h2 ((hvs.drop off).take n) (fun j hj => by
          rw [List.length_take] at hj
          rw [List.getElem?_take, if_pos (by omega), List.getElem?_drop]
          simp [World.cell?, hw])
        refine ⟨v' :: us, ?_, ?_, ?_⟩
        · simp only [List.map_cons, List.mapM_cons, RV.var, resF, Sem.run_bind, hp, asAddr, Sem.run_pure, Result.andThen, h8]
          rw [h5]
        · simp only [VRs]
          exact ⟨_, _, rfl, VR.disown _ _ h9, h6⟩
        · simp only [RV.slots, ownsL, owns_disown, List.nil_append, h7]
      · cases h
    · cases h
theorem results_run {fn : Func} {P : Program} {w : World} {tmps : Array Value} {rs : List RV} {us : List Value} (h : fn.results = (rs.map RV.var).toArray) (hm : ((rs.map RV.var).mapM (resF tmps)).run P w = .ok us w) :
    (results fn tmps).run P w = .ok (if h : us.length = 1 then us[0] else .tuple us.toArray) w := by
  unfold results
  rw [h, List.mapM_toArray]
  rw [Sem.run_bind, Sem.run_map]
  erw [hm]
  simp only [Result.andThen, Sem.run_pure]
  simp
theorem one1_ok {g : Gh} {w : World} {vs : List AV} {us : List Value} (h : VRs g w vs us) : VR g w (one1 vs) (if h : us.length = 1 then us[0] else .tuple us.toArray) ∧ owns (one1 vs) (if h : us.length = 1 then us[0] else .tuple us.toArray) = ownsL vs us := by
  have hl := h.length
  match vs, us, h, hl with
  | [], [], h, _ => exact ⟨by simp only [one1]; simp [VR, VRs], by simp [one1, owns, ownsL]⟩
  | [v], [u], h, _ =>
    simp only [VRs] at h
    obtain ⟨_, _, he, h1, _⟩ := h
    simp only [List.cons.injEq] at he
    obtain ⟨rfl, rfl⟩ := he
    exact ⟨by simpa [one1] using h1, by simp [one1, ownsL]⟩
  | v :: v' :: vs, u :: u' :: us, h, _ =>
    refine ⟨?_, by simp [one1, owns]⟩
    simp only [one1]
    rw [dif_neg (by simp)]
    simp only [VR]
    exact ⟨_, rfl, h⟩
  | [], _ :: _, _, hl => simp at hl
  | [_], [], _, hl => simp at hl
  | [_], _ :: _ :: _, _, hl => simp at hl
  | _ :: _ :: _, [], _, hl => simp at hl
  | _ :: _ :: _, [_], _, hl => simp at hl
/-- Less may be framed. -/
theorem Core.weakF {F F' : Nat → Prop} {g : Gh} {H : List AObj} {os : List Rec} {w : World} (h : Core F' g H os w) (hF : ∀ b, F b → F' b) (hk : Keeps F w) : Core F g H os w :=
  ⟨h.heap, h.own, h.dist, fun b hb => h.notF b (hF b hb), h.objlen, h.lenlt, fun b hb => h.flt b (hF b hb), hk⟩
/-- A block that isn't cells, and isn't touched by what is known, turns. -/
theorem Core.turn {F : Nat → Prop} {g : Gh} {H : List AObj} {os : List Rec} {w : World} {l : Nat} {x : Obj} (h : Core F g H os w) (hl : F l) (hlt : l < w.heap.size) (hw : ∀ j, w.cell? ⟨l, j, none⟩ = none) (hx : ∀ j, (w.putObj l x).cell? ⟨l, j, none⟩ = none) (hty : tyOf (w.putObj l x) l = tyOf w l) (hk : Keeps F (w.putObj l x)) :
    Ext g w g (w.putObj l x) ∧ Core F g H os (w.putObj l x) := by
  have hoth : ∀ b, b ≠ l → (w.putObj l x).heap[b]? = w.heap[b]? := fun b hb => by simp [World.putObj, Array.getElem?_setIfInBounds_ne (Ne.symm hb)]
  have hn := h.notF l hl
  have ext : Ext g w g (w.putObj l x) := ⟨fun b j _ => by
    by_cases e : b = l
    · subst e; rw [hw, hx]
    · exact cell_of (hoth b e) j, fun b _ => by
    by_cases e : b = l
    · subst e; exact hty
    · exact tyOf_block (hoth b e), bsz_one hoth (by
      have h0 : bsize w l = 0 := by
        unfold bsize
        split
        · rename_i arr t f he
          have := hw 0
          simp only [World.cell?, he] at this
          simp at this
          simpa using this
        · rfl
      rw [h0]; exact Nat.zero_le _), fun _ => Nat.le_refl _, fun _ _ h => h⟩
  have hobj : ∀ b ∈ lives H g.obj, b ≠ l := fun b hb e => by subst e; have := List.count_pos_iff.2 hb; omega
  have hmv := ObjsR.move ext H g.obj h.heap (fun b hb => hoth b (hobj b hb))
  have hsz : (w.putObj l x).heap.size = w.heap.size := by simp [World.putObj]
  refine ⟨ext, hmv.1, fun x hx => ?_, fun b => ?_, fun b hF => ?_, h.objlen, fun b hb => by rw [hsz]; exact h.lenlt b hb, fun b hb => by rw [hsz]; exact h.flt b hb, hk⟩
  · rw [hmv.2] at hx
    obtain ⟨o1, o2, arr, t, o3, o4⟩ := h.own x hx
    have hne : x.1 ≠ l := fun e => by
      rcases hx with hx | hx
      · have := oc_mem hx; rw [e] at this; omega
      · have := oc_mem hx; rw [e] at this; omega
    exact ⟨o1, o2, arr, t, o3.of_heap (hoth _ hne), o4⟩
  · rw [hmv.2]; exact h.dist b
  · rw [hmv.2]; exact h.notF b hF
theorem simx_turn {F : Nat → Prop} {nt : Nat} {g : Gh} {s : St} {a : Act} {w : World} {l : Nat} {x : Obj} (h : SimX F nt g s a w []) (hl : F l) (hlt : l < w.heap.size) (hw : ∀ j, w.cell? ⟨l, j, none⟩ = none) (hx : ∀ j, (w.putObj l x).cell? ⟨l, j, none⟩ = none) (hty : tyOf (w.putObj l x) l = tyOf w l) (hk : Keeps F (w.putObj l x)) : SimX F nt g s a (w.putObj l x) [] :=
  let ⟨e, k⟩ := h.core.turn hl hlt hw hx hty hk; ⟨h.size, fun t => VR.ext e _ _ (h.slots t), k⟩
theorem SimX.weakF {F F' : Nat → Prop} {nt : Nat} {g : Gh} {s : St} {a : Act} {w : World} {os : List Rec} (h : SimX F' nt g s a w os) (hF : ∀ b, F b → F' b) (hk : Keeps F w) : SimX F nt g s a w os := ⟨h.size, h.slots, h.core.weakF hF hk⟩
/-- A function's end takes the blocks of its ranges over functions. -/
theorem leave_marks {F : Nat → Prop} {P : Program} {fn : Func} {nt : Nat} {g0 g' : Gh} {s' : St} {a' : Act} {w0 : World} {R : Ending → World → Prop} (hflt : ∀ b, F b → b < w0.heap.size) (hlen : ∀ b, 0 < g0.len b → b < w0.heap.size) (hgood : ∀ W : World, (∀ b, F b → W.heap[b]? = w0.heap[b]?) → Keeps F W)
    (hfin : ∀ W, SimX F nt g' s' a' W [] → Step F g0 w0 g' W → ∃ v, (results fn a'.tmps).run P W = .ok v W ∧ R (.returned v) W) : ∀ (ds : List Nat) (w' : World), ds.Pairwise (fun x y => y < x) → (∀ D ∈ ds, w0.heap.size ≤ D ∧ w'.heap[D]? = some (.deferred (some []))) →
      SimX (fun b => F b ∨ b ∈ ds) nt g' s' a' w' [] → Step F g0 w0 g' w' → LeavesInM Fence.wide 0 P fn a'.tmps R (ds.map fun D => ({ target := .collected D, args := #[] } : Deferred)) .returning w'
  | [], w', _, _, hs, hst => hfin w' (hs.weakF (fun b h => .inl h) (hgood w' fun b hb => (hst.frame b hb).1)) hst
  | D :: ds, w', hp, hD, hs, hst => by
    obtain ⟨hD1, hD2⟩ := hD D (by simp)
    obtain ⟨hp1, hp2⟩ := List.pairwise_cons.1 hp
    have hlt := (Array.getElem?_eq_some_iff.1 hD2).1
    have hoth : ∀ b, b ≠ D → (w'.putObj D (.deferred none)).heap[b]? = w'.heap[b]? := fun b hb => by simp [World.putObj, Array.getElem?_setIfInBounds_ne (Ne.symm hb)]
    have hsame : (w'.putObj D (.deferred none)).heap[D]? = some (.deferred none) := by simp [World.putObj, Array.getElem?_setIfInBounds_self_of_lt hlt]
    have hfr : ∀ b, F b → (w'.putObj D (.deferred none)).heap[b]? = w0.heap[b]? := fun b hb => by
      have := hflt b hb
      rw [hoth b (by omega)]; exact (hst.frame b hb).1
    have hk : Keeps (fun b => F b ∨ b ∈ D :: ds) (w'.putObj D (.deferred none)) := by
      obtain ⟨bs, k1, k2⟩ := hgood _ hfr
      exact ⟨bs, k1, fun b hb => ⟨.inl (k2 b hb).1, (k2 b hb).2⟩⟩
    have hs' := simx_turn hs (l := D) (x := .deferred none) (.inr (by simp)) hlt (fun j => by simp [World.cell?, hD2]) (fun j => by simp [World.cell?, hsame]) (by simp [tyOf, hsame, hD2]) hk
    have hst' : Step F g0 w0 g' (w'.putObj D (.deferred none)) := by
      refine ⟨fun b j hj => ?_, fun b hb => ?_, fun b => Nat.le_trans (hst.bsz b) (bsz_one hoth (by have h0 : bsize w' D = 0 := (by unfold bsize; rw [hD2]); rw [h0]; exact Nat.zero_le _) b), hst.len, fun b hb => ⟨hfr b hb, (hst.frame b hb).2⟩, by have := hst.size; simpa [World.putObj] using this, hst.os, hst.tape, hst.output⟩
      · have h1 := hlen b (by omega)
        rw [cell_of (hoth b (by omega)), hst.cell b j hj]
      · have h1 := hlen b hb
        rw [tyOf_block (hoth b (by omega)), hst.ty b hb]
    refine ⟨by simp, .inl ⟨D, _, rfl, run_takeDeferred hD2, ?_⟩⟩
    refine leave_marks hflt hlen hgood hfin ds _ hp2 (fun E hE => ⟨(hD E (by simp [hE])).1, ?_⟩) (SimX.weakF hs' (fun b h => h.imp id fun h => by simp [h]) ?_) hst'
    · have := hp1 E hE
      rw [hoth E (by omega)]; exact (hD E (by simp [hE])).2
    · obtain ⟨bs, k1, k2⟩ := hgood _ hfr
      exact ⟨bs, k1, fun b hb => ⟨.inl (k2 b hb).1, (k2 b hb).2⟩⟩
/-- A function does what its shadow does, if its code does. -/
theorem fsound_of {P : Program} {f : FuncId} {fn : Func} {cd : Code} {nb nt : Nat} {ex : Ex} {rs : List RV} {n : Option Nat} {sp : FSpec} (hf : P.funcs[f]? = some fn) (hn : (fn.name == "runtime.NumGoroutine") = false) (hb : fn.body = some cd) (hnt : fn.ntmps = nt) (hres : fn.results = (rs.map RV.var).toArray)
    (hnn : ∀ m, n = some m → m = nb) (hnd : (RV.slots rs).Nodup) (hok : rvOK P rs = true) (hx : Snd ⟨P, nb, nt⟩ ex cd)
    (hsp : ∀ (args : List AV) (H : List AObj) (R : Type) (k : AV → List AObj → Option R) (r : R), sp args H R k = some r → args.length ≤ nt ∧ H.length = nb ∧ ex ⟨argSlots 0 args, H⟩ R (fun e s => eres rs n e s k) = some r) : FSound P f sp := by
  refine ⟨enters_of hf hn hb, fun args H R k r hr => ?_⟩
  obtain ⟨hargs, hH, hrun⟩ := hsp args H R k r hr
  obtain ⟨e, s', h1, h2⟩ := hx _ R _ r hrun
  have body : ∀ (v : AV) (H' : List AObj), (∀ (F : Nat → Prop) (g' : Gh) (a' : Act) (w' : World), SimX F nt g' s' a' w' [] → (∀ B : List Nat, B.length = nb → B <+: g'.obj → ∃ v' g'', (results fn a'.tmps).run P w' = .ok v' w' ∧ VR g'' w' v v' ∧ B <+: g''.obj ∧ g''.len = g'.len ∧ Core F g'' H' (owns v v') w')) → (e = .normal ∨ e = .ret) → k v H' = some r →
      ∃ v H', k v H' = some r ∧ ∀ (F : Nat → Prop) (g : Gh) (vs : List Value) (w : World), VRs g w args vs → Core F g H (ownsL args vs) w →
        Calls P f vs.toArray w fun e w' => ∃ v' g', e = .returned v' ∧ VR g' w' v v' ∧ g.obj <+: g'.obj ∧ Core F g' H' (owns v v') w' ∧ Step F g w g' w' := by
    intro v H' hfin he hk
    refine ⟨v, H', hk, fun F g vs w hvs hcore => callsIn_wide.1 (callsIn_of_wp_marks (n := 0) hf hb trivial ?_)⟩
    have hlen := hvs.length
    have hsim : SimX F nt g ⟨argSlots 0 args, H⟩ { tmps := vs.toArray ++ Array.replicate (fn.ntmps - vs.toArray.size) undef, defers := [] } w [] := by
      refine ⟨by simp [hnt]; omega, fun t => ?_, ?_⟩
      · have hg := argSlots_get H args 0 t
        rw [Nat.zero_add] at hg
        rw [hg]
        by_cases ht : t < args.length
        · rw [List.getElem?_eq_getElem ht]
          obtain ⟨v', h5, h6⟩ := hvs.get t _ (List.getElem?_eq_getElem ht)
          have : (vs.toArray ++ Array.replicate (fn.ntmps - vs.toArray.size) undef).getD t undef = v' := by
            rw [Array.getD_eq_getD_getElem?, Array.getElem?_append_left (by simp; omega)]
            simp [h5]
          simp only [Option.getD_some]
          rw [this]; exact h6
        · rw [List.getElem?_eq_none (by omega)]
          simp only [Option.getD_none, VR]
      · have : (({ tmps := vs.toArray ++ Array.replicate (fn.ntmps - vs.toArray.size) undef, defers := [] } : Act)).tmps.toList = vs ++ List.replicate (fn.ntmps - vs.toArray.size) undef := by simp
        rw [this, slotOwns_args args vs H _ 0 hlen _ (fun j => argSlots_get H args 0 j)]
        exact hcore
    have hBlen : g.obj.length = nb := by rw [← hcore.heap.length]; exact hH
    refine wpIn_mono (h2 F g _ w g.obj hBlen (List.prefix_refl _) hsim none 0 (fun _ => rfl)) ?_
    rintro e' a' w' ⟨rfl, F', g', hF', hp', hs', hst, ds, hds1, hds2, hds3⟩
    obtain ⟨bs, hg1, hg2⟩ := hcore.good
    have hgood : ∀ W : World, (∀ b, F b → W.heap[b]? = w.heap[b]?) → Keeps F W := fun W hW => ⟨bs, hg1, fun b hb => ⟨(hg2 b hb).1, (hW b (hg2 b hb).1).trans (hg2 b hb).2⟩⟩
    simp only [List.append_nil] at hds1
    have hle := leave_marks (fn := fn) (P := P) (R := fun e w' => ∃ v' g', e = .returned v' ∧ VR g' w' v v' ∧ g.obj <+: g'.obj ∧ Core F g' H' (owns v v') w' ∧ Step F g w g' w') (fun b hb => hcore.flt b hb) (fun b hb => hcore.lenlt b hb) hgood (fun W hsW hstW => by
      obtain ⟨v', g'', h5, h6, h7, h8, h9⟩ := hfin F g' a' W hsW g.obj hBlen hp'
      exact ⟨v', h5, v', g'', rfl, h6, h7, h9, ⟨hstW.cell, hstW.ty, hstW.bsz, by rw [h8]; exact hstW.len, by rw [h8]; exact hstW.frame, hstW.size, hstW.os, hstW.tape, hstW.output⟩⟩) ds w' hds2 (fun D hD => ⟨(hds3 D hD).1, (hds3 D hD).2.2⟩)
      (hs'.weakF (fun b h => h.elim (hF' b) fun h => (hds3 b h).2.1) (by
        obtain ⟨bs, k1, k2⟩ := hgood w' fun b hb => (hst.frame b hb).1
        exact ⟨bs, k1, fun b hb => ⟨.inl (k2 b hb).1, (k2 b hb).2⟩⟩)) hst
    rw [← hds1] at hle
    rcases he with rfl | rfl
    · exact hle
    · exact hle
  have main : (e = .normal ∨ e = .ret) → eres rs n .normal s' k = some r → ∃ v H', k v H' = some r ∧ ∀ (F : Nat → Prop) (g : Gh) (vs : List Value) (w : World), VRs g w args vs → Core F g H (ownsL args vs) w →
        Calls P f vs.toArray w fun e w' => ∃ v' g', e = .returned v' ∧ VR g' w' v v' ∧ g.obj <+: g'.obj ∧ Core F g' H' (owns v v') w' ∧ Step F g w g' w' := by
    intro he hk
    simp only [eres] at hk
    obtain ⟨vs, hk2, hrn⟩ := resG_run (nt := nt) hok hk
    cases n with
    | none =>
      refine body (one1 vs) s'.heap (fun F g' a' w' hs B hB hp => ?_) he hk2
      obtain ⟨us, h3, h4, h5⟩ := hrn F g' a' w' hs
      obtain ⟨h6, h7⟩ := one1_ok h4
      obtain ⟨h8, h9⟩ := take_many a'.tmps (RV.slots rs) hnd s'
      exact ⟨_, g', results_run hres h3, h6, hp, rfl, (show Core F g' s'.heap (slotOwns s' 0 a'.tmps.toList) w' by simpa using hs.core).weaken (fun r hr => by rw [h7, h5] at hr; exact h9 r hr) (fun b => by rw [h7, h5]; exact h8 b)⟩
    | some m =>
      simp only at hk2
      have hm := hnn m rfl
      subst hm
      obtain ⟨ids, vs', hs, g1, g2, g3, g4, g5⟩ := gcV_some hk2
      refine body (one1 vs') hs (fun F g' a' w' hsx B hB hp => ?_) he g5
      obtain ⟨us, k3, k4, k5⟩ := hrn F g' a' w' hsx
      obtain ⟨r1, r2⟩ := VRs.ren (g := g') (g1 := partOf g' ids) (w := w') (fun _ => Nat.le_refl _) gpart_ok (noPtr_ok fun _ => Nat.le_refl _) _ _ us g3 k4
      obtain ⟨h6, h7⟩ := one1_ok r1
      obtain ⟨h8, h9⟩ := take_many a'.tmps (RV.slots rs) hnd s'
      refine ⟨_, partOf g' ids, results_run hres k3, h6, prefix_part hp (by rw [hB]; exact g2), rfl, ?_⟩
      exact ((show Core F g' s'.heap (slotOwns s' 0 a'.tmps.toList) w' by simpa using hsx.core).gc g1 g4).weaken (fun r hr => by rw [h7, r2, k5] at hr; exact h9 r hr) (fun b => by rw [h7, r2, k5]; exact h8 b)
  cases e with
  | normal => exact main (.inl rfl) h1
  | ret => exact main (.inr rfl) h1
  | exit id => exact absurd h1 (by simp [eres])
end Go.Sh

/- Texts of this session, joined and cut to what one statement needs, under short names. -/
import Derived.Test.YtiegmpnagcdgoaaGreatDoorL1
import Derived.RangeFuncRecord
import Derived.RangeFuncLeaves
import Derived.KernelRfl
import Derived.Shelf.SlGeneric
import Derived.Shelf.SlIterI.Nil
import Derived.Shelf.SortM.Plain
import Derived.Shelf.SortM.SortNone
import Derived.Ground.GgzProg
import Derived.Ground.SlgmProg
import Derived.Test.YtiegmpnagcdgoaaGreatDoorProg
import Derived.WalkKit
import Derived.Shelf.Small.Bits
import Derived.Shelf.Small.Wraps
import Derived.Shelf.Strconv.Atoi
import Derived.Shelf.Strconv.Itoa0
import Derived.Shelf.Strconv.Itoa1
import Derived.Shelf.LaysM
import Derived.Shelf.Strconv.Itoa2
import Derived.Shelf.Strconv.Itoa3
import Derived.Shelf.Strconv.AtoiErrFast
import Derived.Shelf.Strconv.ParseIntEmpty
import Derived.Shelf.Strconv.AtoiFail
import Derived.Shelf.Strconv.Clone
import Derived.Shelf.Strconv.SyntaxError
import Derived.Shelf.LaysC
import Derived.Shelf.Strconv.ToError
import Derived.Shelf.Strconv.AtoiErr
import Derived.Shelf.Strconv.ErrVar
import Derived.Shelf.Strconv.Lower
import Derived.Shelf.Strconv.ParseUint10
import Derived.Shelf.Strconv.ParseUint10Empty
import Derived.Shelf.Strconv.ParseUint10Any
import Derived.Shelf.Strconv.ParseInt10
import Derived.Shelf.Strconv.AtoiLong
import Derived.Shelf.Strconv.AtoiInnerAll
import Derived.Shelf.Strconv.RangeError
import Derived.Shelf.Strconv.ToErrorRange
import Derived.Shelf.Strconv.AtoiAll
import Derived.Shelf.Strconv.ErrVarAll
import Derived.Shelf.Strconv.ParseUintEmpty
import Derived.Shelf.Strconv.ParseUint10b64
import Derived.Shelf.Strconv.ParseUint10b32
import Derived.Shelf.Strconv.ParseUint10b16
import Derived.Shelf.Strconv.ParseUint10b8
import Derived.Shelf.Strconv.ParseUint10At
import Derived.Shelf.Strconv.ParseInt10At64
import Derived.Shelf.Strconv.ParseInt10At32
import Derived.Shelf.Strconv.ParseInt10At16
import Derived.Shelf.Strconv.ParseInt10At8
import Derived.Shelf.Strconv.ParseInt10All
import Derived.Shelf.Strings.Search1
import Derived.Shelf.Sort.Plain
import Derived.Shelf.Strings.Prefix
import Derived.Ground.Names2Prog
import Derived.Shelf.Slices.Clone
import Derived.Shelf.Slices.SearchI
import Derived.Shelf.Slices.In.SortNone
import Derived.Shelf.Bytes.SlIndexSmall
import Derived.Shelf.Bytes.SlIndexAt
import Derived.Shelf.Bytes.SlSearch0
import Derived.Shelf.Bytes.SlSearch1
import Derived.Shelf.Bytes.SlSearch2
import Derived.Shelf.Bytes.SlIndexWhole
import Derived.Shelf.Bytes.SlEqualAll
import Derived.Ground.SlbtProg
import Derived.Shelf.Bytes.SlCut
import Derived.Shelf.Bytes.Small
import Derived.Shelf.Bytes.IndexByte
namespace Go.Sh
open Go.RowKit
set_option linter.unusedSimpArgs false
set_option linter.unusedVariables false
variable {c : Cx} {o : Oper}
structure RSound (P : Program) (key : Nat) (sp : FSpec) : Prop where
 law : ∀ (az : List AV) (H : List AObj) (R : Type) (k : AV → List AObj → Option R) (r : R), sp az H R k = some r → ∃ v H', k v H' = some r ∧
  ∀ (F : Nat → Prop) (g : Gh) (us : List Value) (w : World) (l : Nat) (rec : Loop), VRs g w az (us ++ (aB key).slots.map fun t => rec.tmps.getD t undef) →
   Core F g H [] w →
   w.heap[l]? = some (.loop rec) → rec.state = .ready → rec.pending = none → rec.params.toList = (aB key).params → rec.assign = (aB key).assign → rec.body = (aB key).body → rec.tmps.size = (aB key).nt →
   us.length = (aB key).params.length → F l → Keeps (fun b => F b ∧ b ≠ l) w →
   ∀ (ro : Option Nat) (dn : Nat), RoundIn (fw ro) dn P l rec.fn ((rec.params.zip us.toArray).foldl (fun tmps x => tmps.setIfInBounds x.1 x.2) rec.tmps) rec.assign rec.body w
    fun e w' => ∃ v' g', e = .returned v' ∧ VR g' w' v v' ∧ g.obj <+: g'.obj ∧ Core F g' H' (owns v v') w' ∧ Step F g w g' w'
theorem Keeps.turn {F F0 : Nat → Prop} {w w' : World} {l : Nat} (h : Keeps (fun b => F0 b ∧ b ≠ l) w) (hF : ∀ b, F0 b → F b) (he : ∀ b, F0 b → b ≠ l → w'.heap[b]? = w.heap[b]?) : Keeps F w' := by
 obtain ⟨bs, h1, h2⟩ := h
 exact ⟨bs, h1, fun b hb => ⟨hF b (h2 b hb).1.1, (he b (h2 b hb).1.1 (h2 b hb).1.2).trans (h2 b hb).2⟩⟩
theorem D5 {w : World} {l : Nat} {r : Loop} (h : w.heap[l]? = some (.loop r)) (j : Nat) : w.cell? ⟨l, j, none⟩ = none := by simp [World.cell?, h]
theorem Q3 {w w' : World} {l : Nat} {r r' : Loop} (h : w.heap[l]? = some (.loop r)) (h' : w'.heap[l]? = some (.loop r')) : Fg w' l = Fg w l := by simp [Fg, h, h']
theorem Gn {w : World} {l : Nat} {r : Loop} (x : Loop) (h : w.heap[l]? = some (.loop r)) : (w.putObj l (.loop x)).heap[l]? = some (.loop x) := by simp [World.putObj, Array.getElem?_setIfInBounds_self_of_lt (Array.getElem?_eq_some_iff.1 h).1]
theorem Sc (H : List AObj) : ∀ (ts : List Nat) (vs : List AV) (t : Nat), ts.Nodup → ts.length = vs.length → (∀ (i : Nat) (v : AV), ts[i]? = some t → vs[i]? = some v → (⟨ts.zip vs, H⟩ : St).get t = v) ∧ (t ∉ ts → (⟨ts.zip vs, H⟩ : St).get t = .undef)
 | [], vs, t, _, _ => ⟨fun i v h => by simp at h, fun _ => rfl⟩
 | u :: ts, [], t, _, h => by simp at h
 | u :: ts, v :: vs, t, hn, hl => by
  obtain ⟨h1, h2⟩ := List.nodup_cons.1 hn
  obtain ⟨h3, h4⟩ := Sc H ts vs t h2 (by simpa using hl)
  refine ⟨fun i x hi hx => ?_, fun ht => ?_⟩
  ·rw [List.zip_cons_cons, iO]
   cases i with
   | zero =>
    simp only [List.getElem?_cons_zero, Option.some.injEq] at hi hx
    rw [if_pos hi, hx]
   | succ i =>
    simp only [List.getElem?_cons_succ] at hi hx
    rw [if_neg (fun (e : u = t) => h1 (e ▸ List.mem_of_getElem? hi)), h3 i x hi hx]
  ·simp only [List.mem_cons, not_or] at ht
   rw [List.zip_cons_cons, iO, if_neg (fun e => ht.1 e.symm), h4 ht.2]
theorem Sd : ∀ (ps : List Nat) (us : List Value) (a : Array Value) (t : Nat), ps.Nodup → ps.length = us.length → (∀ p ∈ ps, p < a.size) →
 ((ps.zip us).foldl (fun (tmps : Array Value) (x : Nat × Value) => tmps.setIfInBounds x.1 x.2) a).size = a.size ∧
 (∀ (i : Nat) (u : Value), ps[i]? = some t → us[i]? = some u → ((ps.zip us).foldl (fun (tmps : Array Value) (x : Nat × Value) => tmps.setIfInBounds x.1 x.2) a).getD t undef = u) ∧
 (t ∉ ps → ((ps.zip us).foldl (fun (tmps : Array Value) (x : Nat × Value) => tmps.setIfInBounds x.1 x.2) a).getD t undef = a.getD t undef)
 | [], us, a, t, _, _, _ => ⟨rfl, fun i u h => by simp at h, fun _ => rfl⟩
 | p :: ps, [], a, t, _, h, _ => by simp at h
 | p :: ps, u :: us, a, t, hn, hl, hlt => by
  obtain ⟨h1, h2⟩ := List.nodup_cons.1 hn
  obtain ⟨h3, h4, h5⟩ := Sd ps us (a.setIfInBounds p u) t h2 (by simpa using hl) (fun q hq => by simpa using hlt q (by simp [hq]))
  refine ⟨by simpa using h3, fun i x hi hx => ?_, fun ht => ?_⟩
  ·rw [List.zip_cons_cons, List.foldl_cons]
   cases i with
   | zero =>
    simp only [List.getElem?_cons_zero, Option.some.injEq] at hi hx
    subst hi; subst hx
    rw [h5 h1, Array.getD_eq_getD_getElem?, Array.getElem?_setIfInBounds_self_of_lt (hlt p (by simp))]
    rfl
   | succ i =>
    simp only [List.getElem?_cons_succ] at hi hx
    exact h4 i x hi hx
  ·simp only [List.mem_cons, not_or] at ht
   rw [List.zip_cons_cons, List.foldl_cons, h5 ht.2, Array.getD_eq_getD_getElem?, Array.getElem?_setIfInBounds_ne (fun e => ht.1 e.symm), ← Array.getD_eq_getD_getElem?]
theorem VZ {P : Program} {key nb : Nat} {ea eb : Ex} {n : Option Nat} {sp : FSpec} (hn : ((aB key).params ++ (aB key).slots).Nodup) (hlt : ∀ t ∈ (aB key).params, t < (aB key).nt)
 (ha : Snd ⟨P, nb, (aB key).nt⟩ ea (aB key).assign) (hb : Snd ⟨P, nb, (aB key).nt⟩ eb (aB key).body) (hra : rfn (aB key).assign = false) (hrb : rfn (aB key).body = false) (hnn : ∀ m, n = some m → m = nb)
 (hsp : ∀ (az : List AV) (H : List AObj) (R : Type) (k : AV → List AObj → Option R) (r : R), sp az H R k = some r → az.length = ((aB key).params ++ (aB key).slots).length ∧ H.length = nb ∧
  Vz ea eb ⟨((aB key).params ++ (aB key).slots).zip (disownL az), H⟩ R (fun e s => match e with | .normal => Ry [] n .normal s fun _ h => k (.bool true) h | _ => none) = some r) : RSound P key sp := by
 refine ⟨fun az H R k r hr => ?_⟩
 obtain ⟨hlen, hH, hrun⟩ := hsp az H R k r hr
 unfold Vz at hrun
 obtain ⟨e1, s1, h1, h2⟩ := ha _ R _ r hrun
 cases e1 with
 | exit i => simp at h1
 | ret => simp at h1
 | normal =>
 obtain ⟨e2, s2, h3, h4⟩ := hb _ R _ r h1
 cases e2 with
 | exit i => simp at h3
 | ret => simp at h3
 | normal =>
 simp only [Ry, TE] at h3
 obtain ⟨H', hk, hgc⟩ : ∃ H', k (.bool true) H' = some r ∧ ∀ (F : Nat → Prop) (g : Gh) (w : World) (B : List Nat), B.length = nb → B <+: g.obj → Core F g s2.heap [] w → ∃ g', B <+: g'.obj ∧ g'.len = g.len ∧ Core F g' H' [] w := by
  cases n with
  | none => exact ⟨s2.heap, h3, fun F g w B _ hp hc => ⟨g, hp, rfl, hc⟩⟩
  | some m =>
   have hm := hnn m rfl
   subst hm
   obtain ⟨ids, vs', hs, g1, g2, g3, g4, g5⟩ := Oj h3
   exact ⟨hs, g5, fun F g w B hB hp hc => ⟨partOf g ids, IK hp (by rw [hB]; exact g2), rfl, hc.gc g1 g4⟩⟩
 refine ⟨.bool true, H', hk, fun F g us w l rec hvs hcore hw hst hpd hps has hbd hnt hul hFl hkp ro dn => ?_⟩
 rw [has, hbd]
 have hnp := (List.nodup_append.1 hn).1
 have hf := Sd (aB key).params us rec.tmps
 have harr : (rec.params.zip us.toArray).foldl (fun (tmps : Array Value) (x : Nat × Value) => tmps.setIfInBounds x.1 x.2) rec.tmps = ((aB key).params.zip us).foldl (fun (tmps : Array Value) (x : Nat × Value) => tmps.setIfInBounds x.1 x.2) rec.tmps := by
  rw [← Array.foldl_toList, Array.toList_zip, hps]
 rw [harr]
 have hlt' : ∀ p ∈ (aB key).params, p < rec.tmps.size := fun p hp => by rw [hnt]; exact hlt p hp
 have hdl : ((aB key).params ++ (aB key).slots).length = (disownL az).length := by rw [sN, hlen]
 have hz := Sc H ((aB key).params ++ (aB key).slots) (disownL az)
 have hds := VRs.disown az _ hvs
 have hfree : ∀ t v, owns ((⟨((aB key).params ++ (aB key).slots).zip (disownL az), H⟩ : St).get t) v = [] := fun t v => by
  by_cases ht : t ∈ (aB key).params ++ (aB key).slots
  ·obtain ⟨i, hi⟩ := List.getElem?_of_mem ht
   have hil := (List.getElem?_eq_some_iff.1 hi).1
   have hx := List.getElem?_eq_getElem (l := disownL az) (i := i) (by omega)
   rw [(hz t hn hdl).1 i _ hi hx]
   have : ∀ (l : List AV) (i : Nat) (h : i < (disownL l).length), ∃ x, (disownL l)[i] = disown x := by
    intro l
    induction l with
    | nil => intro i h; simp [disownL] at h
    | cons x l ih =>
     intro i h
     cases i with
     | zero => exact ⟨x, rfl⟩
     | succ i => simpa [disownL] using ih i (by simpa [disownL] using h)
   obtain ⟨x, hx⟩ := this az i (by omega)
   rw [hx, ma]
  ·rw [(hz t hn hdl).2 ht, BZ]
 have hsl0 : ∀ (vs : List Value) (i : Nat), af (⟨((aB key).params ++ (aB key).slots).zip (disownL az), H⟩ : St) i vs = [] := by
  intro vs
  induction vs with
  | nil => intro i; rfl
  | cons v vs ih => intro i; simp only [af, hfree, ih, List.append_nil]
 have hcore0 : Core F g H [] w := hcore
 have hsim : SimX F (aB key).nt g ⟨((aB key).params ++ (aB key).slots).zip (disownL az), H⟩ { tmps := ((aB key).params.zip us).foldl (fun (tmps : Array Value) (x : Nat × Value) => tmps.setIfInBounds x.1 x.2) rec.tmps, defers := [] } w [] := by
  refine ⟨by rw [(hf 0 hnp hul.symm hlt').1, hnt], fun t => ?_, by rw [List.nil_append, hsl0]; exact hcore0⟩
  by_cases ht : t ∈ (aB key).params ++ (aB key).slots
  ·obtain ⟨i, hi⟩ := List.getElem?_of_mem ht
   have hil := (List.getElem?_eq_some_iff.1 hi).1
   have hx := List.getElem?_eq_getElem (l := disownL az) (i := i) (by omega)
   rw [(hz t hn hdl).1 i _ hi hx]
   obtain ⟨v, hv1, hv2⟩ := hds.get i _ hx
   have : ({ tmps := ((aB key).params.zip us).foldl (fun (tmps : Array Value) (x : Nat × Value) => tmps.setIfInBounds x.1 x.2) rec.tmps, defers := [] } : Act).tmps.getD t undef = v := by
    show (((aB key).params.zip us).foldl (fun (tmps : Array Value) (x : Nat × Value) => tmps.setIfInBounds x.1 x.2) rec.tmps).getD t undef = v
    by_cases hip : i < (aB key).params.length
    ·rw [List.getElem?_append_left hip] at hi
     rw [List.getElem?_append_left (by omega)] at hv1
     exact (hf t hnp hul.symm hlt').2.1 i v hi hv1
    ·rw [List.getElem?_append_right (by omega)] at hi hv1
     have htn : t ∉ (aB key).params := fun hp => (List.nodup_append.1 hn).2.2 t hp t (List.mem_of_getElem? hi) rfl
     rw [(hf t hnp hul.symm hlt').2.2 htn]
     rw [hul, List.getElem?_map, hi] at hv1
     simpa using hv1
   rw [this]
   exact hv2
  ·rw [(hz t hn hdl).2 ht]
   simp only [VR]
 have hB : g.obj.length = nb := by rw [← hcore0.heap.length]; exact hH
 refine roundIn_of_wpIn trivial ?_
 show (aB key).assign.wpIn (fw (some l)) dn P _ _ w
 refine wpIn_mono (h2 F g _ w g.obj hB (List.prefix_refl _) hsim (some l) dn (fun h => by rw [hra] at h; cases h)) ?_
 rintro e a1 w1 ⟨rfl, F1, g1, hF1, hp1, hs1, hst1, _⟩
 have hw1 : w1.heap[l]? = some (.loop rec) := by rw [(hst1.frame l hFl).1]; exact hw
 have hlt1 := (Array.getElem?_eq_some_iff.1 hw1).1
 have oth : ∀ (w : World) (x : Obj) b, b ≠ l → (w.putObj l x).heap[b]? = w.heap[b]? := fun w x b hb => by simp [World.putObj, Array.getElem?_setIfInBounds_ne (Ne.symm hb)]
 refine ⟨_, run_beginRound hw1 hst, ?_⟩
 have hk1 : Keeps F1 (w1.putObj l (.loop { rec with state := .busy })) := hkp.turn hF1 fun b hb hne => by rw [oth _ _ _ hne]; exact (hst1.frame b hb).1
 have hs1' := P8 hs1 (hF1 l hFl) hlt1 (D5 hw1) (D5 (Gn _ hw1)) (Q3 hw1 (Gn _ hw1)) hk1
 have ext1 := (hs1.core.turn (hF1 l hFl) hlt1 (D5 hw1) (D5 (Gn _ hw1)) (Q3 hw1 (Gn _ hw1)) hk1).1
 show (aB key).body.wpIn (fw (some l)) dn P _ _ _
 refine wpIn_mono (h4 F1 g1 _ _ g.obj hB hp1 hs1' (some l) dn (fun h => by rw [hrb] at h; cases h)) ?_
 rintro e a2 w2 ⟨rfl, F2, g2, hF2, hp2, hs2, hst2, _⟩
 have hw2 : w2.heap[l]? = some (.loop { rec with state := .busy }) := by
  rw [(hst2.frame l (hF1 l hFl)).1]
  simp [World.putObj, Array.getElem?_setIfInBounds_self_of_lt hlt1]
 have hlt2 := (Array.getElem?_eq_some_iff.1 hw2).1
 have hrec : ({ { rec with state := .busy } with state := if (none : Option Code).isNone then .ready else .done, pending := none } : Loop) = rec := by
  cases rec
  simp only at hst hpd
  subst hst; subst hpd
  rfl
 refine ⟨_, _, run_endRound none hw2, ?_⟩
 have hk2 : Keeps F2 (w2.putObj l (.loop { { rec with state := .busy } with state := if (none : Option Code).isNone then .ready else .done, pending := none })) := hkp.turn (fun b hb => hF2 b (hF1 b hb)) fun b hb hne => by
  rw [oth _ _ _ hne, (hst2.frame b (hF1 b hb)).1, oth _ _ _ hne, (hst1.frame b hb).1]
 obtain ⟨ext2, hc2⟩ := hs2.core.turn (hF2 l (hF1 l hFl)) hlt2 (D5 hw2) (D5 (Gn _ hw2)) (Q3 hw2 (Gn _ hw2)) hk2
 obtain ⟨g3, hp3, hl3, hc3⟩ := hgc F2 g2 _ g.obj hB hp2 (hc2.weaken (fun r hr => by simp at hr) (fun b => by simp [nO]))
 have hstep : Step F g w g2 (w2.putObj l (.loop { { rec with state := .busy } with state := if (none : Option Code).isNone then .ready else .done, pending := none })) := by
  have hl12 : ∀ b, g.len b ≤ g1.len b := hst1.len
  refine ⟨fun b j hj => ?_, fun b hb => ?_, fun b => Nat.le_trans (hst1.bsz b) (Nat.le_trans (ext1.bsz b) (Nat.le_trans (hst2.bsz b) (ext2.bsz b))), fun b => Nat.le_trans (hst1.len b) (hst2.len b), fun b hb => ⟨?_, ?_⟩, ?_, ?_, ?_, ?_⟩
  ·have j1 := Nat.lt_of_lt_of_le hj (hst1.len b)
   have j2 := Nat.lt_of_lt_of_le j1 (hst2.len b)
   rw [ext2.cell b j j2, hst2.cell b j j1, ext1.cell b j j1, hst1.cell b j hj]
  ·have j1 := Nat.lt_of_lt_of_le hb (hst1.len b)
   have j2 := Nat.lt_of_lt_of_le j1 (hst2.len b)
   rw [ext2.ty b j2, hst2.ty b j1, ext1.ty b j1, hst1.ty b hb]
  ·by_cases e : b = l
   ·subst e
    rw [hrec, hw]
    simp [World.putObj, Array.getElem?_setIfInBounds_self_of_lt hlt2]
   ·rw [oth _ _ _ e, (hst2.frame b (hF1 b hb)).1, oth _ _ _ e, (hst1.frame b hb).1]
  ·rw [(hst2.frame b (hF1 b hb)).2, (hst1.frame b hb).2]
  ·have h5 := hst1.size
   have h6 := hst2.size
   simp only [World.putObj, Array.size_setIfInBounds] at h6 ⊢
   omega
  ·exact hst2.os.trans hst1.os
  ·exact hst2.tape.trans hst1.tape
  ·exact hst2.output.trans hst1.output
 refine ⟨.bool true, g3, rfl, by simp only [VR], hp3, ⟨hc3.heap, hc3.own, hc3.dist, fun b hb => hc3.notF b (hF2 b (hF1 b hb)), hc3.objlen, hc3.lenlt, fun b hb => hc3.flt b (hF2 b (hF1 b hb)), ?_⟩, hstep.Xo hl3⟩
 obtain ⟨bs, k1, k2⟩ := hkp
 exact ⟨bs, k1, fun b hb => ⟨(k2 b hb).1.1, by
  rw [oth _ _ _ (k2 b hb).1.2, (hst2.frame b (hF1 b (k2 b hb).1.1)).1, oth _ _ _ (k2 b hb).1.2, (hst1.frame b (k2 b hb).1.1).1]; exact (k2 b hb).2⟩⟩
theorem V3 {P : Program} {o : Oper} {a : Act} {w w' : World} {l : Nat} {f : FuncId} {tmps : Array Value} {az bd : Code} {ro : Option Nat} {n : Nat} {next : Act → World → Prop} {Q : Exit → Act → World → Prop} (h : (execOp a.eval o).run P w = .ok (.round l f tmps az bd) w')
 (hn : RoundIn (fw ro) (n - 1) P l f tmps az bd w' fun e w'' => ∃ v, e = .returned v ∧ next (a.put o.dst v) w'') : o.wpIn (fw ro) n P a w next Q := by
 refine ⟨fun _ _ => trivial, ?_⟩
 rw [Oper.semAt_eq _ _ _ (Jp h (by simp)), h, Oper.uponIn_round]
 exact ⟨fun hd => (by cases hd), hn.mono (by rintro e w'' ⟨v, rfl, h⟩; exact h)⟩
theorem XJ {sp : FSpec} {key : Nat} {fv : AX} {fp : Operand} {xs : List AX} {ps : List Operand} {cl : Call} (h : o.op = .call cl) (hc : cl.callee = .value fp) (hargs : cl.args = ps.toArray) (hs : RSound c.P key sp) (hlen : ps.length = (aB key).params.length) (hfx : bA fv fp = true) (hx : wU xs ps = true) : bK c (.callY sp key fv xs) o := by
 intro s R k r hr
 simp only [AOp.run] at hr
 split at hr
 case h_2 => exact absurd hr (by simp)
 rename_i id hfv
 split at hr
 case h_2 => exact absurd hr (by simp)
 rename_i key' caps hob
 obtain ⟨hff, hr2⟩ | ⟨_, hr2⟩ := ae hr
 case inr => exact absurd hr2 (by simp)
 clear hr
 simp only [Bool.and_eq_true, Bool.not_eq_true', List.contains_eq_mem, decide_eq_false_iff_not] at hff
 obtain ⟨hff, hid⟩ := hff
 have hff := Nat.eq_of_beq_eq_true hff
 subst hff
 have hsh := Od xs s
 rw [← hsh] at hid hob
 have hn := II 0 (evs s xs ++ caps) (sts s xs).heap
 unfold JW at hr2
 generalize Ea 0 (evs s xs ++ caps) (sts s xs).heap = ids at hr2 hn hid
 obtain ⟨args', h1, h2⟩ := Option.bind_eq_some_iff.1 hr2
 obtain ⟨hs', h3, h4⟩ := Option.bind_eq_some_iff.1 h2
 obtain ⟨v0, H0, h5, h6⟩ := hs.law _ _ _ _ _ h4
 obtain ⟨v', h7, h8⟩ := Option.bind_eq_some_iff.1 h5
 obtain ⟨H', h9, h10⟩ := Option.bind_eq_some_iff.1 h8
 refine ⟨v', _, h10, fun F g a w B hB hpre hsim ro dn next Q hnext => ?_⟩
 have hl : ∀ i ∈ ids, i < (sts s xs).heap.length := Ju h3
 obtain ⟨hv1, hsim1⟩ := AX.oks hsim hx
 have hfval := aj hsim hfx
 rw [hfv] at hfval
 simp only [VR] at hfval
 obtain ⟨b, hfe, hbi⟩ := hfval
 have hobj := aY hsim1.core.heap id b _ hob hbi
 simp only [ObjR] at hobj
 obtain ⟨rec, hw, k1, k2, k3, k4, k5, k6, k7⟩ := hobj
 have hvs := hv1.append k7
 have hcW : Core F g (sts s xs).heap ([] ++ af (sts s xs) 0 a.tmps.toList) w := hsim1.core.weaken (fun r hr => List.mem_append_right _ (by simpa using hr)) (fun b => by simp only [ax, nO]; omega)
 have hpart : ∀ (i j b : Nat), mP ids i = some j → g.obj[i]? = some b → (partOf g ids).obj[j]? = some b := fun i j b hij hb => by
  rw [q8 (Be hij), List.getD_eq_getElem?_getD, hb]; rfl
 obtain ⟨h11, _⟩ := VRs.ren (g := g) (g1 := partOf g ids) (w := w) (fun _ => Nat.le_refl _) hpart (oO fun _ => Nat.le_refl _) _ _ _ h1 hvs
 have hsplit := hcW.split hn hl h3
 have hidlt := (List.getElem?_eq_some_iff.1 hob).1
 have hheld : Held F g (sts s xs).heap ids (af (sts s xs) 0 a.tmps.toList) w b := .inr (.inr (List.mem_flatMap.2 ⟨id, by simp [others, hidlt, hid], List.mem_append_right _ (Eg hob hbi rfl)⟩))
 have hbm : b ∈ lives (sts s xs).heap g.obj := mf hob hbi rfl
 have hkp : Keeps (fun x => Held F g (sts s xs).heap ids (af (sts s xs) 0 a.tmps.toList) w x ∧ x ≠ b) w := by
  obtain ⟨bs, q1, q2⟩ := hcW.good
  refine ⟨bs, q1, fun x hx => ⟨⟨.inl (q2 x hx).1, fun e => ?_⟩, (q2 x hx).2⟩⟩
  subst e
  have := hcW.notF x (q2 x hx).1
  have := List.count_pos_iff.2 hbm
  omega
 have hul : (ps.map a.eval).length = (aB key').params.length := by rw [List.length_map]; exact hlen
 have hrun : (execOp a.eval o).run c.P w = .ok (.round b rec.fn ((rec.params.zip (ps.map a.eval).toArray).foldl (fun tmps x => tmps.setIfInBounds x.1 x.2) rec.tmps) rec.assign rec.body) w := by
  have hy := run_yield (P := c.P) (args := (ps.map a.eval).toArray) hw (by rw [List.size_toArray, hul, ← k3, Array.length_toList])
  simp only [execOp, h, resolve, hc, hargs, hfe, Deferred.ofValue, Sem.run_bind, Sem.run_pure, Result.andThen, invoke]
  have e1 : (#[] ++ Array.map a.eval ps.toArray : Array Value) = (ps.map a.eval).toArray := by simp
  rw [e1]
  exact hy
 refine V3 hrun ((h6 _ (partOf g ids) _ w b rec h11 hsplit hw k1 k2 k3 k4 k5 k6 hul hheld hkp ro (dn - 1)).mono ?_)
 rintro e w1 ⟨v1, g1, rfl, q1, q2, q3, q4⟩
 obtain ⟨j1, j2, j3, j4⟩ := hcW.join hn hl q3 q4 q2 h9
 obtain ⟨j5, j6⟩ := j4 _ _ v1 h7 q1
 exact ⟨v1, rfl, hnext v1 _ w1 j5 (hpre.trans ⟨_, rfl⟩) ⟨hsim1.size, fun t => VR.ext j3 _ _ (hsim1.slots t), by rw [bC, j6]; exact j1⟩ j2⟩
theorem Core.aaS {F : Nat → Prop} {g : Gh} {H : List AObj} {os : List Rec} {w : World} {D : Nat} (h : Core F g H os w) (hD : oc D os + oc D (aU w H g.obj) + (lives H g.obj).count D = 0) (hlt : D < w.heap.size) : Core (fun b => F b ∨ b = D) g H os w := by
 obtain ⟨bs, h1, h2⟩ := h.good
 refine ⟨h.heap, h.own, h.dist, fun b hb => ?_, h.objlen, h.lenlt, fun b hb => ?_, bs, h1, fun b hb => ⟨.inl (h2 b hb).1, (h2 b hb).2⟩⟩
 ·rcases hb with hb | rfl
  ·exact h.notF b hb
  ·exact hD
 ·rcases hb with hb | rfl
  ·exact h.flt b hb
  ·exact hlt
theorem Core.fresh {F : Nat → Prop} {g : Gh} {H : List AObj} {os : List Rec} {w : World} {b : Nat} (h : Core F g H os w) (hb : w.heap.size ≤ b) : oc b os + oc b (aU w H g.obj) + (lives H g.obj).count b = 0 := by
 have a1 : oc b os = 0 := by
  rcases Nat.eq_zero_or_pos (oc b os) with e | e
  ·exact e
  ·obtain ⟨r, hr, hr2⟩ := List.countP_pos_iff.1 e
   have := (h.own r (.inl hr)).lt
   simp at hr2
   omega
 have a2 : oc b (aU w H g.obj) = 0 := by
  rcases Nat.eq_zero_or_pos (oc b (aU w H g.obj)) with e | e
  ·exact e
  ·obtain ⟨r, hr, hr2⟩ := List.countP_pos_iff.1 e
   have := (h.own r (.inr hr)).lt
   simp at hr2
   omega
 have a3 : (lives H g.obj).count b = 0 := List.count_eq_zero.2 fun hm => by have := h.heap.lt b hm; omega
 omega
theorem UZ {F : Nat → Prop} {nt : Nat} {g : Gh} {s : St} {a : Act} {w : World} {os : List Rec} (h : SimX F nt g s a w os) : ∀ (ts : List Nat), VRs g w (disownL (ts.map s.get)) (ts.map fun t => a.tmps.getD t undef)
 | [] => by simp [disownL, VRs]
 | t :: ts => by
  simp only [List.map_cons, disownL, VRs]
  exact ⟨_, _, rfl, VR.disown _ _ (h.slots t), UZ h ts⟩
theorem V4 {key : Nat} {ts : List Nat} {sp : FSpec} {f : FuncId} {x : AX} {p : Operand} {ps : Array Tmp} {assign body : Code} (hs : FSound c.P f sp) (hx : bA x p = true) (hfree : x.free = true) (hm : aB key = ⟨ps.toList, assign, body, ts, c.nt⟩) : Snd c (Mk key ts sp f x) (.rangeFunc p ps assign body) := by
 intro s R k r h
 unfold Mk at h
 split at h
 case h_2 => cases h
 rename_i f' caps hfv
 obtain ⟨hff, hr2⟩ | ⟨_, hr2⟩ := ae h
 case inr => cases hr2
 clear h
 have hff := Nat.eq_of_beq_eq_true hff
 subst hff
 obtain ⟨v, s', h1, h2⟩ := IJ hs hr2
 split at h1
 case h_2 => cases h1
 rename_i key' caps' hob
 refine ⟨.normal, _, h1, fun F g a w B hB hp hsim ro dn hro => ?_⟩
 obtain rfl := hro rfl
 refine wpIn_rangeFunc fun fn _ => ?_
 have hfval := aj hsim hx
 rw [hfv] at hfval
 simp only [VR] at hfval
 obtain ⟨us, ys, hfe, hus, hys⟩ := hfval
 simp only [VRs] at hus
 have hus0 : us = #[] := by cases us; simpa using hus
 subst hus0
 generalize hrec : ({ state := .ready, pending := none, fn, tmps := a.tmps, params := ps, assign, body, defers := w.heap.size } : Loop) = rec
 generalize hW : (w.alloc (.deferred (some []))).alloc (.loop rec) = W
 have hWl : W.heap[w.heap.size + 1]? = some (.loop rec) := by
  rw [← hW]
  have := World.alloc_heap_new (w.alloc (.deferred (some []))) (.loop rec)
  rw [World.size_alloc] at this
  exact this
 have hWD : W.heap[w.heap.size]? = some (.deferred (some [])) := by
  rw [← hW, heap_alloc_old _ _ (h := (by rw [World.size_alloc]; omega))]
  exact heap_alloc_new w _
 have hWo : ∀ b, b < w.heap.size → W.heap[b]? = w.heap[b]? := fun b hb => by
  rw [← hW, heap_alloc_old _ _ (h := (by rw [World.size_alloc]; omega)), heap_alloc_old _ _ (h := hb)]
 have hWs : W.heap.size = w.heap.size + 2 := by rw [← hW, World.size_alloc, World.size_alloc]
 have hbel : Below w.heap.size w W := ⟨by rw [← hW]; rfl, by rw [← hW]; rfl, by rw [← hW]; rfl, by omega, fun b hb => hWo b hb⟩
 obtain ⟨e1, e2, e3⟩ := hsim.core.below hbel
 have hlen := hsim.core.heap.length
 have ext1 : Ext g w ⟨g.obj ++ [w.heap.size + 1], g.len⟩ W := ⟨e1.cell, e1.ty, e1.bsz, e1.len, fun i b hi => by
  simp only
  rw [List.getElem?_append_left (List.getElem?_eq_some_iff.1 hi).1]; exact hi⟩
 have hobj := (ObjsR.move e1 s.heap g.obj hsim.core.heap (fun b hb => hWo b (hsim.core.heap.lt b hb))).2
 have hfr : ∀ b, w.heap.size ≤ b → oc b ([] ++ af s 0 a.tmps.toList) + oc b (aU W s.heap g.obj) + (lives s.heap g.obj).count b = 0 := fun b hb => by
  rw [hobj]; exact hsim.core.fresh hb
 have hl0 : ∀ b, w.heap.size ≤ b → g.len b = 0 := fun b hb => by
  rcases Nat.eq_zero_or_pos (g.len b) with e | e
  ·exact e
  ·have := hsim.core.lenlt b e; omega
 have hcap := UZ hsim ts
 have hrt : rec.tmps = a.tmps := by rw [← hrec]
 have hR : ObjR ⟨g.obj ++ [w.heap.size + 1], g.len⟩ W (w.heap.size + 1) (.loop key (disownL (ts.map s.get))) := by
  simp only [ObjR, hm]
  refine ⟨rec, hWl, by rw [← hrec], by rw [← hrec], by rw [← hrec], by rw [← hrec], by rw [← hrec], by rw [hrt]; exact hsim.size, ?_⟩
  rw [hrt]
  exact VRs.ext ext1 _ _ hcap
 have hc1 : Core F ⟨g.obj ++ [w.heap.size + 1], g.len⟩ (s.heap ++ [.loop key (disownL (ts.map s.get))]) ([] ++ af s 0 a.tmps.toList) W :=
  e3.XB (hfr _ (by omega)) (fun hF => by have := hsim.core.flt _ hF; omega) (hl0 _ (by omega)) rfl hR
 have hc2 := hc1.aaS (D := w.heap.size) (by
  have h5 := hfr w.heap.size (Nat.le_refl _)
  rw [wL (g := g) hlen, jb hlen]
  simp only [jo, List.append_nil, List.count_append, AObj.dead, cond_false]
  have : List.count w.heap.size [w.heap.size + 1] = 0 := List.count_eq_zero.2 (by simp)
  omega) (by omega)
 have hargs : VRs ⟨g.obj ++ [w.heap.size + 1], g.len⟩ W (.yld s.heap.length :: caps) (.func (.yield (w.heap.size + 1)) #[] #[] :: ys.toList) := by
  simp only [VRs]
  refine ⟨_, _, rfl, ?_, VRs.ext ext1 _ _ hys⟩
  simp only [VR]
  exact ⟨_, rfl, by rw [hlen]; simp⟩
 have hownA : aC (.yld s.heap.length :: caps) (.func (.yield (w.heap.size + 1)) #[] #[] :: ys.toList) = [] := by
  simp only [aC, owns, List.nil_append]
  exact PN hfree hx hfv _
 have hsim2 : SimX (fun b => F b ∨ b = w.heap.size) c.nt ⟨g.obj ++ [w.heap.size + 1], g.len⟩ ⟨s.slots, s.heap ++ [.loop key (disownL (ts.map s.get))]⟩ { a with defers := { target := .collected w.heap.size, args := #[] } :: a.defers } W (aC (.yld s.heap.length :: caps) (.func (.yield (w.heap.size + 1)) #[] #[] :: ys.toList)) := by
  rw [hownA]
  refine ⟨hsim.size, fun t => VR.ext ext1 _ _ (hsim.slots t), ?_⟩
  rw [bC]
  exact hc2
 have hres : (resolve a.eval (rangeCall p (w.heap.size + 1)) 0).run c.P W = .ok { target := .fn (.func f') ys, args := #[.func (.yield (w.heap.size + 1)) #[] #[]] } W := by
  simp only [resolve, rangeCall, hfe, Deferred.ofValue, Sem.run_pure]
  simp [Act.eval]
 have hinv : (invoke (.fn (.func f') ys) #[.func (.yield (w.heap.size + 1)) #[] #[]]).run c.P W = .ok (.enter f' (Value.func (.yield (w.heap.size + 1)) #[] #[] :: ys.toList).toArray) W := by
  simp only [invoke]
  rw [hs.enters]
  congr 2
  simp
 refine ⟨w.heap.size + 1, [{ target := .collected w.heap.size, args := #[] }], W, _, W, f', _, W, ?_, hres, fun _ _ => trivial, hinv, fun hd => (by cases hd), ?_⟩
 ·have := run_enterLoop_outer (P := c.P) (w := w) fn a.tmps ps assign body
  rw [hrec, hW] at this
  exact this
 ·refine CallsIn.mono (F := fw none) (callsIn_wide.2 (h2 _ c.nt _ _ W _ hargs hsim2)) ?_
  rintro e w3 ⟨v1, g', rfl, q1, q2, q3, q4⟩
  have hbi : g'.obj[s.heap.length]? = some (w.heap.size + 1) := by
   obtain ⟨t, ht⟩ := q2
   rw [← ht, hlen]
   simp
  have hob3 := aY q3.core.heap _ _ _ hob hbi
  simp only [ObjR] at hob3
  obtain ⟨r3, j1, j2, j3, _⟩ := hob3
  have hlt3 := (Array.getElem?_eq_some_iff.1 j1).1
  have hend := run_endLoop (P := c.P) j1 (by rw [j2]; simp)
  rw [j3] at hend
  generalize ({ r3 with state := .exhausted, pending := none } : Loop) = X at hend
  have hoth : ∀ b, b ≠ w.heap.size + 1 → (w3.putObj (w.heap.size + 1) (.loop X)).heap[b]? = w3.heap[b]? := fun b hb => by simp [World.putObj, Array.getElem?_setIfInBounds_ne (Ne.symm hb)]
  have hD3 : w3.heap[w.heap.size]? = some (.deferred (some [])) := by rw [(q4.frame w.heap.size (.inr rfl)).1]; exact hWD
  have h03 : mQ w3 (w.heap.size + 1) = 0 := by unfold mQ; rw [j1]
  show ∃ jump w4, _ ∧ _
  refine ⟨none, _, hend, ?_⟩
  refine ⟨rfl, fun b => F b ∨ b = w.heap.size, g', fun b hb => .inl hb, ?_, ?_, ?_, [w.heap.size], rfl, by simp, fun D hD => ?_⟩
  ·exact (hp.trans (List.prefix_append _ _)).trans q2
  ·have hc3 := q3.core.weaken (os' := [] ++ af s' 0 a.tmps.toList) (fun r hr => List.mem_append_right _ (by simpa using hr)) (fun b => by simp only [ax, nO]; omega)
   obtain ⟨x1, x2, x3⟩ := hc3.NE (ob' := .gone) (os0 := []) (os1 := []) (os' := [] ++ af s' 0 a.tmps.toList) (w' := w3.putObj (w.heap.size + 1) (.loop X)) hob hbi rfl (fun k hk => hoth k hk) (by rw [h03]; exact Nat.zero_le _) (by simp [World.putObj]) rfl rfl rfl rfl rfl (fun _ => trivial) (fun _ => Nat.le_refl _) (fun r hr => hr)
   refine ⟨q3.size, fun t => VR.ext x1 _ _ (q3.slots t), ?_⟩
   rw [bC]
   exact x3
  ·have hlenL : g'.len (w.heap.size + 1) = 0 := q3.core.objlen _ (mf hob hbi rfl)
   refine ⟨fun b j hj => ?_, fun b hb => ?_, fun b => Nat.le_trans (e1.bsz b) (Nat.le_trans (q4.bsz b) (GN hoth (by rw [h03]; exact Nat.zero_le _) b)), fun b => q4.len b, fun b hb => ?_, ?_, ?_, ?_, ?_⟩
   ·have hb := hsim.core.lenlt b (by omega)
    rw [cell_of (hoth b (by omega)), q4.cell b j hj, e1.cell b j hj]
   ·have hb' := hsim.core.lenlt b hb
    rw [qY (hoth b (by omega)), q4.ty b hb, e1.ty b hb]
   ·have hb' := hsim.core.flt b hb
    rw [hoth b (by omega), (q4.frame b (.inl hb)).1, hWo b hb']
    exact ⟨rfl, (q4.frame b (.inl hb)).2⟩
   ·have := q4.size
    simp only [World.putObj, Array.size_setIfInBounds]
    omega
   ·exact q4.os.trans hbel.os
   ·exact q4.tape.trans hbel.tape
   ·exact q4.output.trans hbel.output
  ·simp only [List.mem_singleton] at hD
   subst hD
   exact ⟨Nat.le_refl _, .inr rfl, by rw [hoth _ (by omega)]; exact hD3⟩
theorem Kv {key : Nat} {ts : List Nat} {sp : FSpec} {f : FuncId} {u : Nat} {cd : Code} (hcd : cd = .rangeFunc (.tmp u) cd.rp.toArray cd.ra cd.rb) (hm : aB key = ⟨cd.rp, cd.ra, cd.rb, ts, c.nt⟩) (hs : FSound c.P f sp) : Snd c (Mk key ts sp f (.tmp u)) cd := by
 rw [hcd]
 exact V4 hs (by simp [bA]) rfl (by rw [hm])
def Q4 : List Value → Bool
 | [.pointer none, .slice none 0 0] => true
 | _ => false
theorem V5 {l : List Value} (h : Q4 l = true) : l = [.pointer none, .slice none 0 0] := by
 unfold Q4 at h
 split at h
 ·rfl
 ·cases h
theorem V6 {t : TypeId} {zr : Value} (h : o.op = .alloc t) (hz : (c.P.info? t).bind (·.zero) = some zr) (hf : Q4 zr.cells.toList = true) : bK c (.allocO (.buf 0 t [])) o := by
 intro s R k r hr
 simp only [AOp.run] at hr
 obtain ⟨i, hi1, hi2⟩ := Option.bind_eq_some_iff.1 hz
 refine ⟨_, _, hr, OpSem.run fun F g a w B hB hpre hs => ?_⟩
 have hc := hs.core
 have hcells : zr.cells = #[.pointer none, .slice none 0 0] := by
  apply Array.ext'
  simpa using V5 hf
 obtain ⟨g', e1, e2, e3, e4⟩ := Core.ND (os0 := []) (ob := .buf 0 t []) (w' := w.alloc (.cells zr.cells t)) hc (fun k hk => heap_alloc_old w _ (h := hk)) (by simp) rfl rfl rfl (by
  have := heap_alloc_new w (.cells zr.cells t)
  rw [hcells] at this
  simp only [jo]
  rw [hcells, this]
  rfl)
  (fun g' _ => by
   simp only [ObjR]
   refine ⟨_, _, by rw [← hcells]; exact heap_alloc_new w _, .inl rfl, ?_, fun _ => rfl, fun a n c h => by injection h with h; cases h⟩
   simp only [VR]
   exact ⟨none, 0, 0, rfl, BH _ _ _ _⟩)
 refine ⟨.pointer (some ⟨w.heap.size, 0, none⟩), g', w.alloc (.cells zr.cells t), ?_, ?_, by rw [e1]; exact hpre.trans (List.prefix_append _ _), ?_, e3⟩
 ·simp [execOp, h, Instr.alloc, zeroValue, typeInfo, hi1, hi2, newVar, newRow]
 ·simp only [VR]
  refine ⟨_, rfl, ?_⟩
  rw [e1, hs.core.heap.length]
  simp
 ·exact ⟨hs.size, fun t' => VR.ext e2 _ _ (hs.slots t'), by rw [bC]; exact e4⟩
end Go.Sh
namespace Go.Sh
open Go.RowKit
set_option linter.unusedSimpArgs false
set_option linter.unusedVariables false
theorem Row.at {g g2 : Gh} {w : World} {a : Option Addr} {n c sz : Nat} {vs : List Value} (h : Row g w true a n c sz vs) (hl : ∀ ad, a = some ad → g2.len ad.block = g.len ad.block) : Row g2 w true a n c sz vs :=
 ⟨h.1, h.2.1, h.2.2.1, fun hp => let ⟨ad, h1, h2⟩ := h.2.2.2.1 hp; ⟨ad, h1, h2.1, by rw [hl ad h1]; exact h2.2.1, h2.2.2⟩, h.2.2.2.2⟩
end Go.Sh
namespace Go.Sh
open Go.RowKit
set_option linter.unusedSimpArgs false
set_option linter.unusedVariables false
variable {c : Cx} {o : Oper}
def Q5 (F : Nat → Prop) (g : Gh) (H : List AObj) (os : List Rec) (w : World) (k : Nat) : Prop := ¬ F k ∧ oc k os + oc k (aU w H g.obj) + (lives H g.obj).count k = 0 ∧ g.len k = 0
theorem Core.U0 {F : Nat → Prop} {g : Gh} {H : List AObj} {os : List Rec} {w : World} (h : Core F g H os w) {k : Nat} (hk : w.heap.size ≤ k) : Q5 F g H os w k := by
 refine ⟨fun hF => by have := h.flt k hF; omega, ?_, ?_⟩
 ·have a1 : oc k os = 0 := by
   rcases Nat.eq_zero_or_pos (oc k os) with e | e
   ·exact e
   ·obtain ⟨r, hr, hr2⟩ := List.countP_pos_iff.1 e
    have := (h.own r (.inl hr)).lt
    simp at hr2
    omega
  have a2 : oc k (aU w H g.obj) = 0 := by
   rcases Nat.eq_zero_or_pos (oc k (aU w H g.obj)) with e | e
   ·exact e
   ·obtain ⟨r, hr, hr2⟩ := List.countP_pos_iff.1 e
    have := (h.own r (.inr hr)).lt
    simp at hr2
    omega
  have a3 : (lives H g.obj).count k = 0 := List.count_eq_zero.2 (fun hm => by have := h.heap.lt _ hm; omega)
  omega
 ·rcases Nat.eq_zero_or_pos (g.len k) with e | e
  ·exact e
  ·have := h.lenlt k e; omega
theorem Core.elsewhere {F : Nat → Prop} {g : Gh} {H : List AObj} {os : List Rec} {w w' : World} (h : Core F g H os w) (hk : ∀ k, k < w.heap.size → w'.heap[k]? = w.heap[k]? ∨ Q5 F g H os w k) (hbz : ∀ b, mQ w b ≤ mQ w' b)
 (hs : w.heap.size ≤ w'.heap.size) (ho : w'.os = w.os) (ht : w'.tape = w.tape) (hout : w'.output = w.output) : Ext g w g w' ∧ Step F g w g w' ∧ Core F g H os w' := by
 have hl : ∀ b, 0 < g.len b → w'.heap[b]? = w.heap[b]? := fun b hb => (hk b (h.lenlt b hb)).resolve_right (fun hf => by have := hf.2.2; omega)
 have hF : ∀ b, F b → w'.heap[b]? = w.heap[b]? := fun b hb => (hk b (h.flt b hb)).resolve_right (fun hf => hf.1 hb)
 have ext : Ext g w g w' := ⟨fun b j hj => cell_of (hl b (by omega)) j, fun b hb => qY (hl b hb), hbz, fun _ => Nat.le_refl _, fun _ _ h => h⟩
 have hobj := ObjsR.move ext H g.obj h.heap (fun b hb => (hk b (h.heap.lt b hb)).resolve_right (fun hf => by have := List.count_pos_iff.2 hb; have := hf.2.1; omega))
 refine ⟨ext, ⟨ext.cell, ext.ty, ext.bsz, ext.len, fun b hb => ⟨hF b hb, rfl⟩, hs, ho, ht, hout⟩, hobj.1, fun r hr => ?_, fun b => ?_, fun b hb => ?_, h.objlen, fun b hb => Nat.lt_of_lt_of_le (h.lenlt b hb) hs, fun b hb => Nat.lt_of_lt_of_le (h.flt b hb) hs, h.good.step (fun _ h => h) hF⟩
 ·rw [hobj.2] at hr
  have h1 := h.own r hr
  obtain ⟨o1, o2, arr, t, o3, o4⟩ := h1
  exact ⟨o1, o2, arr, t, o3.of_heap ((hk r.1 o3.lt).resolve_right (fun hf => by
   have := hf.2.1
   rcases hr with hr | hr
   ·have := yt hr; omega
   ·have := yt hr; omega)), o4⟩
 ·rw [hobj.2]; exact h.dist b
 ·rw [hobj.2]; exact h.notF b hb
theorem ObjsR.gone {g : Gh} {w : World} : ∀ {H : List AObj} {bs : List Nat} (id : Nat), ObjsR g w H bs → ObjsR g w (H.set id .gone) bs
 | [], bs, id, h => by simpa using h
 | x :: H, bs, 0, h => by
  simp only [ObjsR] at h
  obtain ⟨b, cs, rfl, h1, h2⟩ := h
  simp only [List.set_cons_zero, ObjsR]
  exact ⟨b, cs, rfl, trivial, h2⟩
 | x :: H, bs, id + 1, h => by
  simp only [ObjsR] at h
  obtain ⟨b, cs, rfl, h1, h2⟩ := h
  simp only [List.set_cons_succ, ObjsR]
  exact ⟨b, cs, rfl, h1, ObjsR.gone id h2⟩
theorem G8 : ∀ {H : List AObj} {bs : List Nat} (id : Nat) (x : Nat), (lives (H.set id .gone) bs).count x ≤ (lives H bs).count x
 | [], bs, id, x => by simp
 | y :: H, [], id, x => by cases id <;> simp [lives]
 | y :: H, b :: bs, 0, x => by
  rw [List.set_cons_zero, lives, lives]
  cases y.dead with
  | true => exact Nat.le_refl _
  | false => exact List.count_le_count_cons
 | y :: H, b :: bs, id + 1, x => by
  have := G8 (H := H) (bs := bs) id x
  rw [List.set_cons_succ, lives, lives]
  cases y.dead with
  | true => exact this
  | false => simp only [cond_false, List.count_cons]; omega
theorem J3 : ∀ {H : List AObj} {bs : List Nat} {id b : Nat} {o : AObj}, H[id]? = some o → bs[id]? = some b → o.dead = false → (lives (H.set id .gone) bs).count b + 1 ≤ (lives H bs).count b
 | [], _, _, _, _, h, _, _ => by simp at h
 | x :: H, [], _, _, _, _, h, _ => by simp at h
 | x :: H, c :: cs, 0, b, o, h1, h2, hd => by
  simp at h1 h2
  subst h1 h2
  rw [List.set_cons_zero, lives, lives, hd]
  simp [AObj.dead]
 | x :: H, c :: cs, i + 1, b, o, h1, h2, hd => by
  simp at h1 h2
  have := J3 h1 h2 hd
  rw [List.set_cons_succ, lives, lives]
  cases x.dead with
  | true => exact this
  | false => simp only [cond_false, List.count_cons]; omega
theorem Ox {w : World} : ∀ {H : List AObj} {bs : List Nat} (id : Nat), (∀ x, oc x (aU w (H.set id .gone) bs) ≤ oc x (aU w H bs)) ∧ ∀ r, r ∈ aU w (H.set id .gone) bs → r ∈ aU w H bs
 | [], bs, id => by simp
 | y :: H, [], id => by cases id <;> simp [aU]
 | y :: H, b :: bs, 0 => by
  rw [List.set_cons_zero, aU, aU]
  exact ⟨fun x => by simp only [jo, ax, nO]; omega, fun r hr => by simp only [jo, List.nil_append] at hr; exact List.mem_append_right _ hr⟩
 | y :: H, b :: bs, id + 1 => by
  obtain ⟨h1, h2⟩ := Ox (w := w) (H := H) (bs := bs) id
  rw [List.set_cons_succ, aU, aU]
  exact ⟨fun x => by have := h1 x; simp only [ax]; omega, fun r hr => by
   rcases List.mem_append.1 hr with hr | hr
   ·exact List.mem_append_left _ hr
   ·exact List.mem_append_right _ (h2 r hr)⟩
theorem Core.U1 {F : Nat → Prop} {g : Gh} {H : List AObj} {os : List Rec} {w : World} (h : Core F g H os w) (id : Nat) : Core F g (H.set id .gone) os w ∧ ∀ (o : AObj) (b : Nat), H[id]? = some o → g.obj[id]? = some b → o.dead = false → Q5 F g (H.set id .gone) os w b := by
 obtain ⟨h1, h2⟩ := Ox (w := w) (H := H) (bs := g.obj) id
 refine ⟨⟨h.heap.gone id, fun r hr => h.own r (hr.imp_right (h2 r)), fun b => ?_, fun b hb => ?_, fun b hb => ?_, h.lenlt, h.flt, h.good⟩, fun o b ho hb hd => ?_⟩
 ·have := h.dist b; have := h1 b; have := G8 (H := H) (bs := g.obj) id b; omega
 ·have := h.notF b hb; have := h1 b; have := G8 (H := H) (bs := g.obj) id b; omega
 ·have h3 := List.count_pos_iff.2 hb
  have := G8 (H := H) (bs := g.obj) id b
  exact h.objlen b (List.count_pos_iff.1 (by omega))
 ·have hm := mf ho hb hd
  have h3 := List.count_pos_iff.2 hm
  have h4 := h.dist b
  have h5 := J3 ho hb hd
  have h6 := h1 b
  exact ⟨fun hF => by have := h.notF b hF; omega, by omega, h.objlen b hm⟩
theorem Core.XK {F : Nat → Prop} {g : Gh} {H : List AObj} {os : List Rec} {w : World} {b k cp : Nat} {arr : Array Value} {t : TypeId} (h : Core F g H os w) (hf : Q5 F g H os w b) (hw : CellsAt w b arr t) (hk : k ≤ cp) (hc : cp ≤ arr.size) :
 Ext g w (g.set b k) w ∧ Step F g w (g.set b k) w ∧ Core F (g.set b k) H ((b, k, cp) :: os) w := by
 obtain ⟨f1, f2, f3⟩ := hf
 have ext : Ext g w (g.set b k) w := ⟨fun _ _ _ => rfl, fun _ _ => rfl, fun _ => Nat.le_refl _, fun x => by
  by_cases e : x = b
  ·subst e; rw [f3]; exact Nat.zero_le _
  ·simp [Gh.set, e], fun _ _ h => h⟩
 have hobj := ObjsR.move ext H g.obj h.heap (fun _ _ => rfl)
 refine ⟨ext, ⟨ext.cell, ext.ty, ext.bsz, ext.len, fun x hx => ⟨rfl, ?_⟩, Nat.le_refl _, rfl, rfl, rfl⟩, hobj.1, fun r hr => ?_, fun x => ?_, fun x hx => ?_, fun x hx => ?_, fun x hx => ?_, h.flt, h.good⟩
 ·have : x ≠ b := fun e => f1 (e ▸ hx)
  simp [Gh.set, this]
 ·have other : r ∈ os ∨ r ∈ aU w H g.obj → OwnOK (g.set b k) w r := fun hr => by
   have hne : r.1 ≠ b := fun e => by
    rcases hr with hr | hr
    ·have := yt hr; rw [e] at this; omega
    ·have := yt hr; rw [e] at this; omega
   obtain ⟨o1, o2, o3⟩ := h.own r hr
   exact ⟨by simp [Gh.set, hne, o1], o2, o3⟩
  rcases hr with hr | hr
  ·rcases List.mem_cons.1 hr with rfl | hr
   ·exact ⟨by simp [Gh.set], hk, arr, t, hw, hc⟩
   ·exact other (.inl hr)
  ·exact other (.inr hr)
 ·have := h.dist x
  show oc x ((b, k, cp) :: os) + oc x (aU w H g.obj) + (lives H g.obj).count x ≤ 1
  rw [Fz]
  by_cases e : b = x
  ·subst e; simp; omega
  ·simp only [e, if_false]; omega
 ·have := h.notF x hx
  show oc x ((b, k, cp) :: os) + oc x (aU w H g.obj) + (lives H g.obj).count x = 0
  rw [Fz]
  have e : b ≠ x := fun e => f1 (e ▸ hx)
  simp only [e, if_false]; omega
 ·have e : x ≠ b := fun e => by subst e; have := List.count_pos_iff.2 (show x ∈ lives H g.obj from hx); omega
  simp [Gh.set, e]; exact h.objlen x hx
 ·by_cases e : x = b
  ·subst e; exact hw.lt
  ·simp [Gh.set, e] at hx; exact h.lenlt x hx
theorem Core.newRow {F : Nat → Prop} {g : Gh} {H : List AObj} {os : List Rec} {w w' : World} {b' : Nat} {ob : AObj} (h : Core F g H os w) (hk : ∀ k, k < w.heap.size → w'.heap[k]? = w.heap[k]? ∨ Q5 F g H os w k) (hbz : ∀ b, mQ w b ≤ mQ w' b)
 (hs : w.heap.size ≤ w'.heap.size) (ho : w'.os = w.os) (ht : w'.tape = w.tape) (hout : w'.output = w.output) (hf : Q5 F g H os w b') (hO : ∀ w, jo w b' ob = []) (hR : ∀ g', ObjR g' w' b' ob) :
 Ext g w ⟨g.obj ++ [b'], g.len⟩ w' ∧ Step F g w ⟨g.obj ++ [b'], g.len⟩ w' ∧ Core F ⟨g.obj ++ [b'], g.len⟩ (H ++ [ob]) os w' := by
 obtain ⟨e1, e2, e3⟩ := h.elsewhere hk hbz hs ho ht hout
 have hobj := ObjsR.move e1 H g.obj h.heap (fun b hb => (hk b (h.heap.lt b hb)).resolve_right (fun hf => by have := List.count_pos_iff.2 hb; have := hf.2.1; omega))
 refine ⟨⟨e1.cell, e1.ty, e1.bsz, e1.len, fun i b hi => ?_⟩, ⟨e2.cell, e2.ty, e2.bsz, e2.len, e2.frame, e2.size, e2.os, e2.tape, e2.output⟩, e3.XB (by rw [hobj.2]; exact hf.2.1) hf.1 hf.2.2 (hO _) (hR _)⟩
 simp only
 rw [List.getElem?_append_left (List.getElem?_eq_some_iff.1 hi).1]; exact hi
theorem TW {g : Gh} {w : World} {b : Nat} {vs : List Value} {arr : Array Value} {t : TypeId} (hrd : Reads g w ⟨b, 0, none⟩ vs) (hle : vs.length ≤ arr.size) (hw : CellsAt w b arr t) : ∃ rest, arr.toList = vs ++ rest := by
 refine ⟨arr.toList.drop vs.length, ?_⟩
 have : arr.toList.take vs.length = vs := by
  apply List.ext_getElem?
  intro j
  by_cases hj : j < vs.length
  ·rw [List.getElem?_take, if_pos hj, ← hrd.2.2 j hj, Nat.zero_add, hw.cell]
   simp
  ·rw [List.getElem?_eq_none (by simp; omega), List.getElem?_eq_none (by omega)]
 conv => lhs; rw [← List.take_append_drop vs.length arr.toList, this]
def P9 (ob : AObj) (z : Nat) (vs : List Value) : Prop := (∀ (w : World) (b : Nat), jo w b ob = []) ∧ (∀ (g : Gh) (w : World) (b : Nat) (arr : Array Value) (t : TypeId) (rest : List Value), CellsAt w b arr t → arr.toList = vs ++ rest → ObjR g w b ob)
theorem U2 (kd : IntKind) (xs : List Int) : P9 (.rowN kd xs) 1 (xs.map (Value.int kd)) := ⟨fun _ _ => rfl, fun g w b arr t rest hw ha => by simp only [ObjR]; exact .inr ⟨arr, t, rest, hw, ha⟩⟩
theorem Oy {n : Nat} {els : List (List AV)} (h : TC n els = true) : ∀ e ∈ els, e.length = n ∧ e.all AV.plain = true := fun e he => by
 have := List.all_eq_true.1 h e he
 simp only [Bool.and_eq_true] at this
 exact ⟨Nat.eq_of_beq_eq_true this.1, this.2⟩
theorem Zh {n : Nat} {els : List (List AV)} {g : Gh} {w : World} {vs : List Value} (h : ∀ e ∈ els, e.length = n ∧ e.all AV.plain = true) (hv : VRss g w els vs) : P9 (.rowC n els) n vs :=
 ⟨fun _ _ => rfl, fun g' w' b arr t rest hw ha => by simp only [ObjR]; exact .inr ⟨h, arr, t, vs, rest, hw, ha, VRss.GV (fun e he => (h e he).2) _ hv⟩⟩
theorem uQ (sl : List (Nat × AV)) (H H' : List AObj) : ∀ (l : List Value) (i : Nat), af ⟨sl, H⟩ i l = af ⟨sl, H'⟩ i l
 | [], _ => rfl
 | v :: l, i => by simp only [af]; rw [uQ sl H H' l]; rfl
theorem Oz {F : Nat → Prop} {nt : Nat} {g : Gh} {s : St} {a : Act} {w : World} {g1 : Gh} {H : List AObj} {ao : Option Addr} {n cp z m bytes : Nat} {vs us : List Value} {P : Program} {x : Value} {t u ty e : TypeId} {i : TypeInfo} {zr : Value} {du : TypeDesc} {ob : AObj} {sl : List (Nat × AV)}
 (ht : P.underlying t = some (.slice e)) (hu : P.underlying u = some du) (hdu : du = .string ∨ ∃ e', du = .slice e') (hi : P.info? e = some i) (hz : i.zero = some zr) (hsz : i.size = z) (hby : i.bytes = bytes) (hzs : zr.cells.size = z) (h0 : 0 < z) (hb0 : 0 < bytes)
 (hsize : a.tmps.size = nt) (hslots : ∀ t, VR g w ((⟨sl, H⟩ : St).get t) (a.tmps.getD t undef)) (hcore : Core F g H (af ⟨sl, H⟩ 0 a.tmps.toList) w) (hg1 : g1.obj = g.obj)
 (hc1 : Core F g1 H (recs ao (n * z) (cp * z) ++ af ⟨sl, H⟩ 0 a.tmps.toList) w) (hfr : ∀ ad, ao = some ad → Q5 F g H (af ⟨sl, H⟩ 0 a.tmps.toList) w ad.block)
 (hrow : Row g1 w true ao n cp z vs) (hsrc : Src P w z x m us) (hroom : (n + m) * bytes ≤ 140737488355328) (hpos : 0 < n + m) (hob : P9 ob z (vs ++ us)) :
 ∃ ao' cp' w' b', (Builtin.append_ #[t, u] ty #[.slice ao n cp, x]).run P w = .ok (.slice ao' (n + m) cp') w' ∧ VR ⟨g.obj ++ [b'], g.len⟩ w' (.mo H.length (n + m) (n + m) z) (.slice ao' (n + m) cp') ∧ Step F g w ⟨g.obj ++ [b'], g.len⟩ w' ∧ SimX F nt ⟨g.obj ++ [b'], g.len⟩ ⟨sl, H ++ [ob]⟩ a w' [] := by
 obtain ⟨ao', cp', g', w', h1, h2, h3, h4, h5, h6, _, h8, _, h10⟩ := FB (ty := ty) ht hu hdu hi hz hsz hby hzs h0 hb0 hc1 hrow hsrc hroom
 have hlen : (vs ++ us).length = (n + m) * z := by rw [List.length_append, hrow.1, hsrc.size, Nat.add_mul]
 have hp : 0 < (vs ++ us).length := by rw [hlen]; exact Nat.mul_pos hpos h0
 obtain ⟨ad, had, hrd⟩ := h2.2.2.2.1 hp
 obtain ⟨z1, z2⟩ := h2.2.2.2.2.1 rfl ad had
 obtain ⟨b', off, sp⟩ := ad
 simp only at z1 z2
 subst z1 z2
 subst had
 obtain ⟨o1, o2, arr, tt, o3, o4⟩ := h6.own (b', (n + m) * z, cp' * z) (.inl (by simp [recs]))
 simp only at o1 o2 o3 o4
 obtain ⟨rest, hrest⟩ := TW hrd (by rw [hlen]; omega) o3
 have hfree : Q5 F g H (af ⟨sl, H⟩ 0 a.tmps.toList) w b' := by
  rcases h10 with h10 | ⟨ad', h10, h11⟩
  ·exact hfr _ h10.symm
  ·injection h10 with h10
   subst h10
   exact hcore.U0 h11
 obtain ⟨k1, k2, k3⟩ := hcore.newRow (w' := w') (b' := b') (ob := ob) (fun k hk => by
  by_cases e : ∃ ad, ao = some ad ∧ k = ad.block
  ·obtain ⟨ad, e1, e2⟩ := e
   exact .inr (e2 ▸ hfr ad e1)
  ·exact .inl (h8 k hk fun ad e1 e2 => e ⟨ad, e1, e2⟩)) h4.bsz h4.size h4.os h4.tape h4.output hfree (fun w => hob.1 w b') (fun g' => hob.2 g' w' b' arr tt rest o3 hrest)
 refine ⟨_, cp', w', b', h1, ?_, k2, hsize, fun t => VR.ext k1 _ _ (hslots t), ?_⟩
 ·simp only [VR]
  refine ⟨_, b', cp', rfl, h2.2.1, Nat.le_refl _, ?_, fun h => by omega, fun _ => ⟨rfl, by rw [o3.bsz]; exact o4⟩⟩
  rw [hcore.heap.length]; simp
 ·rw [List.nil_append]
  show Core F _ (H ++ [ob]) (af ⟨sl, H ++ [ob]⟩ 0 a.tmps.toList) w'
  rw [uQ sl (H ++ [ob]) H]
  exact k3
theorem U3 {sh : Option IntKind} {z : Nat} (h : o.op = .move (.const (.slice none 0 0)) ∨ o.op = .assign (.const (.slice none 0 0))) : bK c (.nilO sh z) o := by
 intro s R k r hr
 have main : ∀ (ob : AObj) (zz : Nat), ob.dead = true → k (.mo s.heap.length 0 0 zz) ⟨s.slots, s.heap ++ [ob]⟩ = some r → ∃ v s', k v s' = some r ∧ OpSem c o s v s' := fun ob zz hd hk => by
  refine ⟨_, _, hk, OpSem.run fun F g a w B _ hp hs => ?_⟩
  have hc := hs.core.NH (ob := ob) 0 hd
  have ext : Ext g w ⟨g.obj ++ [0], g.len⟩ w := ⟨fun _ _ _ => rfl, fun _ _ => rfl, fun _ => Nat.le_refl _, fun _ => Nat.le_refl _, fun i b hi => by
   simp only
   rw [List.getElem?_append_left (List.getElem?_eq_some_iff.1 hi).1]; exact hi⟩
  refine ⟨.slice none 0 0, ⟨g.obj ++ [0], g.len⟩, w, by rcases h with h | h <;> simp [execOp, h, Sem.run, Act.eval], ?_, hp.trans (List.prefix_append _ _), ⟨hs.size, fun t => VR.ext ext _ _ (hs.slots t), ?_⟩, ⟨ext.cell, ext.ty, ext.bsz, ext.len, fun _ _ => ⟨rfl, rfl⟩, Nat.le_refl _, rfl, rfl, rfl⟩⟩
  ·simp only [VR]
   refine ⟨none, 0, 0, rfl, Nat.le_refl _, Nat.le_refl _, ?_, fun _ => ⟨rfl, rfl⟩, fun h => by omega⟩
   rw [hs.core.heap.length]; simp
  ·rw [bC]
   exact hc
 simp only [AOp.run] at hr
 split at hr
 ·obtain ⟨_, h2⟩ | ⟨_, h2⟩ := ae hr
  ·exact main _ _ rfl h2
  ·cases h2
 ·exact main _ _ rfl hr
theorem TY {z bytes : Nat} {x y : AX} {p q : Operand} {t u e : TypeId} {zr : Value} {cl : Call} {e' : TypeId} (h : o.op = .call cl) (hc : cl.callee = .builtin .append) (hargs : cl.args = #[p, q]) (hts : cl.argTypes = #[t, u]) (ht : c.P.underlying t = some (.slice e)) (hu : c.P.underlying u = some (.slice e'))
 (hi : (c.P.info? e).map (fun i => (i.size, i.bytes, i.zero)) = some (z, bytes, some zr)) (hzs : zr.cells.size = z) (h0 : 0 < z) (hb0 : 0 < bytes) (hx : bA x p = true) (hy : bA y q = true) : bK c (.appendN z bytes x y) o := by
 obtain ⟨i, hi1, hi2⟩ := Option.map_eq_some_iff.1 hi
 injection hi2 with hi2 hi3
 injection hi3 with hi3 hi4
 intro s R k r hr
 have key : ∀ (F : Nat → Prop) (g : Gh) (a : Act) (w : World) (B : List Nat) (ob : AObj) (ao bo : Option Addr) (m cp cq : Nat) (us : List Value) (own2 : Bool), B <+: g.obj → SimX F c.nt g (x.st s) a w (recs ao 0 (cp * z)) →
  a.eval p = .slice ao 0 cp → a.eval q = .slice bo m cq → Row g w true ao 0 cp z [] → Row g w own2 bo m cq z us → m * bytes ≤ 140737488355328 → 0 < m → P9 ob z us →
  ∃ v' g' w', (execOp a.eval o).run c.P w = .ok (.value v') w' ∧ VR g' w' (.mo s.heap.length m m z) v' ∧ B <+: g'.obj ∧ SimX F c.nt g' ⟨(x.st s).slots, s.heap ++ [ob]⟩ a w' (owns (.mo s.heap.length m m z) v') ∧ Step F g w g' w' := by
  intro F g a w B ob ao bo m cp cq us own2 hpre hs hp hq hr1 hr2 hroom hpos hob
  have hheap : (x.st s).heap = s.heap := by cases x <;> rfl
  have hcore := hs.core
  rw [hheap] at hcore
  have hst : (⟨(x.st s).slots, s.heap⟩ : St) = x.st s := by rw [← hheap]
  obtain ⟨ao', cp', w', b', k1, k2, k3, k4⟩ := Oz (F := F) (nt := c.nt) (s := s) (g := g) (g1 := g) (H := s.heap) (sl := (x.st s).slots) (ob := ob) (n := 0) (ty := o.type) (cp := cp) (vs := []) (us := us) ht hu (.inr ⟨e', rfl⟩) hi1 hi4 hi2 hi3 hzs h0 hb0 hs.size
   (by rw [hst]; exact hs.slots) (by rw [hst]; exact hcore.weaken (fun r hr => List.mem_append_right _ hr) (fun b => by rw [ax]; omega)) rfl (by rw [hst, Nat.zero_mul]; exact hcore) (fun ad had => by
    subst had
    rw [hst]
    have hin : (ad.block, 0, cp * z) ∈ recs (some ad) 0 (cp * z) := by simp [recs]
    have hd := hcore.dist ad.block
    have h1 : oc ad.block (recs (some ad) 0 (cp * z)) = 1 := by simp [recs, oc]
    rw [ax, h1] at hd
    exact ⟨fun hF => by have := hcore.notF _ hF; rw [ax, h1] at this; omega, by omega, (hcore.own _ (.inl (List.mem_append_left _ hin))).1⟩)
   hr1 hr2.src (by simpa using hroom) (by omega) (by simpa using hob)
  rw [Nat.zero_add] at k1 k2
  have hown : owns (.mo s.heap.length m m z) (.slice ao' m cp') = [] := by cases ao' <;> rfl
  refine ⟨_, _, w', ?_, k2, hpre.trans (List.prefix_append _ _), by rw [hown]; exact k4, k3⟩
  refine dC h hc ?_
  rw [hargs, hts]
  simp only [builtin, List.map_toArray, List.map_cons, List.map_nil, hp, hq, Sem.run_bind, k1, Result.andThen]
  rfl
 simp only [AOp.run] at hr
 split at hr
 ·rename_i kd l own2 km l2 hv hw
  obtain ⟨h1, hr2⟩ | ⟨_, hr2⟩ := ae hr
  case inr => exact absurd hr2 (by simp)
  obtain ⟨h2, hr3⟩ | ⟨_, hr3⟩ := ae hr2
  case inr => exact absurd hr3 (by simp)
  simp only [Bool.and_eq_true, beq_iff_eq, decide_eq_true_eq, List.isEmpty_iff, Bool.not_eq_true', List.isEmpty_eq_false_iff] at h1 h2
  obtain ⟨⟨⟨rfl, rfl⟩, rfl⟩, hne⟩ := h1
  refine ⟨_, _, hr3, OpSem.run fun F g a w B hB hpre hs => ?_⟩
  obtain ⟨h3, h4⟩ := AX.ok hs hx
  have h5 := aj h4 hy
  rw [hv] at h3 h4
  rw [hw] at h5
  simp only [VR] at h3 h5
  obtain ⟨ao, n, cp, e1, hr1⟩ := h3
  obtain ⟨bo, m, cq, e2, hr2⟩ := h5
  have hn : n = 0 := by have := hr1.1; simp at this; omega
  have hm : m = l2.length := by have := hr2.1; simp at this; exact this.symm
  subst hn; subst hm
  rw [e1, qz, List.append_nil] at h4
  exact key F g a w B _ ao bo _ cp cq _ own2 hpre (by simpa using h4) e1 e2 hr1 hr2 h2 (List.length_pos_iff.2 hne) (U2 _ _)
 ·rename_i sz l own2 sm l2 hv hw
  obtain ⟨h1, hr2⟩ | ⟨_, hr2⟩ := ae hr
  case inr => exact absurd hr2 (by simp)
  obtain ⟨h2, hr3⟩ | ⟨_, hr3⟩ := ae hr2
  case inr => exact absurd hr3 (by simp)
  simp only [Bool.and_eq_true, beq_iff_eq, decide_eq_true_eq, List.isEmpty_iff, Bool.not_eq_true', List.isEmpty_eq_false_iff] at h1 h2
  obtain ⟨⟨⟨h1a, h1b⟩, rfl⟩, hne⟩ := h1
  obtain ⟨h2a, h2⟩ := h2
  subst h1a
  subst h1b
  refine ⟨_, _, hr3, OpSem.run fun F g a w B hB hpre hs => ?_⟩
  obtain ⟨h3, h4⟩ := AX.ok hs hx
  have h5 := aj h4 hy
  rw [hv] at h3 h4
  rw [hw] at h5
  simp only [VR] at h3 h5
  obtain ⟨ao, n, cp, vs, e1, hr1, hn, hsz1, hvs⟩ := h3
  obtain ⟨bo, m, cq, us, e2, hr2, hm, hsz2, hus⟩ := h5
  simp only [VRss] at hvs
  subst hvs
  have hn : n = 0 := by simpa using hn.symm
  subst hn; subst hm
  rw [e1, GU, List.append_nil] at h4
  exact key F g a w B _ ao bo _ cp cq _ own2 hpre (by simpa using h4) e1 e2 hr1 hr2 h2 (List.length_pos_iff.2 hne) (Zh (Oy h2a) hus)
 ·exact absurd hr (by simp)
theorem U4 {F : Nat → Prop} {g : Gh} {H : List AObj} {os : List Rec} {w : World} {id m tot z : Nat} {ob : AObj} {v : Value} {vs : List Value} (hc : Core F g H os w) (hob : H[id]? = some ob) (hO : ∀ w b, jo w b ob = [])
 (hcells : 0 < tot → ob.dead = false ∧ ∀ b, ObjR g w b ob → ∃ arr t rest, CellsAt w b arr t ∧ arr.toList = vs ++ rest) (hvs : vs.length = tot * z) (hone : ∀ u ∈ vs, u.oneCell' = true) (hv : VR g w (.mo id m tot z) v) :
 ∃ ao cp g1, v = .slice ao m cp ∧ g1.obj = g.obj ∧ Ext g w g1 w ∧ Step F g w g1 w ∧ Core F g (H.set id .gone) os w ∧ Core F g1 (H.set id .gone) (recs ao (m * z) (cp * z) ++ os) w ∧ (∀ ad, ao = some ad → Q5 F g (H.set id .gone) os w ad.block) ∧ Row g1 w true ao m cp z (vs.take (m * z)) ∧ m ≤ tot := by
 simp only [VR] at hv
 obtain ⟨ao, b, cp, rfl, h1, h2, h3, h4, h5⟩ := hv
 obtain ⟨k1, k2⟩ := hc.U1 id
 rcases Nat.eq_zero_or_pos tot with e | e
 ·obtain ⟨rfl, rfl⟩ := h4 e
  have hm : m = 0 := by omega
  subst hm
  refine ⟨none, 0, g, rfl, rfl, Ext.refl _ _, Step.refl _ _ _, k1, by simpa [recs] using k1, fun ad h => (by cases h), ?_, by omega⟩
  simpa using BH g w true z
 ·obtain ⟨rfl, h6⟩ := h5 e
  obtain ⟨hd, hcell⟩ := hcells e
  obtain ⟨arr, t, rest, hw, harr⟩ := hcell b (aY hc.heap id b _ hob h3)
  have hf := k2 ob b hob h3 hd
  rw [hw.bsz] at h6
  have hmz : m * z ≤ cp * z := Nat.mul_le_mul_right _ h1
  have hmt : m * z ≤ tot * z := Nat.mul_le_mul_right _ h2
  obtain ⟨e1, e2, e3⟩ := k1.XK hf hw hmz h6
  have hlen : (vs.take (m * z)).length = m * z := by rw [List.length_take, hvs]; omega
  refine ⟨_, cp, g.set b (m * z), rfl, rfl, e1, e2, k1, by simpa [recs] using e3, fun ad h => by injection h with h; subst h; exact hf, ⟨hlen, h1, Nat.zero_le _, fun _ => ⟨_, rfl, rfl, by rw [hlen]; simp [Gh.set], fun j hj => ?_⟩, fun _ ad h => by injection h with h; subst h; exact ⟨rfl, rfl⟩, fun h => (by cases h), fun u hu => hone u (List.mem_of_mem_take hu)⟩, h2⟩
  rw [hlen] at hj
  rw [Nat.zero_add, hw.cell, List.getElem?_take, if_pos hj]
  have : arr.toList[j]? = vs[j]? := by rw [harr, List.getElem?_append_left (by omega)]
  simpa using this
theorem Kw {g : Gh} {w : World} {kd : IntKind} {xs : List Int} (h : 0 < xs.length) : (AObj.rowN kd xs).dead = false ∧ ∀ b, ObjR g w b (.rowN kd xs) → ∃ arr t rest, CellsAt w b arr t ∧ arr.toList = xs.map (Value.int kd) ++ rest := by
 refine ⟨by cases xs with | nil => simp at h | cons a l => rfl, fun b hb => ?_⟩
 simp only [ObjR] at hb
 exact hb.resolve_left (fun e => by subst e; simp at h)
def pv : AV → Value
 | .int k n => .int k n
 | .bool b => .bool b
 | .str s => .string ⟨s.toArray⟩
 | _ => .bool false
theorem aaT {g : Gh} {w : World} {a : AV} {v : Value} (hp : a.plain = true) (h : VR g w a v) : v = pv a := by
 cases a <;> simp [AV.plain] at hp <;> simp only [VR] at h
 ·exact h
 ·exact h
 ·obtain ⟨s, rfl, rfl⟩ := h
  rfl
theorem XL {g : Gh} {w : World} : ∀ {cs : List AV} {vs : List Value}, cs.all AV.plain = true → VRs g w cs vs → vs = cs.map pv
 | [], vs, _, h => by simp only [VRs] at h; simp [h]
 | a :: cs, vs, hp, h => by
  simp only [List.all_cons, Bool.and_eq_true] at hp
  simp only [VRs] at h
  obtain ⟨v, us, rfl, h1, h2⟩ := h
  rw [aaT hp.1 h1, XL hp.2 h2]; rfl
theorem Q6 {g : Gh} {w : World} : ∀ {els : List (List AV)} {vs : List Value}, (∀ e ∈ els, e.all AV.plain = true) → VRss g w els vs → vs = els.flatMap fun e => e.map pv
 | [], vs, _, h => by simp only [VRss] at h; simp [h]
 | e :: els, vs, hp, h => by
  simp only [VRss] at h
  obtain ⟨p, q, rfl, h1, h2⟩ := h
  rw [XL (hp e (by simp)) h1, Q6 (fun e he => hp e (by simp [he])) h2]; rfl
theorem Zi (g : Gh) (w : World) : ∀ {a : AV}, a.plain = true → VR g w a (pv a)
 | .int k n, _ => by simp [VR, pv]
 | .bool b, _ => by simp [VR, pv]
 | .str s, _ => by simp only [VR, pv]; exact ⟨_, rfl, by simp⟩
 | .undef, h | .ints .., h | .strs .., h | .sl .., h | .eptr .., h | .ptr .., h | .mut .., h | .map .., h | .yld .., h | .mo .., h | .func .., h | .nilFunc, h | .nilIface, h | .iface .., h | .agg .., h | .tuple .., h => by simp [AV.plain] at h
theorem Sg (g : Gh) (w : World) : ∀ {cs : List AV}, cs.all AV.plain = true → VRs g w cs (cs.map pv)
 | [], _ => by simp [VRs]
 | a :: cs, h => by
  simp only [List.all_cons, Bool.and_eq_true] at h
  simp only [List.map_cons, VRs]
  exact ⟨_, _, rfl, Zi g w h.1, Sg g w h.2⟩
theorem Jz (g : Gh) (w : World) : ∀ {els : List (List AV)}, (∀ e ∈ els, e.all AV.plain = true) → VRss g w els (els.flatMap fun e => e.map pv)
 | [], _ => by simp [VRss]
 | e :: els, h => by
  simp only [List.flatMap_cons, VRss]
  exact ⟨_, _, rfl, Sg g w (h e (by simp)), Jz g w (fun e he => h e (by simp [he]))⟩
theorem aal : ∀ {a : AV}, a.plain = true → (pv a).oneCell' = true
 | .int k n, _ => rfl
 | .bool b, _ => rfl
 | .str s, _ => rfl
 | .undef, h | .ints .., h | .strs .., h | .sl .., h | .eptr .., h | .ptr .., h | .mut .., h | .map .., h | .yld .., h | .mo .., h | .func .., h | .nilFunc, h | .nilIface, h | .iface .., h | .agg .., h | .tuple .., h => by simp [AV.plain] at h
def fJ (els : List (List AV)) : List Value := els.flatMap fun e => e.map pv
theorem zB {n : Nat} : ∀ {els : List (List AV)}, (∀ e ∈ els, e.length = n) → (fJ els).length = els.length * n
 | [], _ => by simp [fJ]
 | e :: els, h => by
  have := zB (els := els) (fun e he => h e (by simp [he]))
  unfold fJ at this ⊢
  rw [List.flatMap_cons, List.length_append, this, List.length_map, h e (by simp), List.length_cons, Nat.add_mul]; omega
theorem G9 {els : List (List AV)} (h : ∀ e ∈ els, e.all AV.plain = true) : ∀ u ∈ fJ els, u.oneCell' = true := fun u hu => by
 obtain ⟨e, he, hu⟩ := List.mem_flatMap.1 hu
 obtain ⟨a, ha, rfl⟩ := List.mem_map.1 hu
 exact aal (List.all_eq_true.1 (h e he) a ha)
theorem BK {n : Nat} : ∀ {els : List (List AV)} (m : Nat), (∀ e ∈ els, e.length = n) → (fJ els).take (m * n) = fJ (els.take m)
 | [], m, _ => by simp [fJ]
 | e :: els, m, h => by
  cases m with
  | zero => simp [fJ]
  | succ m =>
   have := BK (els := els) m (fun e he => h e (by simp [he]))
   have he : (e.map pv).length = n := by simp [h e (by simp)]
   unfold fJ at this ⊢
   rw [List.flatMap_cons, List.take_succ_cons, List.flatMap_cons, ← this, show (m + 1) * n = (e.map pv).length + m * n by rw [he, Nat.add_mul]; omega, List.take_length_add_append]
theorem J4 {n : Nat} : ∀ {els : List (List AV)} (m : Nat), (∀ e ∈ els, e.length = n) → (fJ els).drop (m * n) = fJ (els.drop m)
 | [], m, _ => by simp [fJ]
 | e :: els, m, h => by
  cases m with
  | zero => simp [fJ]
  | succ m =>
   have := J4 (els := els) m (fun e he => h e (by simp [he]))
   have he : (e.map pv).length = n := by simp [h e (by simp)]
   unfold fJ at this ⊢
   rw [List.flatMap_cons, List.drop_succ_cons, ← this, show (m + 1) * n = (e.map pv).length + m * n by rw [he, Nat.add_mul]; omega, List.drop_length_add_append]
theorem Ky {g : Gh} {w : World} {n : Nat} {els : List (List AV)} (h : 0 < els.length) : (AObj.rowC n els).dead = false ∧ ∀ b, ObjR g w b (.rowC n els) → ∃ arr t rest, CellsAt w b arr t ∧ arr.toList = fJ els ++ rest := by
 refine ⟨by cases els with | nil => simp at h | cons a l => rfl, fun b hb => ?_⟩
 simp only [ObjR] at hb
 obtain ⟨h1, arr, t, vs, rest, h2, h3, h4⟩ := hb.resolve_left (fun e => by subst e; simp at h)
 exact ⟨arr, t, rest, h2, by rw [h3, Q6 (fun e he => (h1 e he).2) h4]; rfl⟩
theorem XM {n : Nat} {els : List (List AV)} (h : ∀ e ∈ els, e.length = n ∧ e.all AV.plain = true) : P9 (.rowC n els) n (fJ els) :=
 ⟨fun _ _ => rfl, fun g' w' b arr t rest hw ha => by simp only [ObjR]; exact .inr ⟨h, arr, t, _, rest, hw, ha, Jz _ _ (fun e he => (h e he).2)⟩⟩
theorem Kz {g : Gh} {w : World} {b n : Nat} {els : List (List AV)} (h : ObjR g w b (.rowC n els)) : ∀ e ∈ els, e.length = n ∧ e.all AV.plain = true := by
 simp only [ObjR] at h
 rcases h with rfl | h
 ·simp
 ·exact h.1
theorem TZ {z bytes : Nat} {x y : AX} {p q : Operand} {t u e : TypeId} {zr : Value} {cl : Call} {e' : TypeId} (h : o.op = .call cl) (hc : cl.callee = .builtin .append) (hargs : cl.args = #[p, q]) (hts : cl.argTypes = #[t, u]) (ht : c.P.underlying t = some (.slice e)) (hu : c.P.underlying u = some (.slice e'))
 (hi : (c.P.info? e).map (fun i => (i.size, i.bytes, i.zero)) = some (z, bytes, some zr)) (hzs : zr.cells.size = z) (h0 : 0 < z) (hb0 : 0 < bytes) (hx : bA x p = true) (hy : bA y q = true) : bK c (.appendO z bytes x y) o := by
 obtain ⟨i, hi1, hi2⟩ := Option.map_eq_some_iff.1 hi
 injection hi2 with hi2 hi3
 injection hi3 with hi3 hi4
 intro s R k r hr
 have key : ∀ (F : Nat → Prop) (g : Gh) (a : Act) (w : World) (B : List Nat) (ob ob' : AObj) (id n tot m : Nat) (bo : Option Addr) (cq : Nat) (vs us : List Value) (own2 : Bool), B <+: g.obj → SimX F c.nt g s a w [] → s.heap[id]? = some ob →
  VR g w (.mo id n tot z) (a.eval p) → a.eval q = .slice bo m cq → Row g w own2 bo m cq z us → (∀ w b, jo w b ob = []) → (0 < tot → ob.dead = false ∧ ∀ b, ObjR g w b ob → ∃ arr t rest, CellsAt w b arr t ∧ arr.toList = vs ++ rest) → vs.length = tot * z → (∀ u ∈ vs, u.oneCell' = true) →
  (n + m) * bytes ≤ 140737488355328 → (0 < n + m ∨ tot = 0) → (n + m = 0 → ob'.dead = true) → P9 ob' z (vs.take (n * z) ++ us) →
  ∃ v' g' w', (execOp a.eval o).run c.P w = .ok (.value v') w' ∧ VR g' w' (.mo s.heap.length (n + m) (n + m) z) v' ∧ B <+: g'.obj ∧ SimX F c.nt g' ⟨s.slots, s.heap.set id .gone ++ [ob']⟩ a w' (owns (.mo s.heap.length (n + m) (n + m) z) v') ∧ Step F g w g' w' := by
  intro F g a w B ob ob' id n tot m bo cq vs us own2 hpre hs hob hv hq hr2 hO hcl hvl h1 hroom hpos hdd hob'
  have hcore := hs.core
  rw [List.nil_append] at hcore
  by_cases hz0 : n + m = 0
  ·have ht0 : tot = 0 := hpos.resolve_left (by omega)
   obtain rfl : n = 0 := by omega
   obtain rfl : m = 0 := by omega
   simp only [VR] at hv
   obtain ⟨a0, b0, c0, v1, v2, v3, v4, v5, v6⟩ := hv
   obtain ⟨rfl, rfl⟩ := v5 ht0
   obtain ⟨ao', cp', g2, w', k1, k2, k3, k4, k5, k6, k7, k8, k9, k10⟩ := FB (ty := o.type) (ao := none) (n := 0) (cp := 0) (vs := []) (us := us) (os := af s 0 a.tmps.toList) ht hu (.inr ⟨e', rfl⟩) hi1 hi4 hi2 hi3 hzs h0 hb0 (by simpa [recs] using hcore) (BH _ _ _ _) hr2.src (by omega)
   obtain ⟨rfl, rfl⟩ := k9 rfl rfl
   have hc2 : Core F g2 s.heap (af s 0 a.tmps.toList) w' := by simpa [recs] using k6
   have hc3 := ((hc2.U1 id).1).NH (ob := ob') 0 (hdd rfl)
   refine ⟨.slice none 0 0, ⟨g2.obj ++ [0], g2.len⟩, w', ?_, ?_, ?_, ⟨hs.size, fun t => ?_, ?_⟩, ⟨k4.cell, k4.ty, k4.bsz, k4.len, k4.frame, k4.size, k4.os, k4.tape, k4.output⟩⟩
   ·refine dC h hc ?_
    rw [hargs, hts]
    simp only [builtin, List.map_toArray, List.map_cons, List.map_nil, v1, hq, Sem.run_bind, k1, Result.andThen]
    rfl
   ·simp only [VR]
    refine ⟨none, 0, 0, rfl, Nat.le_refl _, Nat.le_refl _, ?_, fun _ => ⟨rfl, rfl⟩, fun h => by omega⟩
    rw [k5, hcore.heap.length]; simp
   ·rw [k5]; exact hpre.trans (List.prefix_append _ _)
   ·refine VR.ext (g' := ⟨g2.obj ++ [0], g2.len⟩) (⟨k3.cell, k3.ty, k3.bsz, k3.len, fun i b hi => ?_⟩) _ _ (hs.slots t)
    have := k3.obj i b hi
    simp only
    rw [List.getElem?_append_left (List.getElem?_eq_some_iff.1 this).1]; exact this
   ·have e0 : owns (.mo s.heap.length (0 + 0) (0 + 0) z) (.slice none 0 0) = [] := rfl
    rw [e0, List.nil_append]
    show Core F _ (s.heap.set id .gone ++ [ob']) (af ⟨s.slots, s.heap.set id .gone ++ [ob']⟩ 0 a.tmps.toList) w'
    rw [uQ s.slots _ s.heap]
    exact hc3
  have hpos : 0 < n + m := by omega
  obtain ⟨ao, cp, g1, e1, e2, e3, e4, e5, e6, e7, e8, e9⟩ := U4 hcore hob hO hcl hvl h1 hv
  obtain ⟨ao', cp', w', b', k1, k2, k3, k4⟩ := Oz (F := F) (nt := c.nt) (s := s) (g := g) (g1 := g1) (H := s.heap.set id .gone) (sl := s.slots) (ob := ob') (n := n) (ty := o.type) (cp := cp) (vs := vs.take (n * z)) (us := us) ht hu (.inr ⟨e', rfl⟩) hi1 hi4 hi2 hi3 hzs h0 hb0 hs.size
   hs.slots (by rw [uQ s.slots _ s.heap]; exact e5) e2 (by rw [uQ s.slots _ s.heap]; exact e6) (by rw [uQ s.slots _ s.heap]; exact e7) e8 hr2.src hroom hpos hob'
  rw [List.length_set] at k2
  have hown : owns (.mo s.heap.length (n + m) (n + m) z) (.slice ao' (n + m) cp') = [] := by cases ao' <;> rfl
  refine ⟨_, _, w', ?_, k2, hpre.trans (List.prefix_append _ _), by rw [hown]; exact k4, k3⟩
  refine dC h hc ?_
  rw [hargs, hts]
  simp only [builtin, List.map_toArray, List.map_cons, List.map_nil, e1, hq, Sem.run_bind, k1, Result.andThen]
  rfl
 simp only [AOp.run] at hr
 split at hr
 case h_2 => exact absurd hr (by simp)
 rename_i id n tot sz hv
 split at hr
 ·rename_i kd xs hob
  split at hr
  case h_2 => exact absurd hr (by simp)
  rename_i own2 km m hw
  obtain ⟨h1, hr2⟩ | ⟨_, hr2⟩ := ae hr
  case inr => exact absurd hr2 (by simp)
  obtain ⟨h2, hr3⟩ | ⟨_, hr3⟩ := ae hr2
  case inr => exact absurd hr3 (by simp)
  simp only [Bool.and_eq_true, Bool.or_eq_true, beq_iff_eq, Nat.beq_eq, decide_eq_true_eq] at h1 h2
  obtain ⟨⟨hz1, hz2⟩, rfl⟩ := h1
  obtain ⟨⟨rfl, h2b⟩, h2c⟩ := h2
  subst hz2
  subst hz1
  refine ⟨_, _, hr3, OpSem.run fun F g a w B hB hpre hs => ?_⟩
  have h3 := aj hs hx
  have h5 := aj hs hy
  rw [hv] at h3
  rw [hw] at h5
  simp only [VR] at h5
  obtain ⟨bo, mm, cq, e2, hr2⟩ := h5
  have hm : mm = m.length := by have := hr2.1; simp at this; exact this.symm
  subst hm
  exact key F g a w B _ _ id n xs.length _ bo cq (xs.map (Value.int kd)) _ own2 hpre hs hob h3 e2 hr2 (fun _ _ => rfl) Kw (by simp) (fun u hu => by obtain ⟨_, _, rfl⟩ := List.mem_map.1 hu; rfl) h2c h2b (fun h0 => by
   have e1 : (xs.take n ++ m) = [] := List.eq_nil_of_length_eq_zero (by rw [List.length_append, List.length_take]; omega)
   rw [e1]; rfl) (by rw [Nat.mul_one, ← List.map_take, ← List.map_append]; exact U2 _ _)
 ·rename_i sc els hob
  split at hr
  case h_2 => exact absurd hr (by simp)
  rename_i own2 sm m hw
  obtain ⟨h1, hr2⟩ | ⟨_, hr2⟩ := ae hr
  case inr => exact absurd hr2 (by simp)
  obtain ⟨h2, hr3⟩ | ⟨_, hr3⟩ := ae hr2
  case inr => exact absurd hr3 (by simp)
  simp only [Bool.and_eq_true, Bool.or_eq_true, beq_iff_eq, Nat.beq_eq, decide_eq_true_eq] at h1 h2
  obtain ⟨⟨hz1, hz2⟩, hz3⟩ := h1
  obtain ⟨⟨⟨rfl, h2b⟩, h2p⟩, h2c⟩ := h2
  subst hz1 hz2 hz3
  refine ⟨_, _, hr3, OpSem.run fun F g a w B hB hpre hs => ?_⟩
  have h3 := aj hs hx
  have h5 := aj hs hy
  rw [hv] at h3
  rw [hw] at h5
  have hpl : ∀ e ∈ els, e.length = z ∧ e.all AV.plain = true := by
   have h3' := h3
   simp only [VR] at h3'
   obtain ⟨_, b, _, _, _, _, hb, _⟩ := h3'
   exact Kz (aY hs.core.heap id b _ hob hb)
  simp only [VR] at h5
  obtain ⟨bo, mm, cq, us, e2, hr2, hm, hsz2, hus⟩ := h5
  subst hm
  have hplm := Oy h2p
  have hus' := Q6 (fun e he => (hplm e he).2) hus
  subst hus'
  exact key F g a w B _ _ id n els.length _ bo cq (fJ els) _ own2 hpre hs hob h3 e2 hr2 (fun _ _ => rfl) Ky (zB fun e he => (hpl e he).1) (G9 fun e he => (hpl e he).2) h2c h2b (fun h0 => by
   have e1 : (els.take n ++ m) = [] := List.eq_nil_of_length_eq_zero (by rw [List.length_append, List.length_take]; omega)
   rw [e1]; rfl) (by
   rw [BK n (fun e he => (hpl e he).1)]
   have : fJ (els.take n) ++ (m.flatMap fun e => e.map pv) = fJ (els.take n ++ m) := by unfold fJ; rw [List.flatMap_append]
   rw [this]
   exact XM fun e he => by
    rcases List.mem_append.1 he with he | he
    ·exact hpl e (List.mem_of_mem_take he)
    ·exact hplm e he)
 ·exact absurd hr (by simp)
theorem Qc {P : Program} {w : World} {b off m cq z : Nat} {us : List Value} {a : Option Addr} (ha : 0 < m → a = some ⟨b, off, none⟩) (hu : us.length = m * z) (h1 : ∀ u ∈ us, u.oneCell' = true) (hc : ∀ j, j < us.length → w.cell? ⟨b, off + j, none⟩ = us[j]?) : Src P w z (.slice a m cq) m us := by
 have hcell : ∀ w1 : World, (∀ b j, w1.cell? ⟨b, j, none⟩ = w.cell? ⟨b, j, none⟩) → (Builtin.firstCells z m (.slice a m cq)).run P w1 = .ok us.toArray w1 := by
  intro w1 hw1
  by_cases e0 : us = []
  ·subst e0
   have hm : m * z = 0 := by simpa using hu.symm
   cases a with
   | none => simp [Builtin.firstCells]
   | some a => simp [Builtin.firstCells, hm, loadCells, loadCellsFrom]
  ·have hp : 0 < m := by
    rcases Nat.eq_zero_or_pos m with e | e
    ·subst e; simp at hu; exact absurd hu e0
    ·exact e
   rw [ha hp]
   exact run_firstCells_some w1 z m ⟨b, off, none⟩ m cq us hu (fun j v hj => by
    have hlt : j < us.length := (List.getElem?_eq_some_iff.1 hj).1
    rw [zu _ rfl, hw1, hc j hlt, hj])
 exact ⟨by simp [Builtin.lenOf], hcell w (fun _ _ => rfl), hcell w.drew (fun _ _ => rfl), hu, h1⟩
theorem T9 {z bytes : Nat} {x y : AX} {p q : Operand} {t u e : TypeId} {zr : Value} {cl : Call} {e' : TypeId} (h : o.op = .call cl) (hc : cl.callee = .builtin .append) (hargs : cl.args = #[p, q]) (hts : cl.argTypes = #[t, u]) (ht : c.P.underlying t = some (.slice e)) (hu : c.P.underlying u = some (.slice e'))
 (hi : (c.P.info? e).map (fun i => (i.size, i.bytes, i.zero)) = some (z, bytes, some zr)) (hzs : zr.cells.size = z) (h0 : 0 < z) (hb0 : 0 < bytes) (hx : bA x p = true) (hy : bA y q = true) : bK c (.appendM z bytes x y) o := by
 obtain ⟨i, hi1, hi2⟩ := Option.map_eq_some_iff.1 hi
 injection hi2 with hi2 hi3
 injection hi3 with hi3 hi4
 intro s R k r hr
 have key : ∀ (F : Nat → Prop) (g : Gh) (a : Act) (w : World) (B : List Nat) (v : AV) (ao : Option Addr) (n m cp : Nat) (yv : Value) (vs us : List Value), B <+: g.obj → SimX F c.nt g (x.st s) a w (recs ao (n * z) (cp * z)) →
  a.eval p = .slice ao n cp → a.eval q = yv → Row g w true ao n cp z vs → Src c.P w z yv m us → (n + m) * bytes ≤ 140737488355328 →
  (∀ (g' : Gh) (w' : World) (ao' : Option Addr) (cp' : Nat), Ext g w g' w' → Row g' w' true ao' (n + m) cp' z (vs ++ us) → VR g' w' v (.slice ao' (n + m) cp') ∧ owns v (.slice ao' (n + m) cp') = recs ao' ((n + m) * z) (cp' * z)) →
  ∃ v' g' w', (execOp a.eval o).run c.P w = .ok (.value v') w' ∧ VR g' w' v v' ∧ B <+: g'.obj ∧ SimX F c.nt g' (x.st s) a w' (owns v v') ∧ Step F g w g' w' := by
  intro F g a w B v ao n m cp yv vs us hpre hs hp hq hr1 hsrc hroom hv
  obtain ⟨ao', cp', g', w', h1, h2, h3, h4, h5, h6⟩ := BJ (ty := o.type) ht hu (.inr ⟨e', rfl⟩) hi1 hi4 hi2 hi3 hzs h0 hb0 hs hr1 hsrc hroom
  obtain ⟨h7, h8⟩ := hv g' w' ao' cp' h3 h2
  refine ⟨_, g', w', ?_, h7, by rw [h5]; exact hpre, by rw [h8]; exact h6, h4⟩
  refine dC h hc ?_
  rw [hargs, hts]
  simp only [builtin, List.map_toArray, List.map_cons, List.map_nil, hp, hq, Sem.run_bind, h1, Result.andThen]
  rfl
 have hheap : (x.st s).heap = s.heap := by cases x <;> rfl
 have hsy : ∀ v, y.ev s = v → (∃ id off m sm, v = .mut id off m sm) → y.ev (x.st s) = v := by
  rintro v hv ⟨id, off, m, sm, rfl⟩
  cases x with
  | take t =>
   cases y with
   | cst c => exact hv
   | tmp u =>
    simp only [AX.ev, AX.st] at hv ⊢
    show disown (NJ ((t, disown (s.get t)) :: s.slots) u) = _
    simp only [NJ]
    by_cases e : t = u
    ·subst e
     simp only [beq_self_eq_true, cond_true]
     revert hv
     cases s.get t <;> simp [disown]
    ·simp only [show (t == u) = false by simpa using e, cond_false]; exact hv
   | take u =>
    simp only [AX.ev, AX.st] at hv ⊢
    show NJ ((t, disown (s.get t)) :: s.slots) u = _
    simp only [NJ]
    by_cases e : t = u
    ·subst e
     simp only [beq_self_eq_true, cond_true, hv, disown]
    ·simp only [show (t == u) = false by simpa using e, cond_false]; exact hv
  | _ => exact hv
 simp only [AOp.run] at hr
 split at hr
 case h_2 => exact absurd hr (by simp)
 rename_i id off m sm hw
 have hw' := hsy _ hw ⟨_, _, _, _, rfl⟩
 split at hr
 ·rename_i kd xs hob
  split at hr
  case h_2 => exact absurd hr (by simp)
  rename_i km l hv
  obtain ⟨h1, hr2⟩ | ⟨_, hr2⟩ := ae hr
  case inr => exact absurd hr2 (by simp)
  obtain ⟨h2, hr3⟩ | ⟨_, hr3⟩ := ae hr2
  case inr => exact absurd hr3 (by simp)
  simp only [Bool.and_eq_true, beq_iff_eq, decide_eq_true_eq] at h1 h2
  obtain ⟨⟨rfl, rfl⟩, h1c⟩ := h1
  refine ⟨_, _, hr3, OpSem.run fun F g a w B hB hpre hs => ?_⟩
  obtain ⟨h3, h4⟩ := AX.ok hs hx
  have h5 := aj h4 hy
  rw [hv] at h3 h4
  rw [hw'] at h5
  simp only [VR] at h3 h5
  obtain ⟨ao, n, cp, e1, hr1⟩ := h3
  obtain ⟨bo, b, cq, e2, hbo, hle, hb⟩ := h5
  have hn : n = l.length := by have := hr1.1; simp at this; exact this.symm
  subst hn
  have hobj := aY hs.core.heap id b _ hob hb
  rw [e1, qz, List.append_nil] at h4
  have hul : ((xs.drop off).take m).length = m := by simp; omega
  refine key F g a w B _ ao _ m cp _ _ (((xs.drop off).take m).map (Value.int kd)) hpre (by simpa using h4) e1 e2 hr1 (Qc hbo (by rw [List.length_map, hul, Nat.mul_one]) (fun u hu => by obtain ⟨_, _, rfl⟩ := List.mem_map.1 hu; rfl) (fun j hj => ?_)) h2 (fun g' w' ao' cp' he hrow => ⟨?_, ?_⟩)
  ·rw [List.length_map, hul] at hj
   obtain ⟨arr, tt, rest, hcw, ha⟩ := (Kw (g := g) (w := w) (kd := kd) (xs := xs) (by omega)).2 b hobj
   rw [hcw.cell]
   have : arr.toList[off + j]? = (xs.map (Value.int kd))[off + j]? := by rw [ha, List.getElem?_append_left (by simp; omega)]
   simp only [Array.getElem?_toList] at this
   rw [this]
   simp [List.getElem?_take, hj]
  ·simp only [VR]
   exact ⟨_, _, _, rfl, by rw [List.map_append]; exact hrow⟩
  ·rw [qz]
   simp only [List.length_append, hul, Nat.mul_one]
 ·rename_i sc els hob
  split at hr
  case h_2 => exact absurd hr (by simp)
  rename_i sz l hv
  obtain ⟨h1, hr2⟩ | ⟨_, hr2⟩ := ae hr
  case inr => exact absurd hr2 (by simp)
  obtain ⟨h2, hr3⟩ | ⟨_, hr3⟩ := ae hr2
  case inr => exact absurd hr3 (by simp)
  simp only [Bool.and_eq_true, beq_iff_eq, decide_eq_true_eq] at h1 h2
  obtain ⟨⟨⟨⟨q1, q2⟩, q3⟩, q4⟩, q5⟩ := h1
  subst q1 q2 q3
  generalize hd : off / z = d at *
  refine ⟨_, _, hr3, OpSem.run fun F g a w B hB hpre hs => ?_⟩
  obtain ⟨h3, h4⟩ := AX.ok hs hx
  have h5 := aj h4 hy
  rw [hv] at h3 h4
  rw [hw'] at h5
  simp only [VR] at h3 h5
  obtain ⟨ao, n, cp, vs, e1, hr1, hn, hsz1, hvs⟩ := h3
  obtain ⟨bo, b, cq, e2, hbo, hle, hb⟩ := h5
  subst hn
  have hobj := aY hs.core.heap id b _ hob hb
  have hpl := Kz hobj
  rw [e1, GU, List.append_nil] at h4
  have hlen : ∀ e ∈ (els.drop d).take m, e.length = z ∧ e.all AV.plain = true := fun e he => hpl e (List.mem_of_mem_drop (List.mem_of_mem_take he))
  have hul : ((els.drop d).take m).length = m := by simp; omega
  have hcl : (fJ ((els.drop d).take m)).length = m * z := by rw [zB fun e he => (hlen e he).1, hul]
  refine key F g a w B _ ao _ m cp _ _ (fJ ((els.drop d).take m)) hpre h4 e1 e2 hr1 (Qc hbo hcl (G9 fun e he => (hlen e he).2) (fun j hj => ?_)) h2 (fun g' w' ao' cp' he hrow => ⟨?_, ?_⟩)
  ·rw [hcl] at hj
   have hm0 : 0 < m := by rcases Nat.eq_zero_or_pos m with e | e; · subst e; simp at hj
                          ·exact e
   obtain ⟨arr, tt, rest, hcw, ha⟩ := (Ky (g := g) (w := w) (n := z) (els := els) (by omega)).2 b hobj
   rw [hcw.cell]
   have hle2 : (d + m) * z ≤ els.length * z := Nat.mul_le_mul_right _ q5
   rw [Nat.add_mul] at hle2
   have : arr.toList[off + j]? = (fJ els)[off + j]? := by rw [ha, List.getElem?_append_left (by rw [zB fun e he => (hpl e he).1]; omega)]
   simp only [Array.getElem?_toList] at this
   rw [this, ← BK m (fun e he => (hpl e (List.mem_of_mem_drop he)).1), ← J4 d (fun e he => (hpl e he).1), List.getElem?_take, if_pos hj, List.getElem?_drop, q4]
  ·simp only [VR]
   refine ⟨_, _, _, _, rfl, hrow, by rw [List.length_append, hul], ?_, (VRss.ext he _ _ hvs).append (Jz _ _ fun e he => (hlen e he).2)⟩
   intro e he
   rcases List.mem_append.1 he with h | h
   ·exact hsz1 e h
   ·refine ⟨(hlen e h).1, ?_⟩
    have : ∀ (cs : List AV), cs.all AV.plain = true → lq cs = true := by
     intro cs
     induction cs with
     | nil => intro _; rfl
     | cons a cs ih =>
      intro hh
      simp only [List.all_cons, Bool.and_eq_true] at hh
      have : vG a = true := by have := hh.1; cases a <;> simp [AV.plain] at this <;> rfl
      simp [lq, this, ih hh.2]
    exact this e (hlen e h).2
  ·rw [GU]
   simp only [List.length_append, hul]
 ·exact absurd hr (by simp)
theorem V7 {t : Nat} {s : St} {R : Type} {k : St → Option R} {r : R} (h : aac t s k = some r) : ∃ s', k s' = some r ∧ ∀ (F : Nat → Prop) (nt : Nat) (g : Gh) (a : Act) (w : World) (B : List Nat), B <+: g.obj → SimX F nt g s a w [] → ∃ g', B <+: g'.obj ∧ SimX F nt g' s' a w [] ∧ Step F g w g' w := by
 unfold aac at h
 split at h
 case h_2 => cases h
 rename_i id m tot sz hg
 have main : ∀ (ob : AObj) (v : AV) (z : Nat) (vs : List Value), s.heap[id]? = some ob → sz = z → (∀ w b, jo w b ob = []) → (∀ (g : Gh) (w : World) (b : Nat), ObjR g w b ob → (0 < tot → ob.dead = false ∧ ∀ b, ObjR g w b ob → ∃ arr t rest, CellsAt w b arr t ∧ arr.toList = vs ++ rest) ∧ vs.length = tot * z ∧ (∀ u ∈ vs, u.oneCell' = true) ∧ (∀ (g' : Gh) (w : World) (ao : Option Addr) (cp : Nat), m ≤ tot → Row g' w true ao m cp z (vs.take (m * z)) → VR g' w v (.slice ao m cp) ∧ owns v (.slice ao m cp) = recs ao (m * z) (cp * z))) →
  ∀ (F : Nat → Prop) (nt : Nat) (g : Gh) (a : Act) (w : World) (B : List Nat), B <+: g.obj → SimX F nt g s a w [] → ∃ g', B <+: g'.obj ∧ SimX F nt g' ⟨(t, v) :: s.slots, s.heap.set id .gone⟩ a w [] ∧ Step F g w g' w := by
  intro ob v z vs hob hsz hO hp F nt g a w B hpre hs
  subst hsz
  have hv := hs.slots t
  rw [hg] at hv
  have hcore := hs.core
  rw [List.nil_append] at hcore
  have hv' := hv
  simp only [VR] at hv'
  obtain ⟨_, b, _, _, _, _, hb, _⟩ := hv'
  obtain ⟨p1, p2, p3, p4⟩ := hp g w b (aY hcore.heap id b _ hob hb)
  obtain ⟨ao, cp, g1, e1, e2, e3, e4, e5, e6, e7, e8, e9⟩ := U4 hcore hob hO p1 p2 p3 hv
  obtain ⟨q1, q2⟩ := p4 g1 w ao cp e9 e8
  have hlt : t < nt := by
   rcases Nat.lt_or_ge t nt with h | h
   ·exact h
   ·have : a.tmps.getD t undef = undef := by
     rw [Array.getD_eq_getD_getElem?, Array.getElem?_eq_none (by rw [hs.size]; exact h)]; rfl
    rw [this] at e1
    cases e1
  have hsim : SimX F nt g1 ⟨s.slots, s.heap.set id .gone⟩ a w (owns v (a.tmps.getD t undef)) := ⟨hs.size, fun t' => VR.ext e3 _ _ (hs.slots t'), by rw [bC, e1, q2]; exact e6⟩
  have hput := hsim.put (by rw [e1]; exact q1) (some t) (fun t' h => by injection h with h; subst h; exact hlt)
  have ha : a.put (some t) (a.tmps.getD t undef) = a := by
   have : a.tmps.setIfInBounds t (a.tmps.getD t undef) = a.tmps := by
    apply Array.ext'
    have hl : t < a.tmps.size := by rw [hs.size]; exact hlt
    simp only [Array.toList_setIfInBounds]
    rw [Array.getD_eq_getD_getElem?, Array.getElem?_eq_getElem hl]
    apply List.ext_getElem?
    intro j
    by_cases e : t = j
    ·subst e; simp [hl]
    ·simp [List.getElem?_set, e]
   simp only [Act.put, this]
  rw [ha] at hput
  exact ⟨g1, by rw [e2]; exact hpre, hput, e4⟩
 split at h
 ·rename_i kd xs hob
  obtain ⟨h1, h2⟩ | ⟨_, h2⟩ := ae h
  case inr => cases h2
  simp only [Bool.and_eq_true, beq_iff_eq, decide_eq_true_eq] at h1
  refine ⟨_, h2, main _ _ 1 (xs.map (Value.int kd)) hob h1.1 (fun _ _ => rfl) fun g w b hR => ⟨by rw [h1.2]; exact Kw, by simp [h1.2], fun u hu => by obtain ⟨_, _, rfl⟩ := List.mem_map.1 hu; rfl, fun g' w' ao cp hm hrow => ⟨?_, ?_⟩⟩⟩
  ·simp only [VR]
   rw [Nat.mul_one, ← List.map_take] at hrow
   exact ⟨_, _, _, rfl, hrow⟩
  ·rw [qz]
   rw [List.length_take, ← h1.2, Nat.min_eq_left hm, Nat.mul_one, Nat.mul_one]
 ·rename_i sc els hob
  obtain ⟨h1, h2⟩ | ⟨_, h2⟩ := ae h
  case inr => cases h2
  simp only [Bool.and_eq_true, beq_iff_eq, decide_eq_true_eq] at h1
  refine ⟨_, h2, main _ _ sc (fJ els) hob h1.1 (fun _ _ => rfl) fun g w b hR => ?_⟩
  have hpl := Kz hR
  refine ⟨by rw [h1.2]; exact Ky, by rw [zB fun e he => (hpl e he).1, h1.2], G9 fun e he => (hpl e he).2, fun g' w' ao cp hm hrow => ⟨?_, ?_⟩⟩
  ·simp only [VR]
   rw [BK m fun e he => (hpl e he).1] at hrow
   refine ⟨_, _, _, _, rfl, hrow, by rw [List.length_take, ← h1.2]; exact Nat.min_eq_left hm, fun e he => ?_, Jz _ _ fun e he => (hpl e (List.mem_of_mem_take he)).2⟩
   have he := List.mem_of_mem_take he
   refine ⟨(hpl e he).1, ?_⟩
   have : ∀ (cs : List AV), cs.all AV.plain = true → lq cs = true := by
    intro cs
    induction cs with
    | nil => intro _; rfl
    | cons a cs ih =>
     intro hh
     simp only [List.all_cons, Bool.and_eq_true] at hh
     have : vG a = true := by have := hh.1; cases a <;> simp [AV.plain] at this <;> rfl
     simp [lq, this, ih hh.2]
   exact this e (hpl e he).2
  ·rw [GU, List.length_take, ← h1.2, Nat.min_eq_left hm]
 ·cases h
theorem Zj {t : Nat} {x : Ex} {cd : Code} (hx : Snd c x cd) : Snd c (aaK t x) cd := by
 intro s R k r h
 obtain ⟨s1, h1, h2⟩ := V7 h
 obtain ⟨e, s2, h3, h4⟩ := hx s1 R k r h1
 refine ⟨e, s2, h3, fun F g a w B hB hp hs ro dn hro => ?_⟩
 obtain ⟨g', q1, q2, q3⟩ := h2 F c.nt g a w B hp hs
 refine wpIn_mono (h4 F g' a w B hB q1 q2 ro dn hro) ?_
 rintro e' a' w' ⟨rfl, h5⟩
 exact ⟨rfl, h5.trans (fun _ h => h) q3 (Dfs.refl _ _ _ _)⟩
def XN : List Nat → Ex → Ex
 | [], x => x
 | t :: ts, x => aaK t (XN ts x)
theorem Si {x : Ex} {cd : Code} (hx : Snd c x cd) : ∀ ts : List Nat, Snd c (XN ts x) cd
 | [] => hx
 | t :: ts => Zj (Si hx ts)
def Q7 : Value → Bool
 | .agg vs => match vs.toList with
  | [.slice none 0 0, .int .i64 0, .int .i8 0] => true
  | _ => false
 | _ => false
theorem V8 {v : Value} (h : Q7 v = true) : v = .agg #[.slice none 0 0, .int .i64 0, .int .i8 0] := by
 unfold Q7 at h
 split at h
 ·rename_i vs
  split at h
  ·rename_i he
   congr 1
   apply Array.ext'
   simpa using he
  ·cases h
 ·cases h
theorem V9 {t : TypeId} {fs : Array Field} {zr : Value} (h : o.op = .build t #[]) (hd : c.P.underlying t = some (.struct fs)) (hz : (c.P.info? t).bind (·.zero) = some zr) {pl : List (Nat × Nat)} (hpl : placesOf c.P fs = some pl) (hf : Q7 zr = true) : bK c .buildB o := by
 intro s R k r hr
 simp only [AOp.run] at hr
 obtain ⟨i, hi1, hi2⟩ := Option.bind_eq_some_iff.1 hz
 have hzr := V8 hf
 refine ⟨_, _, hr, OpSem.run fun F g a w B _ hp hs => ?_⟩
 have hc := hs.core.NH (ob := .rowN .u8 []) 0 rfl
 have ext : Ext g w ⟨g.obj ++ [0], g.len⟩ w := ⟨fun _ _ _ => rfl, fun _ _ => rfl, fun _ => Nat.le_refl _, fun _ => Nat.le_refl _, fun i b hi => by
  simp only
  rw [List.getElem?_append_left (List.getElem?_eq_some_iff.1 hi).1]; exact hi⟩
 have hown : owns (.agg [.mo s.heap.length 0 0 1, .int .i64 0, .int .i8 0]) (.agg #[.slice none 0 0, .int .i64 0, .int .i8 0]) = [] := rfl
 refine ⟨.agg #[.slice none 0 0, .int .i64 0, .int .i8 0], ⟨g.obj ++ [0], g.len⟩, w, ?_, ?_, hp.trans (List.prefix_append _ _), ⟨hs.size, fun t => VR.ext ext _ _ (hs.slots t), ?_⟩, ⟨ext.cell, ext.ty, ext.bsz, ext.len, fun _ _ => ⟨rfl, rfl⟩, Nat.le_refl _, rfl, rfl, rfl⟩⟩
 ·simp only [execOp, h]
  refine aG (run_build w t _ _ ?_)
  unfold Program.built
  unfold placesOf at hpl
  rw [hi1, hd]
  simp only [hi2, hpl, hzr]
  simp [Instr.fill, Value.cells]
 ·simp only [VR]
  refine ⟨_, rfl, ?_⟩
  simp only [VRs, VR]
  refine ⟨_, _, rfl, ⟨none, 0, 0, rfl, Nat.le_refl _, Nat.le_refl _, ?_, fun _ => ⟨rfl, rfl⟩, fun h => by omega⟩, _, _, rfl, rfl, _, _, rfl, rfl, rfl⟩
  rw [hs.core.heap.length]; simp
 ·rw [bC, hown]
  exact hc
theorem Zk {t : TypeId} {p : Operand} {x : AX} (h : o.op = .box t p) (hx : bA x p = true) : bK c (.boxB t x) o := by
 intro s R k r hr
 simp only [AOp.run] at hr
 split at hr
 case h_2 => cases hr
 rename_i id hv
 refine ⟨_, _, hr, OpSem.run fun F g a w B hB hpre hs => ?_⟩
 have hp := aj hs hx
 rw [hv] at hp
 simp only [VR] at hp
 obtain ⟨vs, hp, hvs⟩ := hp
 simp only [VRs, VR] at hvs
 obtain ⟨v1, u1, e1, ⟨ao, b, cp, rfl, _, _, _, hnil, _⟩, v2, u2, rfl, rfl, v3, u3, rfl, rfl, rfl⟩ := hvs
 obtain ⟨rfl, rfl⟩ := hnil trivial
 have hcells : (a.eval p).cells = #[.slice none 0 0, .int .i64 0, .int .i8 0] := by
  rw [hp]
  apply Array.ext'
  simpa [Value.cells] using e1
 have hc := hs.core
 have hnew := heap_alloc_new w (.cells (a.eval p).cells t)
 rw [hcells] at hnew
 obtain ⟨g', e1, e2, e3, e4⟩ := Core.ND (os0 := []) (ob := .buf 1 t []) (w' := w.alloc (.cells (a.eval p).cells t)) hc (fun k hk => heap_alloc_old w _ (h := hk)) (by simp) rfl rfl rfl (by
  simp only [jo]
  rw [hcells, hnew]
  rfl)
  (fun g' _ => by
   simp only [ObjR]
   refine ⟨_, 0, by rw [hcells]; exact hnew, ?_, fun _ => rfl, fun a n c h => by injection h with _ _ h; omega⟩
   simp only [VR]
   exact ⟨none, 0, 0, rfl, BH _ _ _ _⟩)
 refine ⟨.pointer (some ⟨w.heap.size, 0, none⟩), g', w.alloc (.cells (a.eval p).cells t), ?_, ?_, by rw [e1]; exact hpre.trans (List.prefix_append _ _), ?_, e3⟩
 ·simp [execOp, h, Instr.box, newVar, newRow]
 ·simp only [VR]
  refine ⟨_, rfl, ?_⟩
  rw [e1, hs.core.heap.length]
  simp
 ·exact ⟨hs.size, fun t' => VR.ext e2 _ _ (hs.slots t'), by rw [bC]; exact e4⟩
end Go.Sh
namespace Go.Sh
open Go.RowKit
set_option linter.unusedSimpArgs false
set_option linter.unusedVariables false
variable {c : Cx} {o : Oper}
theorem Sj {t : TypeId} (h : o.op = .makeMap t none) : bK c .makeMapI o := by
 intro s R k r hr
 simp only [AOp.run] at hr
 refine ⟨_, _, hr, OpSem.run fun F g a w B hB hpre hs => ?_⟩
 have hc := hs.core
 obtain ⟨g', e1, e2, e3, e4⟩ := Core.ND (os0 := []) (ob := .mapI []) (w' := w.alloc (.map #[] 0)) hc (fun k hk => heap_alloc_old w _ (h := hk)) (by simp) rfl rfl rfl rfl
  (fun g' _ => by simp only [ObjR]; exact ⟨#[], 0, heap_alloc_new w _, by simp [MapKept.Stamped], rfl⟩)
 refine ⟨.map (some w.heap.size), g', w.alloc (.map #[] 0), ?_, ?_, by rw [e1]; exact hpre.trans (List.prefix_append _ _), ?_, e3⟩
 ·simp [execOp, h, run_makeMap]
 ·simp only [VR]
  refine ⟨_, rfl, ?_⟩
  rw [e1, hs.core.heap.length]
  simp
 ·exact ⟨hs.size, fun t' => VR.ext e2 _ _ (hs.slots t'), by rw [bC]; exact e4⟩
def pI (p : Int × Int) : Value × Value := (.int .i64 p.1, .int .i64 p.2)
def eI (e : MapEntry) : Value × Value := (e.key, e.val)
theorem ZY (a : Int) : ∀ (es : List (Int × Int)) (l : List MapEntry) (i : Nat), l.map eI = es.map pI →
 (∃ j e, l[j]? = some e ∧ e.key = .int .i64 a ∧ Instr.findNow (.int .i64) (.int .i64 a) l i = some (some (i + j, e.val)) ∧ ∀ b, yo es a b = es.set j (a, b)) ∨
 (Instr.findNow (.int .i64) (.int .i64 a) l i = some none ∧ (∀ b, yo es a b = es ++ [(a, b)]) ∧ ∀ e ∈ l, e.key ≠ .int .i64 a)
 | [], l, i, h => by
  have : l = [] := by simpa using h
  subst this
  exact .inr ⟨rfl, fun _ => rfl, by simp⟩
 | (x, y) :: es, l, i, h => by
  cases l with
  | nil => simp at h
  | cons e l =>
   simp only [List.map_cons, List.cons.injEq] at h
   obtain ⟨h1, h2⟩ := h
   have hk : e.key = .int .i64 x := congrArg Prod.fst h1
   by_cases hx : x = a
   ·subst hx
    refine .inl ⟨0, e, rfl, hk, ?_, fun b => ?_⟩
    ·simp [Instr.findNow, hk, Instr.sameNow]
    ·simp [yo]
   ·have hb : (x == a) = false := by simpa using hx
    have hf : ∀ q, Instr.findNow (.int .i64) (.int .i64 a) (e :: l) q = Instr.findNow (.int .i64) (.int .i64 a) l (q + 1) := fun q => by
     simp [Instr.findNow, hk, Instr.sameNow, hx, Ne.symm hx]
     try (simp only [show (a == x) = false by simpa using Ne.symm hx])
    rcases ZY a es l (i + 1) h2 with ⟨j, e', k1, k2, k3, k4⟩ | ⟨k1, k2, k3⟩
    ·refine .inl ⟨j + 1, e', by simpa using k1, k2, ?_, fun b => ?_⟩
     ·rw [hf, k3]; congr 3; omega
     ·simp only [yo, hb, cond_false, List.set_cons_succ, k4]
    ·refine .inr ⟨by rw [hf, k1], fun b => by simp only [yo, hb, cond_false, k2, List.cons_append], fun e' he' => ?_⟩
     rcases List.mem_cons.1 he' with rfl | he'
     ·rw [hk]; intro hh; injection hh with _ hh; exact hx hh
     ·exact k3 e' he'
theorem Sk {en : Array MapEntry} {cl j : Nat} {e : MapEntry} {v : Value} (h : MapKept.Stamped en cl) (hj : en[j]? = some e) : MapKept.Stamped (en.modify j fun e => { e with val := v }) cl := by
 have h1 : (en.modify j fun e => { e with val := v }).toList = en.toList.set j { e with val := v } := by
  apply List.ext_getElem?
  intro i
  rw [Array.getElem?_toList, Array.getElem?_modify, List.getElem?_set]
  by_cases hi : j = i
  ·subst hi
   obtain ⟨hjl, hje⟩ := Array.getElem?_eq_some_iff.1 hj
   simp [hj, hjl, hje]
  ·simp [hi]
 have hjl : j < en.toList.length := by simpa using (Array.getElem?_eq_some_iff.1 hj).1
 have hje : en.toList[j] = e := by
  have := (Array.getElem?_eq_some_iff.1 hj).2
  simpa using this
 obtain ⟨s1, s2, s3⟩ := h
 refine ⟨fun x hx => ?_, ?_, ?_⟩
 ·rw [h1] at hx
  rcases List.mem_or_eq_of_mem_set hx with hx | hx
  ·exact s1 x hx
  ·subst hx
   exact s1 e (by rw [← hje]; exact List.getElem_mem hjl)
 ·rw [h1, List.map_set]
  have : (en.toList.map (·.born)).set j e.born = en.toList.map (·.born) := by
   refine Eq.trans ?_ (List.set_getElem_self (show j < (en.toList.map (·.born)).length by simpa using hjl))
   simp [hje]
  simpa [this] using s2
 ·rw [h1, List.map_set]
  have : (en.toList.map (·.key)).set j e.key = en.toList.map (·.key) := by
   refine Eq.trans ?_ (List.set_getElem_self (show j < (en.toList.map (·.key)).length by simpa using hjl))
   simp [hje]
  simpa [this] using s3
theorem stamped_push {en : Array MapEntry} {cl : Nat} {k v : Value} (h : MapKept.Stamped en cl) (hk : ∀ e ∈ en.toList, e.key ≠ k) : MapKept.Stamped (en.push { key := k, val := v, born := cl }) (cl + 1) := by
 obtain ⟨s1, s2, s3⟩ := h
 refine ⟨fun x hx => ?_, ?_, ?_⟩
 ·rw [Array.toList_push] at hx
  rcases List.mem_append.1 hx with hx | hx
  ·have := s1 x hx; omega
  ·rw [List.mem_singleton.1 hx]; exact Nat.lt_succ_self _
 ·rw [Array.toList_push, List.map_append]
  refine List.nodup_append.2 ⟨s2, by simp, fun a ha b hb e => ?_⟩
  obtain ⟨x, hx, rfl⟩ := List.mem_map.1 ha
  simp at hb
  subst hb
  have := s1 x hx
  omega
 ·rw [Array.toList_push, List.map_append]
  refine List.nodup_append.2 ⟨s3, by simp, fun a ha b hb e => ?_⟩
  obtain ⟨x, hx, rfl⟩ := List.mem_map.1 ha
  simp at hb
  subst hb
  exact hk x hx e
theorem Ua {m key x : AX} {p q u : Operand} {t kt et : TypeId} (h : o.op = .insert t p q u ∨ o.op = .mapUpdate t p q u) (ht : c.P.underlying t = some (.map kt et)) (hk : c.P.underlying kt = some (.int .i64)) (hm : bA m p = true) (hx : bA key q = true) (hu : bA x u = true) : bK c (.mapPutI m key x) o := by
 intro s R k r hr
 simp only [AOp.run] at hr
 split at hr
 case h_2 => exact absurd hr (by simp)
 rename_i id hv
 split at hr
 case h_2 => exact absurd hr (by simp)
 rename_i es hob
 split at hr
 case h_2 => exact absurd hr (by simp)
 rename_i ka va hka hva
 obtain ⟨_, h2⟩ | ⟨_, h2⟩ := ae hr
 case inr => exact absurd h2 (by simp)
 refine ⟨_, _, h2, ?_⟩
 intro F g a w B hB hpre hs ro dn next Q hnext
 have hp := aj hs hm
 have hq := aj hs hx
 have hxu := aj hs hu
 rw [hv] at hp
 rw [hka] at hq
 rw [hva] at hxu
 simp only [VR] at hp hq hxu
 obtain ⟨b, hp, hb⟩ := hp
 have hobj := aY hs.core.heap id b _ hob hb
 simp only [ObjR] at hobj
 obtain ⟨en, cl, hw, hst, hes⟩ := hobj
 have hlt := (Array.getElem?_eq_some_iff.1 hw).1
 have hc := hs.core
 rw [List.nil_append] at hc
 have finish : ∀ (en' : Array MapEntry) (cl' : Nat), MapKept.Stamped en' cl' → (en'.toList.map fun e => (e.key, e.val)) = (yo es ka va).map (fun p => (Value.int .i64 p.1, Value.int .i64 p.2)) →
  (execOp a.eval o).run c.P w = .ok .skip { w with heap := w.heap.setIfInBounds b (.map en' cl') } → o.wpIn (fw ro) dn c.P a w next Q := by
  intro en' cl' hst' hes' hrun
  obtain ⟨e1, e2, e3⟩ := hc.NE (ob := .mapI es) (ob' := .mapI (yo es ka va)) (os0 := []) (os1 := []) (os' := af s 0 a.tmps.toList) (w' := { w with heap := w.heap.setIfInBounds b (.map en' cl') }) hob hb rfl (fun k hk => by simp [Array.getElem?_setIfInBounds_ne (Ne.symm hk)]) (by have h0 : mQ w b = 0 := (by unfold mQ; rw [hw]); rw [h0]; exact Nat.zero_le _) (by simp) rfl rfl rfl rfl rfl
   (fun ext => by simp only [ObjR]; exact ⟨en', cl', Array.getElem?_setIfInBounds_self_of_lt hlt, hst', hes'⟩) (fun x => Nat.le_refl _) (fun r hr => hr)
  refine K5 hrun (hnext undef g _ (by simp [VR]) hpre ?_ e2)
  refine ⟨hs.size, fun t' => VR.ext e1 _ _ (hs.slots t'), ?_⟩
  rw [bC, yu]
  exact e3
 have hkD : R5 (.int .i64) (.int .i64 ka) = true := rfl
 have run : ∀ (x0 : Option (Nat × Value)) (res : Obj), Instr.findNow (.int .i64) (a.eval q) en.toList 0 = some x0 →
  ((match x0 with
    | some (i, _) => do
     let key ← Instr.keyThatStays (((en[i]?).map (·.key)).getD (a.eval q)) (a.eval q)
     setObj b (.map (en.modify i fun e => { e with key, val := a.eval u }) cl)
    | none => setObj b (.map (en.push { key := a.eval q, val := a.eval u, born := cl }) (cl + 1)) : Sem Unit).run c.P w = .ok () { w with heap := w.heap.setIfInBounds b res }) →
  (execOp a.eval o).run c.P w = .ok .skip { w with heap := w.heap.setIfInBounds b res } := by
  intro x0 res hfn hres
  have hfk := Eo (P := c.P) hk hfn w
  have hmu : (Instr.mapUpdate t (a.eval p) (a.eval q) (a.eval u)).run c.P w = .ok () { w with heap := w.heap.setIfInBounds b res } := by
   rw [hp]
   simp only [Instr.mapUpdate, Sem.run_bind, run_underlying ht, Result.andThen, G6 hw, Ce hk hkD, hfk]
   exact hres
  rcases h with h | h <;> simp only [execOp, h, Sem.run_bind, hmu, Result.andThen, Sem.run_pure]
 rcases ZY ka es en.toList 0 hes with ⟨j, e, k1, k2, k3, k4⟩ | ⟨k1, k2, k3⟩
 ·have hej : en[j]? = some e := by simpa using k1
  refine finish (en.modify j fun e => { e with val := .int .i64 va }) cl (Sk hst hej) ?_ ?_
  ·have hmod : (en.modify j fun e => { e with val := Value.int .i64 va }).toList = en.toList.set j { e with val := .int .i64 va } := by
    apply List.ext_getElem?
    intro i
    rw [Array.getElem?_toList, Array.getElem?_modify, List.getElem?_set]
    by_cases hi : j = i
    ·subst hi
     obtain ⟨hjl, hje⟩ := Array.getElem?_eq_some_iff.1 hej
     simp [hej, hjl, hje]
    ·simp [hi]
   rw [hmod, k4, List.map_set, List.map_set, hes, k2]
  ·refine run _ _ (by rw [hq]; exact k3) ?_
   simp only [Nat.zero_add, hej, Option.map_some, Option.getD_some, k2, hq]
   have hks : (Instr.keyThatStays (Value.int .i64 ka) (Value.int .i64 ka)).run c.P w = .ok (Value.int .i64 ka) w := FI (int := true) (key := .int .i64 ka) (g := g) (w := w) rfl (by simp only [VR])
   simp only [Sem.run_bind, hks, Result.andThen, G7 hw, hxu]
   congr 3
   have : (en.modify j fun e => { e with key := Value.int .i64 ka, val := Value.int .i64 va }) = en.modify j fun e => { e with val := Value.int .i64 va } := by
    apply Array.ext'
    apply List.ext_getElem?
    intro i
    rw [Array.getElem?_toList, Array.getElem?_toList, Array.getElem?_modify, Array.getElem?_modify]
    by_cases hi : j = i
    ·subst hi
     simp [hej, k2]
    ·simp [hi]
   rw [this]
 ·refine finish (en.push { key := .int .i64 ka, val := .int .i64 va, born := cl }) (cl + 1) (stamped_push hst k3) ?_ ?_
  ·rw [Array.toList_push, List.map_append, hes, k2, List.map_append]; rfl
  ·refine run none _ (by rw [hq]; exact k1) ?_
   simp only [hq, hxu]
   exact G7 hw _
end Go.Sh
namespace Go.Sh
open Go.RowKit
set_option linter.unusedSimpArgs false
set_option linter.unusedVariables false
variable {c : Cx} {o : Oper}
def dL : AOp := .extract 0 (.cst .undef)
theorem Pp {m : Nat} (h : Nat.blt 0 m = true) : 0 < m := Nat.le_of_ble_eq_true h
def KA (P : Program) : Nat → TypeId → List TypeId
 | 0, _ => []
 | n + 1, t => match P.underlying t with
  | some (.struct fs) => fs.toList.flatMap fun f => KA P n f.type
  | some (.array m e) => (List.replicate m (KA P n e)).flatten
  | _ => [t]
def aaU (P : Program) (own : Bool) (t : TypeId) : Option AV := match P.underlying t with
 | some (.slice e) => match P.underlying e with
  | some (.int k) => some (.ints own k [])
  | some .string => some (.strs own [])
  | _ => some (.sl own (P.cellsOf e) [])
 | _ => none
def Zl (P : Program) (own : Bool) (t : TypeId) : Value → Option AV
 | .int k n => some (.int k n)
 | .bool b => some (.bool b)
 | .string s => some (.str s.data.toList)
 | .slice none 0 0 => aaU P own t
 | .pointer none => some (.ptr none)
 | .map none => some (.map none)
 | .nilFunc => some .nilFunc
 | .nilIface => some .nilIface
 | _ => none
def Q8 (P : Program) (own : Bool) : List TypeId → List Value → Option (List AV)
 | t :: ts, v :: vs => (Zl P own t v).bind fun a => (Q8 P own ts vs).map (a :: ·)
 | [], [] => some []
 | _, _ => none
def Zm (P : Program) (own : Bool) (t : TypeId) : Value → Option AV
 | .agg vs => (Q8 P own (KA P 8 t) vs.toList).map .agg
 | v => Zl P own t v
theorem Sl {P : Program} {own : Bool} {t : TypeId} {v : Value} {a : AV} (h : Zl P own t v = some a) : KZ a v = true := by
 unfold Zl at h
 split at h
 case h_4 =>
  unfold aaU at h
  split at h
  ·split at h <;> (injection h with h; subst h; rfl)
  ·cases h
 all_goals first | (injection h with h; subst h; simp [KZ]) | cases h
theorem IP {P : Program} {own : Bool} : ∀ {ts : List TypeId} {vs : List Value} {az : List AV}, Q8 P own ts vs = some az → K3 az vs = true
 | t :: ts, v :: vs, az, h => by
  simp only [Q8] at h
  obtain ⟨a, h1, h2⟩ := Option.bind_eq_some_iff.1 h
  obtain ⟨bs, h3, rfl⟩ := Option.map_eq_some_iff.1 h2
  simp [K3, Sl h1, IP h3]
 | [], [], az, h => by simp only [Q8] at h; injection h with h; subst h; rfl
 | [], _ :: _, _, h => by simp [Q8] at h
 | _ :: _, [], _, h => by simp [Q8] at h
theorem Sm {P : Program} {own : Bool} {t : TypeId} {v : Value} {a : AV} (h : Zm P own t v = some a) : KZ a v = true := by
 unfold Zm at h
 split at h
 ·obtain ⟨bs, h1, rfl⟩ := Option.map_eq_some_iff.1 h
  simp [KZ, IP h1]
 ·exact Sl h
def axO (P : Program) (own : Bool) (tk : List Nat) (t : TypeId) : Operand → Option AX
 | .tmp n => some (match tk with
  | [] => .tmp n
  | u :: us => cond ((u :: us).contains n) (.take n) (.tmp n))
 | .const v => (Zm P own t v).map .cst
 | .func f => some (.cst (.func (.func f) [] []))
 | .global _ => none
theorem JA {P : Program} {own : Bool} {tk : List Nat} {t : TypeId} {y : Operand} {x : AX} (h : axO P own tk t y = some x) : bA x y = true ∧ (tk = [] → x.free = true) := by
 unfold axO at h
 split at h
 ·injection h with h
  subst h
  cases tk with
  | nil => exact ⟨by simp [bA], fun _ => rfl⟩
  | cons u us =>
   refine ⟨?_, fun h => by cases h⟩
   simp only
   cases (u :: us).contains _ <;> simp [bA]
 ·obtain ⟨a, h1, rfl⟩ := Option.map_eq_some_iff.1 h
  exact ⟨by simp [bA, Sm h1], fun _ => rfl⟩
 ·injection h with h
  subst h
  exact ⟨by simp [bA], fun _ => rfl⟩
 ·cases h
def axK (P : Program) (own : Bool) (tk : List Nat) (t : TypeId) (y : Operand) (k : AX → AOp) : AOp := match axO P own tk t y with
 | some x => k x
 | none => dL
theorem dM {P : Program} {own : Bool} {tk : List Nat} {t : TypeId} {y : Operand} {k : AX → AOp} (h : ∀ x, bA x y = true → (tk = [] → x.free = true) → bK c (k x) o) : bK c (axK P own tk t y k) o := by
 unfold axK
 split
 ·rename_i x hx
  exact h x (JA hx).1 (JA hx).2
 ·exact bD
def aam (P : Program) : Option Operand → (Option AX → AOp) → AOp
 | none, k => k none
 | some y, k => axK P true [] 0 y fun x => k (some x)
theorem U5 {P : Program} {y : Option Operand} {k : Option AX → AOp} (h : ∀ x, TI x y = true → bK c (k x) o) : bK c (aam P y k) o := by
 cases y with
 | none => exact h none rfl
 | some y => exact dM fun x hx _ => h (some x) hx
def Ub (P : Program) (own : Bool) (tk : List Nat) : List TypeId → List Operand → Option (List AX)
 | t :: ts, y :: ys => (axO P own tk t y).bind fun x => (Ub P own tk ts ys).map (x :: ·)
 | _, [] => some []
 | [], _ :: _ => none
theorem Sn {P : Program} {own : Bool} {tk : List Nat} : ∀ {ts : List TypeId} {ys : List Operand} {xs : List AX}, Ub P own tk ts ys = some xs → wU xs ys = true
 | t :: ts, y :: ys, xs, h => by
  simp only [Ub] at h
  obtain ⟨a, h1, h2⟩ := Option.bind_eq_some_iff.1 h
  obtain ⟨bs, h3, rfl⟩ := Option.map_eq_some_iff.1 h2
  simp [wU, (JA h1).1, Sn h3]
 | [], [], xs, h => by simp only [Ub] at h; injection h with h; subst h; rfl
 | _ :: _, [], xs, h => by simp only [Ub] at h; injection h with h; subst h; rfl
 | [], _ :: _, _, h => by simp [Ub] at h
def Pq (P : Program) (own : Bool) (tk : List Nat) (ts : List TypeId) (ys : List Operand) (k : List AX → AOp) : AOp := match Ub P own tk ts ys with
 | some xs => k xs
 | none => dL
theorem FJ {P : Program} {own : Bool} {tk : List Nat} {ts : List TypeId} {ys : List Operand} {k : List AX → AOp} (h : ∀ xs, wU xs ys = true → bK c (k xs) o) : bK c (Pq P own tk ts ys k) o := by
 unfold Pq
 split
 ·rename_i x hx
  exact h x (Sn hx)
 ·exact bD
def tyK (P : Program) (t : TypeId) (k : TypeDesc → AOp) : AOp := match P.underlying t with
 | some d => k d
 | none => dL
theorem iQ {P : Program} {t : TypeId} {k : TypeDesc → AOp} (h : ∀ d, P.underlying t = some d → bK c (k d) o) : bK c (tyK P t k) o := by
 unfold tyK
 split
 ·rename_i d hd
  exact h d hd
 ·exact bD
def tiK (P : Program) (t : TypeId) (k : TypeInfo → AOp) : AOp := match P.info? t with
 | some d => k d
 | none => dL
theorem Bj {P : Program} {t : TypeId} {k : TypeInfo → AOp} (h : ∀ d, P.info? t = some d → bK c (k d) o) : bK c (tiK P t k) o := by
 unfold tiK
 split
 ·rename_i d hd
  exact h d hd
 ·exact bD
def gd (b : Bool) (p : AOp) : AOp := cond b p dL
theorem tN {b : Bool} {p : AOp} (h : b = true → bK c p o) : bK c (gd b p) o := by
 cases b
 ·exact bD
 ·exact h rfl
def opK {α : Type} (x : Option α) (k : α → AOp) : AOp := match x with
 | some a => k a
 | none => dL
theorem qb {α : Type} {x : Option α} {k : α → AOp} (h : ∀ a, x = some a → bK c (k a) o) : bK c (opK x k) o := by
 unfold opK
 split
 ·exact h _ rfl
 ·exact bD
def aaV (P : Program) (b : BinOp) (t : TypeId) (p q : Operand) (t' : TypeId) : AOp :=
 axK P true [] t p fun x => axK P true [] t' q fun y => tyK P t fun d => match d with
  | .bool => match b with
   | .eql => .eqB false x y
   | .neq => .eqB true x y
   | _ => dL
  | .struct fs => opK (VW P 8 t) fun sh => gd (!P.eqGuardType P.depth t) (match b with
   | .eql => .eqA false sh x y
   | .neq => .eqA true sh x y
   | _ => dL)
  | .interface ms => match q with
   | .const .nilIface => gd (P.isIface t) (match b with
    | .eql => .isNil false x
    | .neq => .isNil true x
    | _ => dL)
   | _ => dL
  | d => match q with
   | .const v0 => (match XF d v0 with
    | some kd => (match b with
     | .eql => .isNilP kd false x
     | .neq => .isNilP kd true x
     | _ => dL)
    | none => .bin b x y)
   | _ => .bin b x y
theorem Zn {b : BinOp} {t : TypeId} {p q : Operand} {t' : TypeId} (h : o.op = .binOp b t p q t') : bK c (aaV c.P b t p q t') o := by
 refine dM fun x hx _ => dM fun y hy _ => iQ fun d hd => ?_
 split
 ·split
  ·exact WY (neg := false) h hd hx hy
  ·exact WY (neg := true) h hd hx hy
  ·exact bD
 ·refine qb fun sh hsh => tN fun hg => ?_
  have hg' : c.P.eqGuardType c.P.depth t = false := by simpa using hg
  split
  ·exact XI (neg := false) h hsh (by decide) hd rfl hg' hx hy
  ·exact XI (neg := true) h hsh (by decide) hd rfl hg' hx hy
  ·exact bD
 ·split
  ·refine tN fun hg => ?_
   split
   ·exact R8 (neg := false) h hg hx
   ·exact R8 (neg := true) h hg hx
   ·exact bD
  ·exact bD
 ·split
  ·split
   ·rename_i hk
    split
    ·exact P5 (neg := false) h hd hk hx
    ·exact P5 (neg := true) h hd hk hx
    ·exact bD
   ·exact WX h hx hy
  ·exact WX h hx hy
def ZZ (P : Program) (tk : List Nat) (s d : TypeId) (p : Operand) : AOp :=
 axK P true tk s p fun x => tyK P s fun ds => tyK P d fun dd => match dd with
  | .int k => .conv k x
  | .string => match ds with
   | .string => .convS x
   | .slice e => tyK P e fun de => match de with
    | .int .u8 => .toStr x
    | _ => dL
   | .int _ => .rune x
   | _ => dL
  | .slice e => tyK P e fun de => match de with
   | .int .u8 => (match ds with
    | .slice _ => gd (Nat.beq s d) (.mark x)
    | _ => .toBytes x)
   | _ => dL
  | _ => dL
theorem XO {tk : List Nat} {s d : TypeId} {p : Operand} (h : o.op = .convert s d p) : bK c (ZZ c.P tk s d p) o := by
 refine dM fun x hx _ => iQ fun ds hs => iQ fun dd hd => ?_
 split
 ·exact YW h hs hd hx
 ·split
  ·exact WZ h hs hd hx
  ·refine iQ fun de he => ?_
   split
   ·exact Xd h hs he hd hx
   ·exact bD
  ·exact YX h hs hd hx
  ·exact bD
 ·refine iQ fun de he => ?_
  split
  ·split
   ·refine tN fun hg => ?_
    have hg := Nat.eq_of_beq_eq_true hg
    subst hg
    exact Zf h hd he hx
   ·exact TM h hs hd he hx
  ·exact bD
 ·exact bD
def U6 (P : Program) (t : TypeId) (p : Operand) (j : Nat) : AOp :=
 axK P true [] t p fun x => tyK P t fun d => match d with
  | .struct fs => opK fs[j]? fun f => tiK P f.type fun i => gd (Nat.blt 0 i.size) (.fieldA f.offset x)
  | _ => dL
theorem Uc {t : TypeId} {p : Operand} {j : Nat} (h : o.op = .fieldAddr t p j) : bK c (U6 c.P t p j) o := by
 refine dM fun x hx _ => iQ fun d hd => ?_
 split
 ·refine qb fun f hf => Bj fun i hi => tN fun h0 => ?_
  exact VD (z := i.size) h hd hf rfl (by rw [hi]; rfl) (Pp h0) hx
 ·exact bD
def U7 (P : Program) (t : TypeId) (p : Operand) (j : Nat) : AOp :=
 axK P true [] t p fun x => tyK P t fun d => match d with
  | .struct fs => opK fs[j]? fun f => tyK P f.type fun df => tiK P f.type fun i => gd (Nat.blt 0 i.size) (.field f.offset i.size (qZ df) x)
  | _ => dL
theorem Ud {t : TypeId} {p : Operand} {j : Nat} (h : o.op = .field t p j) : bK c (U7 c.P t p j) o := by
 refine dM fun x hx hf0 => iQ fun d hd => ?_
 split
 ·refine qb fun f hf => iQ fun df hdf => Bj fun i hi => tN fun h0 => ?_
  exact Xc h hd hf rfl hdf rfl (by rw [hi]; rfl) (Pp h0) hx (hf0 rfl)
 ·exact bD
def Z0 (P : Program) (tk : Bool) (t : TypeId) (p : Operand) : AOp :=
 axK P true [] t p fun x => tyK P t fun d => tiK P t fun i => match tk with
  | false => .load i.size (qZ d) x
  | true => gd (Nat.blt 0 i.size) (.loadT i.size (qZ d) x)
theorem XP {tk : Bool} {t : TypeId} {p : Operand} (h : o.op = .load t p) : bK c (Z0 c.P tk t p) o := by
 refine dM fun x hx _ => iQ fun d hd => Bj fun i hi => ?_
 cases tk with
 | false => exact YZ h hd rfl (by rw [hi]; rfl) hx
 | true => exact tN fun h0 => Xz h hd rfl (by rw [hi]; rfl) (Pp h0) hx
def XQ (P : Program) (own : Bool) (tk : List Nat) (t : TypeId) (p q : Operand) : AOp :=
 axK P true [] t p fun x => axK P own tk t q fun y => tiK P t fun i => .store i.size x y
theorem Wd {own : Bool} {tk : List Nat} {t : TypeId} {p q : Operand} (h : o.op = .store t p q) : bK c (XQ c.P own tk t p q) o :=
 dM fun x hx _ => dM fun y hy _ => Bj fun i hi => Xh h (by rw [hi]; rfl) hx hy
def aaW (P : Program) (tk : List Nat) (t : TypeId) (p : Operand) : AOp :=
 axK P true tk t p fun x => tiK P t fun i => .box t i.size x
theorem Zo {tk : List Nat} {t : TypeId} {p : Operand} (h : o.op = .box t p) : bK c (aaW c.P tk t p) o :=
 dM fun x hx _ => Bj fun i hi => aag h hx
def XR (P : Program) (t : TypeId) : AOp :=
 opK ((P.info? t).bind (·.zero)) fun z => opK (Q8 P true (KA P 8 t) z.cells.toList) fun l => .alloc t l
theorem We {t : TypeId} (h : o.op = .alloc t) : bK c (XR c.P t) o :=
 qb fun z hz => qb fun l hl => Xg h hz (IP hl)
def aaX (P : Program) (t : TypeId) : AOp :=
 opK ((P.info? t).bind (·.zero)) fun z => gd (Q4 z.cells.toList) (.allocO (.buf 0 t []))
theorem Zp {t : TypeId} (h : o.op = .alloc t) : bK c (aaX c.P t) o :=
 qb fun z hz => tN fun hg => V6 h hz hg
def shT (P : Program) (t : TypeId) : Option SH := match P.underlying t with
 | some (.int k) => some (.int k)
 | some .bool => some .bool
 | some .string => some .str
 | some (.slice e) => match P.underlying e with
  | some (.int k) => some (.ints k)
  | some .string => some .strs
  | _ => some (.sl (P.cellsOf e))
 | _ => none
def aan (P : Program) : List TypeId → Option (List SH)
 | [] => some []
 | t :: ts => (shT P t).bind fun s => (aan P ts).map (s :: ·)
def XT (P : Program) (t : TypeId) (p : Operand) : AOp :=
 axK P true [] t p fun x => tyK P t fun d => tiK P t fun i => opK (aan P (KA P 8 t)) fun sh => gd (Nat.blt 0 i.size && Nat.beq sh.length i.size) (.loadC sh i.size (qZ d) x)
theorem Wh {t : TypeId} {p : Operand} (h : o.op = .load t p) : bK c (XT c.P t p) o := by
 refine dM fun x hx _ => iQ fun d hd => Bj fun i hi => qb fun sh hsh => tN fun h0 => ?_
 rw [Bool.and_eq_true] at h0
 exact XE h hd rfl (by rw [hi]; rfl) (Nat.eq_of_beq_eq_true h0.2) (Pp h0.1) hx
def XU (P : Program) (t : TypeId) (p q : Operand) : AOp :=
 axK P true [] t p fun x => axK P true [] 0 q fun i => tyK P t fun d => match d with
  | .string => .idxS x i
  | .array m e => tyK P e fun de => gd (!qZ de) (opK (shT P e) fun sh => gd ((P.info? e).map (·.size) == some 1) (.idxG m sh x i))
  | _ => dL
theorem Wi {t : TypeId} {p q : Operand} (h : o.op = .index t p q) : bK c (XU c.P t p q) o := by
 refine dM fun x hx _ => dM fun i hi _ => iQ fun d hd => ?_
 split
 ·exact YY h hd hx hi
 ·refine iQ fun de hde => tN fun ha => qb fun sh hsh => tN fun hz => ?_
  exact Zd h hd hde (by simpa using ha) (by simpa using hz) hx hi
 ·exact bD
def aao : TypeDesc → Bool
 | .int _ | .string | .pointer _ => true
 | _ => false
def OA (P : Program) (t : TypeId) (p q : Operand) : AOp :=
 axK P true [] t p fun x => axK P true [] 0 q fun i => tyK P t fun d => match d with
  | .array n e => tiK P e fun ie => .idxP ie.size n x i
  | .slice e => tyK P e fun de => tiK P e fun ie => gd (Nat.blt 0 ie.size) (match aao de with
   | true => .idxA ie.size x i
   | false => opK (aan P (KA P 8 e)) fun sh => .idxT ie.size sh x i)
  | _ => dL
theorem Ps {t : TypeId} {p q : Operand} (h : o.op = .indexAddr t p q) : bK c (OA c.P t p q) o := by
 refine dM fun x hx _ => dM fun i hi _ => iQ fun d hd => ?_
 split
 ·exact Bj fun ie hie => Ze h hd (by rw [hie]; rfl) hx hi
 ·refine iQ fun de hde => Bj fun ie hie => tN fun h0 => ?_
  have h0' : 0 < ie.size := Pp h0
  split
  ·exact UM h hd (by rw [hie]; rfl) h0' hx hi
  ·exact qb fun sh hsh => Zc h hd (by rw [hie]; rfl) h0' hx hi
 ·exact bD
def XV (P : Program) (t : TypeId) (p : Operand) (l h : Option Operand) : AOp :=
 axK P true [] t p fun x => aam P l fun lo => aam P h fun hi => tyK P t fun d => match d with
  | .string => .sliceS x lo hi
  | .slice e => tiK P e fun ie => gd (Nat.blt 0 ie.size) (.slice ie.size x lo hi)
  | _ => dL
theorem Wj {t : TypeId} {p : Operand} {l h : Option Operand} (ho : o.op = .slice t p l h none) : bK c (XV c.P t p l h) o := by
 refine dM fun x hx _ => U5 fun lo hl => U5 fun hi hh => iQ fun d hd => ?_
 split
 ·exact VE ho hd hx hl hh
 ·exact Bj fun ie hie => tN fun h0 => ok_slice ho hd (by rw [hie]; rfl) (Pp h0) hx hl hh
 ·exact bD
def Zq {α : Type} : Nat → List (Nat × α) → Bool
 | _, [] => true
 | i, (j, _) :: l => Nat.beq i j && Zq (i + 1) l
theorem U8 {α : Type} : ∀ {l : List (Nat × α)} {i : Nat}, Zq i l = true → l = ((l.map (·.2)).zipIdx i).map fun x => (x.2, x.1)
 | [], _, _ => rfl
 | (j, a) :: l, i, h => by
  simp only [Zq, Bool.and_eq_true] at h
  have h1 := Nat.eq_of_beq_eq_true h.1
  subst h1
  have h2 := U8 h.2
  simp only [List.map_cons, List.zipIdx_cons]
  rw [← h2]
def aaY (P : Program) (t : TypeId) (n : Nat) (ps : List (Nat × Operand)) : AOp :=
 tyK P t fun d => match d with
  | .slice e => gd (Nat.beq n ps.length && Zq 0 ps) (tyK P e fun de => tiK P e fun ie => opK ie.zero fun z => Pq P true [] (List.replicate ps.length e) (ps.map (·.2)) fun xs =>
   gd (Nat.blt 0 ie.size && Nat.ble (ps.length * ie.size) 16777216) (match de with
    | .int k => gd (Nat.beq ie.size 1) (.litI k xs)
    | .string => gd (Nat.beq ie.size 1) (.litS xs)
    | .pointer _ => gd (Nat.beq ie.size 1) (.litP e xs)
    | _ => .litC ie.size xs))
  | _ => dL
theorem Zr {t : TypeId} {n : Nat} {ps : Array (Nat × Operand)} (h : o.op = .buildSlice t n ps) : bK c (aaY c.P t n ps.toList) o := by
 refine iQ fun d hd => ?_
 split
 case h_2 => exact bD
 rename_i e
 refine tN fun hn => iQ fun de hde => Bj fun ie hie => qb fun z hz => FJ fun xs hxs => tN fun hs => ?_
 simp only [Bool.and_eq_true] at hn hs
 have hn1 := Nat.eq_of_beq_eq_true hn.1
 have hn2 := U8 hn.2
 have hop : o.op = .buildSlice t (ps.toList.map (·.2)).length (Fh (ps.toList.map (·.2))).toArray := by
  rw [h]
  congr 1
  ·simp [hn1]
  ·apply Array.ext'
   simpa [Fh] using hn2
 have h0 : 0 < ie.size := Pp hs.1
 have hle : (ps.toList.map (·.2)).length * ie.size ≤ 16777216 := by simpa using Nat.le_of_ble_eq_true hs.2
 have hzz : ∀ m, Nat.beq ie.size m = true → (c.P.info? e).map (fun i => (i.size, i.zero)) = some (m, some z) := fun m hm => by
  rw [hie, ← Nat.eq_of_beq_eq_true hm, ← hz]; rfl
 have hle1 : (ps.toList.map (·.2)).length ≤ 16777216 := Nat.le_trans (Nat.le_mul_of_pos_right _ h0) hle
 split
 ·exact tN fun h1 => Y2 hop hd (hzz 1 h1) hle1 hxs
 ·exact tN fun h1 => Y3 hop hd (hzz 1 h1) hle1 hxs
 ·exact tN fun h1 => Y5 hop hd (hzz 1 h1) (by omega) hxs
 ·exact Y4 hop hd (hzz _ (Nat.beq_refl _)) h0 hle hxs
def XW : Operand → Operand → Bool
 | .tmp a, .tmp b => Nat.beq a b
 | .const (.int k a), .const (.int l b) => decide (k = l) && decide (a = b)
 | _, _ => false
theorem XX {p q : Operand} (h : XW p q = true) : p = q := by
 unfold XW at h
 split at h
 ·rw [Nat.eq_of_beq_eq_true h]
 ·simp only [Bool.and_eq_true, decide_eq_true_eq] at h
  rw [h.1, h.2]
 ·cases h
def Z4 (P : Program) (t : TypeId) (p q : Operand) : AOp :=
 gd (XW p q) (axK P true [] 0 p fun x => tyK P t fun d => match d with
  | .slice e => tiK P e fun ie => match ie.zero with
   | some (.int k z) => gd (decide (z = 0) && Nat.beq ie.size 1 && Nat.blt 0 ie.bytes) (.makeI k ie.bytes x)
   | _ => dL
  | _ => dL)
theorem XY {t : TypeId} {p q : Operand} (h : o.op = .makeSlice t p q) : bK c (Z4 c.P t p q) o := by
 refine tN fun hpq => dM fun x hx _ => iQ fun d hd => ?_
 have := XX hpq
 subst this
 split
 ·refine Bj fun ie hie => ?_
  split
  ·rename_i k z hz
   refine tN fun hg => ?_
   simp only [Bool.and_eq_true, decide_eq_true_eq] at hg
   obtain ⟨⟨rfl, h1⟩, h2⟩ := hg
   exact Xe h hd (by rw [hie]; simp only [Option.map_some, Nat.eq_of_beq_eq_true h1, hz]) (Pp h2) hx
  ·exact bD
 ·exact bD
def OC (P : Program) (tk : List Nat) (fs : List Field) (pl : List (Nat × Nat)) : List (Nat × Operand) → Option (List (Nat × Nat × AX))
 | [] => some []
 | (i, p) :: qs => (pl[i]?).bind fun q => (fs[i]?).bind fun f => (axO P true tk f.type p).bind fun x => (OC P tk fs pl qs).map ((q.1, q.2, x) :: ·)
theorem OD {P : Program} {tk : List Nat} {fs : List Field} {pl : List (Nat × Nat)} : ∀ {qs : List (Nat × Operand)} {ps : List (Nat × Nat × AX)}, OC P tk fs pl qs = some ps → Cc ps qs pl = true
 | [], ps, h => by simp only [OC] at h; injection h with h; subst h; rfl
 | (i, p) :: qs, ps, h => by
  simp only [OC] at h
  obtain ⟨q, h1, h2⟩ := Option.bind_eq_some_iff.1 h
  obtain ⟨f, h3, h4⟩ := Option.bind_eq_some_iff.1 h2
  obtain ⟨x, h5, h6⟩ := Option.bind_eq_some_iff.1 h4
  obtain ⟨r, h7, rfl⟩ := Option.map_eq_some_iff.1 h6
  simp [Cc, h1, (JA h5).1, OD h7]
def OE (P : Program) (tk : List Nat) (e : TypeId) (z : Nat) : List (Nat × Operand) → Option (List (Nat × Nat × AX))
 | [] => some []
 | (i, p) :: qs => (axO P true tk e p).bind fun x => (OE P tk e z qs).map ((i * z, z, x) :: ·)
theorem OG {P : Program} {tk : List Nat} {e : TypeId} {z : Nat} : ∀ {qs : List (Nat × Operand)} {ps : List (Nat × Nat × AX)}, OE P tk e z qs = some ps → yK z ps qs = true
 | [], ps, h => by simp only [OE] at h; injection h with h; subst h; rfl
 | (i, p) :: qs, ps, h => by
  simp only [OE] at h
  obtain ⟨x, h5, h6⟩ := Option.bind_eq_some_iff.1 h
  obtain ⟨r, h7, rfl⟩ := Option.map_eq_some_iff.1 h6
  simp [yK, (JA h5).1, OG h7]
def XZ (P : Program) (tk : List Nat) (t : TypeId) (qs : List (Nat × Operand)) : AOp :=
 tyK P t fun d => opK ((P.info? t).bind (·.zero)) fun z => opK (Q8 P true (KA P 8 t) z.cells.toList) fun l => match d with
  | .struct fs => opK (placesOf P fs) fun pl => opK (OC P tk fs.toList pl qs) fun ps => .build l ps
  | .array m e => tiK P e fun ie => opK (OE P tk e ie.size qs) fun ps => .build l ps
  | _ => dL
theorem Wl {tk : List Nat} {t : TypeId} {qs : Array (Nat × Operand)} (h : o.op = .build t qs) : bK c (XZ c.P tk t qs.toList) o := by
 have h' : o.op = .build t qs.toList.toArray := by rw [h]
 refine iQ fun d hd => qb fun z hz => qb fun l hl => ?_
 split
 ·exact qb fun pl hpl => qb fun ps hps => XA h' hd hz hpl (IP hl) (OD hps)
 ·exact Bj fun ie hie => qb fun ps hps => VV h' hd hz (by rw [hie]; rfl) (IP hl) (OG hps)
 ·exact bD
def keyD? : TypeDesc → Option Bool
 | .int _ => some true
 | .string => some false
 | _ => none
theorem keyD?_ok {d : TypeDesc} {b : Bool} (h : keyD? d = some b) : XC b d = true := by
 unfold keyD? at h
 split at h
 ·injection h with h; subst h; rfl
 ·injection h with h; subst h; rfl
 ·cases h
def aap (P : Program) (t : TypeId) (m k v : Operand) : AOp :=
 tyK P t fun d => match d with
  | .map kt et => tyK P kt fun dk => opK (keyD? dk) fun b => axK P true [] t m fun x => axK P true [] kt k fun y => axK P true [] et v fun z => .mapPut b x y z
  | _ => dL
theorem U9 {t : TypeId} {m k v : Operand} (h : o.op = .insert t m k v ∨ o.op = .mapUpdate t m k v) : bK c (aap c.P t m k v) o := by
 refine iQ fun d hd => ?_
 split
 ·exact iQ fun dk hk => qb fun b hb => dM fun x hx _ => dM fun y hy _ => dM fun z hz _ => VQ h hd hk (keyD?_ok hb) hx hy hz
 ·exact bD
def X0 (P : Program) (t : TypeId) (m k v : Operand) : AOp :=
 tyK P t fun d => match d with
  | .map kt et => tyK P kt fun dk => match dk with
   | .int .i64 => axK P true [] t m fun x => axK P true [] kt k fun y => axK P true [] et v fun z => .mapPutI x y z
   | _ => dL
  | _ => dL
theorem Sq {t : TypeId} {m k v : Operand} (h : o.op = .insert t m k v ∨ o.op = .mapUpdate t m k v) : bK c (X0 c.P t m k v) o := by
 refine iQ fun d hd => ?_
 split
 ·refine iQ fun dk hk => ?_
  split
  ·exact dM fun x hx _ => dM fun y hy _ => dM fun z hz _ => Ua h hd hk hx hy hz
  ·exact bD
 ·exact bD
def Z5 (P : Program) (t : TypeId) (m k : Operand) (ok : Bool) : AOp :=
 tyK P t fun d => match d with
  | .map kt et => tyK P kt fun dk => opK (keyD? dk) fun b => opK ((P.info? et).bind (·.zero)) fun z => opK (Zm P true et z) fun zv => axK P true [] t m fun x => axK P true [] kt k fun y => .lookup b ok zv x y
  | _ => dL
theorem X3 {t : TypeId} {m k : Operand} {ok : Bool} (h : o.op = .lookup t m k ok) : bK c (Z5 c.P t m k ok) o := by
 refine iQ fun d hd => ?_
 split
 ·exact iQ fun dk hk => qb fun b hb => qb fun z hz => qb fun zv hzv => dM fun x hx _ => dM fun y hy _ => VP h hd hk (keyD?_ok hb) hz (Sm hzv) hx hy
 ·exact bD
inductive HO where
 | no
 | tk (l : List Nat)
 | lt
 | lc
 | cl (f : FuncId) (sp : FSpec)
 | cy (key : Nat) (sp : FSpec)
 | bf (kind : Nat)
 | nl (sh : Option IntKind) (z : Nat)
 | an (l : List Nat)
 | ao
 | am (l : List Nat)
 | az (v : TypeId) (l : List Nat)
 | bb
 | nn
 | mi
 | raw (p : AOp)
def HO.tks : HO → List Nat
 | .tk l => l
 | .an l => l
 | .am l => l
 | .az _ l => l
 | _ => []
def HO.own : HO → Bool
 | .nn => false
 | _ => true
def HO.isLt : HO → Bool
 | .lt => true
 | _ => false
def HO.OK (c : Cx) (o : Oper) : HO → Prop
 | .cl f sp => FSound c.P f sp
 | .cy key sp => RSound c.P key sp
 | .raw p => bK c p o
 | _ => True
def X4 (P : Program) (h : HO) (cl : Call) : AOp := match cl.callee with
 | .builtin .len => match cl.args.toList, cl.argTypes.toList with
  | [p], [t] => axK P true [] t p fun x => tyK P t fun d => match d with
   | .slice _ => .len x
   | .string => .lenS x
   | _ => dL
  | _, _ => dL
 | .builtin .append => match cl.args.toList, cl.argTypes.toList with
  | [p, q], [t, u] => axK P true h.tks t p fun x => axK P true [] u q fun y => tyK P t fun d => match d with
   | .slice e => tiK P e fun ie => opK ie.zero fun z => gd (Nat.blt 0 ie.size && Nat.blt 0 ie.bytes && Nat.beq z.cells.size ie.size) (tyK P u fun du => match du with
    | .slice _ => (match h with
     | .an _ => .appendN ie.size ie.bytes x y
     | .ao => .appendO ie.size ie.bytes x y
     | .am _ => .appendM ie.size ie.bytes x y
     | _ => .append ie.size ie.bytes x y)
    | .string => gd (Nat.beq ie.size 1) (.appendS ie.bytes x y)
    | .int _ => (match h, z with
     | .az v _, .int .u8 0 => tyK P v fun dv => match dv with
      | .string => .appendZ ie.bytes x y
      | _ => dL
     | _, _ => dL)
    | _ => dL)
   | _ => dL
  | _, _ => dL
 | .builtin .max => match cl.args.toList with
  | [p, q] => axK P true [] (cl.argTypes.getD 0 0) p fun x => axK P true [] (cl.argTypes.getD 0 0) q fun y => .minmax true x y
  | ps => Pq P true [] cl.argTypes.toList ps fun xs => tyK P (cl.argTypes.getD 0 0) fun d => match d with
   | .int kd => .minmaxs true kd xs
   | _ => dL
 | .builtin .min => match cl.args.toList with
  | [p, q] => axK P true [] (cl.argTypes.getD 0 0) p fun x => axK P true [] (cl.argTypes.getD 0 0) q fun y => .minmax false x y
  | ps => Pq P true [] cl.argTypes.toList ps fun xs => tyK P (cl.argTypes.getD 0 0) fun d => match d with
   | .int kd => .minmaxs false kd xs
   | _ => dL
 | .value (.func f) => match h with
  | .cl g sp => gd (Nat.beq f g) (Pq P false [] cl.argTypes.toList cl.args.toList fun xs => .call sp g xs)
  | _ => dL
 | .value fv => match h with
  | .cl g sp => axK P true [] 0 fv fun x => Pq P false [] cl.argTypes.toList cl.args.toList fun xs => .callV sp g x xs
  | .cy key sp => gd (Nat.beq cl.args.toList.length (RA key).length) (axK P true [] 0 fv fun x => Pq P false [] cl.argTypes.toList cl.args.toList fun xs => .callY sp key x xs)
  | _ => dL
 | _ => dL
theorem uU {α : Type} {a : Array α} {l : List α} (h : a.toList = l) : a = l.toArray := by rw [← h]
theorem X5 {h : HO} {cl : Call} (ho : o.op = .call cl) (hh : h.OK c o) : bK c (X4 c.P h cl) o := by
 unfold X4
 split
 ·rename_i hc
  split
  ·rename_i p t h1 h2
   refine dM fun x hx _ => iQ fun d hd => ?_
   split
   ·exact aaf ho hc (uU h1) (uU h2) hd hx
   ·exact Y0 ho hc (uU h1) (uU h2) hd hx
   ·exact bD
  ·exact bD
 ·rename_i hc
  split
  ·rename_i p q t u h1 h2
   refine dM fun x hx _ => dM fun y hy hf => iQ fun d hd => ?_
   split
   ·refine Bj fun ie hie => qb fun z hz => tN fun hg => iQ fun du hdu => ?_
    simp only [Bool.and_eq_true] at hg
    obtain ⟨⟨g1, g2⟩, g3⟩ := hg
    have g1' : 0 < ie.size := Pp g1
    have g2' : 0 < ie.bytes := Pp g2
    have g3' := Nat.eq_of_beq_eq_true g3
    split
    ·split
     ·exact TY ho hc (uU h1) (uU h2) hd hdu (by rw [hie, ← hz]; rfl) g3' g1' g2' hx hy
     ·exact TZ ho hc (uU h1) (uU h2) hd hdu (by rw [hie, ← hz]; rfl) g3' g1' g2' hx hy
     ·exact T9 ho hc (uU h1) (uU h2) hd hdu (by rw [hie, ← hz]; rfl) g3' g1' g2' hx hy
     ·exact VH ho hc (uU h1) (uU h2) hd hdu (by rw [hie, ← hz]; rfl) g3' g1' g2' hx hy (hf rfl)
    ·refine tN fun g4 => ?_
     have g4' := Nat.eq_of_beq_eq_true g4
     exact TK ho hc (uU h1) (uU h2) hd hdu (by rw [hie, ← hz, ← g4']; rfl) (by rw [g3', g4']) g2' hx hy
    ·split
     ·rename_i v l
      refine iQ fun dv hdv => ?_
      split
      ·have e1 : ie.size = 1 := by rw [← g3']; rfl
       exact TL ho hc (uU h1) (uU h2) hd hdu hdv (by rw [hie]; simp only [Option.map_some]; rw [e1, hz]) g2' hx hy
      ·exact bD
     ·exact bD
    ·exact bD
   ·exact bD
  ·exact bD
 ·rename_i hc
  split
  ·rename_i p q h1
   exact dM fun x hx _ => dM fun y hy _ => PG (mx := true) ho hc (uU h1) hx hy
  ·refine FJ fun xs hxs => iQ fun d hd => ?_
   split
   ·exact N7 (mx := true) ho hc (by simp) hxs
   ·exact bD
 ·rename_i hc
  split
  ·rename_i p q h1
   exact dM fun x hx _ => dM fun y hy _ => PG (mx := false) ho hc (uU h1) hx hy
  ·refine FJ fun xs hxs => iQ fun d hd => ?_
   split
   ·exact N7 (mx := false) ho hc (by simp) hxs
   ·exact bD
 ·rename_i f hc
  split
  ·refine tN fun hg => FJ fun xs hxs => ?_
   have := Nat.eq_of_beq_eq_true hg
   subst this
   exact Y7 ho hc (by simp) hh hxs
  ·exact bD
 ·rename_i fv _ hc
  split
  ·exact dM fun x hx hf => FJ fun xs hxs => Xi ho hc (by simp) hh hx (hf rfl) hxs
  ·refine tN fun hg => dM fun x hx hf => FJ fun xs hxs => ?_
   exact XJ ho hc (by simp) hh (by rw [← RB]; exact Nat.eq_of_beq_eq_true hg) hx hxs
  ·exact bD
 ·exact bD
def Q9 : Operand → Bool
 | .const (.slice none 0 0) => true
 | _ => false
theorem Qd {y : Operand} (h : Q9 y = true) : y = .const (.slice none 0 0) := by
 unfold Q9 at h
 split at h
 ·rfl
 ·cases h
def MF (P : Program) (t : TypeId) (qs : List (Nat × Operand)) : AOp := match qs with
 | [] => tyK P t fun d => match d with
  | .struct fs => opK ((P.info? t).bind (·.zero)) fun z => opK (placesOf P fs) fun pl => gd (Q7 z) .buildB
  | _ => dL
 | _ => dL
theorem Ra {t : TypeId} {qs : Array (Nat × Operand)} (h : o.op = .build t qs) : bK c (MF c.P t qs.toList) o := by
 unfold MF
 split
 ·rename_i he
  have : qs = #[] := by apply Array.ext'; simpa using he
  subst this
  refine iQ fun d hd => ?_
  split
  ·exact qb fun z hz => qb fun pl hpl => tN fun hg => V9 h hd hz hpl hg
  ·exact bD
 ·exact bD
def opA (P : Program) (h : HO) (o : Oper) : AOp := match h with
 | .raw p => p
 | h => match o.op with
  | .move y => (match h with | .nl sh z => gd (Q9 y) (.nilO sh z) | h => axK P h.own h.tks o.type y .mv)
  | .assign y => (match h with | .nl sh z => gd (Q9 y) (.nilO sh z) | h => axK P h.own h.tks o.type y .mv)
  | .nilCheck y => axK P true [] 0 y .chk
  | .pick a b e => axK P true [] 0 a fun x => axK P true [] o.type b fun y => axK P true [] o.type e fun z => .pick x y z
  | .binOp b t p q t' => aaV P b t p q t'
  | .unOp b t p => axK P true [] t p fun x => .un b x
  | .convert s d p => ZZ P h.tks s d p
  | .extract y i => axK P true h.tks 0 y fun x => .extract i x
  | .fieldAddr t p j => U6 P t p j
  | .field t p j => U7 P t p j
  | .load t p => (match h with | .lc => XT P t p | _ => Z0 P h.isLt t p)
  | .store t p q => XQ P h.own h.tks t p q
  | .box t p => (match h with | .bb => axK P true [] t p fun x => .boxB t x | h => aaW P h.tks t p)
  | .alloc t => (match h with | .bf _ => aaX P t | _ => XR P t)
  | .index t p q => XU P t p q
  | .indexAddr t p q => OA P t p q
  | .slice t p l u none => XV P t p l u
  | .buildSlice t n ps => aaY P t n ps.toList
  | .makeSlice t p q => Z4 P t p q
  | .build t ps => (match h with | .bb => MF P t ps.toList | h => XZ P h.tks t ps.toList)
  | .makeMap t none => (match h with | .mi => .makeMapI | _ => .makeMap)
  | .insert t m k v => (match h with | .mi => X0 P t m k v | _ => aap P t m k v)
  | .mapUpdate t m k v => (match h with | .mi => X0 P t m k v | _ => aap P t m k v)
  | .lookup t m k ok => Z5 P t m k ok
  | .makeFunc fn fs cs => Pq P true [] (List.replicate fs.size 0) fs.toList fun ys => Pq P true [] (List.replicate cs.size 0) cs.toList fun xs => .mkFunc fn ys xs
  | .call cl => X4 P h cl
  | _ => dL
theorem X6 {h : HO} (hh : h.OK c o) : bK c (opA c.P h o) o := by
 unfold opA
 split
 ·exact hh
 ·split
  ·rename_i ho
   split
   ·exact tN fun hg => U3 (.inl (by rw [ho, Qd hg]))
   ·exact dM fun x hx _ => ZV (.inl ho) hx
  ·rename_i ho
   split
   ·exact tN fun hg => U3 (.inr (by rw [ho, Qd hg]))
   ·exact dM fun x hx _ => ZV (.inr ho) hx
  ·rename_i ho; exact dM fun x hx _ => aad ho hx
  ·rename_i ho; exact dM fun x hx _ => dM fun y hy _ => dM fun z hz _ => YU ho hx hy hz
  ·rename_i ho; exact Zn ho
  ·rename_i ho; exact dM fun x hx _ => aaP ho hx
  ·rename_i ho; exact XO ho
  ·rename_i ho; exact dM fun x hx _ => TJ ho hx
  ·rename_i ho; exact Uc ho
  ·rename_i ho; exact Ud ho
  ·rename_i ho
   split
   ·exact Wh ho
   ·exact XP ho
  ·rename_i ho; exact Wd ho
  ·rename_i ho
   split
   ·exact dM fun x hx _ => Zk ho hx
   ·exact Zo ho
  ·rename_i ho
   split
   ·exact Zp ho
   ·exact We ho
  ·rename_i ho; exact Wi ho
  ·rename_i ho; exact Ps ho
  ·rename_i ho; exact Wj ho
  ·rename_i ho; exact Zr ho
  ·rename_i ho; exact XY ho
  ·rename_i ho
   split
   ·exact Ra ho
   ·exact Wl ho
  ·rename_i ho
   split
   ·exact Sj ho
   ·exact TT ho
  ·rename_i ho
   split
   ·exact Sq (.inl ho)
   ·exact U9 (.inl ho)
  ·rename_i ho
   split
   ·exact Sq (.inr ho)
   ·exact U9 (.inr ho)
  ·rename_i ho; exact X3 ho
  ·rename_i fn fs cs ho
   exact FJ fun ys hys => FJ fun xs hxs => VG (by simpa using ho) hys hxs
  ·rename_i cl ho; exact X5 ho hh
  ·exact bD
end Go.Sh
namespace Go.Sh
theorem JB {α β : Type} (b : Bool) (x y : Option α) (f : α → Option β) : (cond b x y).bind f = cond b (x.bind f) (y.bind f) := by cases b <;> rfl
theorem Wm {α β γ δ : Type} (f : α → Option γ) (g : β → Option γ) (o : α ⊕ β) (J : γ → Option δ) : (Sum.elim f g o).bind J = Sum.elim (fun u => (f u).bind J) (fun v => (g v).bind J) o := by cases o <;> rfl
theorem X7 {α β : Type} (l : List AV) (k : AV → List AV → Option α) (J : α → Option β) : (unc l k).bind J = unc l fun c r => (k c r).bind J := by cases l <;> rfl
theorem X8 {α β : Type} (l : List AV) (k : Option α) (J : α → Option β) : (unn l k).bind J = unn l (k.bind J) := by cases l <;> rfl
theorem Wn {α β : Type} (kd : IntKind) (a : AV) (k : Int → Option α) (J : α → Option β) : (xn kd a k).bind J = xn kd a fun n => (k n).bind J := by
 unfold xn
 split
 ·rw [JB]; rfl
 ·rfl
theorem Wo {α β : Type} (a : AV) (k : Bool → Option α) (J : α → Option β) : (zf a k).bind J = zf a fun n => (k n).bind J := by
 unfold zf
 split <;> rfl
theorem Wp {α β : Type} (a : AV) (k : Str → Option α) (J : α → Option β) : (zg a k).bind J = zg a fun n => (k n).bind J := by
 unfold zg
 split <;> rfl
theorem Ue {α β : Type} (kd : IntKind) (a : AV) (k : List Int → Option α) (J : α → Option β) : (NM kd a k).bind J = NM kd a fun n => (k n).bind J := by
 unfold NM
 split
 ·rw [JB]; rfl
 ·rfl
theorem Uf {α β : Type} (a : AV) (k : List Str → Option α) (J : α → Option β) : (NN a k).bind J = NN a fun n => (k n).bind J := by
 unfold NN
 split <;> rfl
theorem Ug {α β : Type} (m : Nat) (a : AV) (k : List (List AV) → Option α) (J : α → Option β) : (NP m a k).bind J = NP m a fun n => (k n).bind J := by
 unfold NP
 split
 ·rw [JB]; rfl
 ·rfl
theorem aD : (∀ (α β : Type) (b : Bool) (x y : Option α) (f : α → Option β), (cond b x y).bind f = cond b (x.bind f) (y.bind f)) ∧
 (∀ (α β γ : Type) (x : Option α) (f : α → Option β) (g : β → Option γ), (x.bind f).bind g = x.bind fun y => (f y).bind g) ∧
 (∀ (α β : Type) (f : α → Option β), (none : Option α).bind f = none) ∧
 (∀ (α β γ δ : Type) (f : α → Option γ) (g : β → Option γ) (o : α ⊕ β) (J : γ → Option δ), (Sum.elim f g o).bind J = Sum.elim (fun u => (f u).bind J) (fun v => (g v).bind J) o) ∧
 (∀ (α β : Type) (l : List AV) (k : AV → List AV → Option α) (J : α → Option β), (unc l k).bind J = unc l fun c r => (k c r).bind J) ∧
 (∀ (α β : Type) (l : List AV) (k : Option α) (J : α → Option β), (unn l k).bind J = unn l (k.bind J)) ∧
 (∀ (α β : Type) (kd : IntKind) (a : AV) (k : Int → Option α) (J : α → Option β), (xn kd a k).bind J = xn kd a fun n => (k n).bind J) ∧
 (∀ (α β : Type) (a : AV) (k : Bool → Option α) (J : α → Option β), (zf a k).bind J = zf a fun n => (k n).bind J) ∧
 (∀ (α β : Type) (a : AV) (k : Str → Option α) (J : α → Option β), (zg a k).bind J = zg a fun n => (k n).bind J) ∧
 (∀ (α β : Type) (kd : IntKind) (a : AV) (k : List Int → Option α) (J : α → Option β), (NM kd a k).bind J = NM kd a fun n => (k n).bind J) ∧
 (∀ (α β : Type) (a : AV) (k : List Str → Option α) (J : α → Option β), (NN a k).bind J = NN a fun n => (k n).bind J) ∧
 (∀ (α β : Type) (m : Nat) (a : AV) (k : List (List AV) → Option α) (J : α → Option β), (NP m a k).bind J = NP m a fun n => (k n).bind J) :=
 ⟨fun _ _ => JB, fun _ _ _ x f g => Option.bind_assoc x f g, fun _ _ _ => rfl, fun _ _ _ _ => Wm, fun _ _ => X7, fun _ _ => X8, fun _ _ => Wn, fun _ _ => Wo, fun _ _ => Wp, fun _ _ => Ue, fun _ _ => Uf, fun _ _ => Ug⟩
end Go.Sh
namespace Go.Sh
open Go.RowKit
set_option linter.unusedSimpArgs false
set_option linter.unusedVariables false
theorem entry {P : Program} {f : FuncId} {sp : FSpec} (h : FSound P f sp) {args : List AV} {v0 : AV} {H0 : List AObj} (W : World) (vs : List Value) (g : Gh) (hg : g.obj = []) (hvs : VRs g W args vs) (hown : aC args vs = []) (hlen : ∀ b, 0 < g.len b → b < W.heap.size) (hgood : GdH W.heap)
 (hsp : sp args [] (AV × List AObj) (fun v H => some (v, H)) = some (v0, H0)) : Calls P f vs.toArray W fun e W' => ∃ v', e = .returned v' ∧ (∃ g', VR g' W' v0 v') ∧ Below W.heap.size W W' := by
 obtain ⟨v, H', h1, h2⟩ := h.law args [] _ _ _ hsp
 injection h1 with h1
 injection h1 with h1 h3
 subst h1
 subst h3
 have hc : Core (fun b => b < W.heap.size) g [] (aC args vs) W := by
  rw [hown]
  refine ⟨by simp [ObjsR, hg], fun r hr => by simp [aU] at hr, fun b => by simp [nO, aU, lives], fun b _ => by simp [nO, aU, lives], fun b hb => by simp [lives] at hb, hlen, fun b hb => hb, W.heap, hgood, fun b hb => ⟨hb, rfl⟩⟩
 refine (h2 _ g vs W hvs hc).mono ?_
 rintro e W' ⟨v', g', rfl, k1, k2, k3, k4⟩
 exact ⟨v', rfl, ⟨g', k1⟩, ⟨k4.os, k4.tape, k4.output, k4.size, fun k hk => (k4.frame k hk).1⟩⟩
theorem Uh {P : Program} {f : FuncId} {sp : FSpec} (h : FSound P f sp) {args : List AV} {H0 : List AObj} (W : World) (vs : List Value) (g : Gh) (hg : g.obj = []) (hvs : VRs g W args vs) (hown : aC args vs = []) (hlen : ∀ b, 0 < g.len b → b < W.heap.size) (hgood : GdH W.heap)
 (hsp : sp args [] (AV × List AObj) (fun v H => some (v, H)) = some (.bool true, H0)) : Calls P f vs.toArray W fun e W' => e = .returned (.bool true) ∧ Below W.heap.size W W' := by
 refine (entry h W vs g hg hvs hown hlen hgood hsp).mono ?_
 rintro e W' ⟨v', rfl, ⟨g', hv⟩, hb⟩
 simp only [VR] at hv
 subst hv
 exact ⟨rfl, hb⟩
end Go.Sh
namespace Go.Sh
open Go.RowKit
set_option linter.unusedSimpArgs false
set_option linter.unusedVariables false
variable {c : Cx}
def hOf (i : Nat) : List (Nat × HO) → HO
 | (j, h) :: _ => cond (Nat.beq i j) h .no
 | [] => .no
def Va (i : Nat) : List (Nat × HO) → List (Nat × HO)
 | (j, h) :: r => cond (Nat.beq i j) r ((j, h) :: r)
 | [] => []
def gOf (ops : Array Oper) : Option (Nat × Bool) → Option (Nat × Bool)
 | none => none
 | some (j, w) => some (((ops[j]?).bind (·.dst)).getD 0, w)
def Sr (P : Program) (ops : Array Oper) : Nat → List (Nat × HO) → List Oper → List AOper
 | _, _, [] => []
 | i, hs, o :: os => ⟨o.dst, opA P (hOf i hs) o, gOf ops o.guard⟩ :: Sr P ops (i + 1) (Va i hs) os
def Qe : Operand → List Nat
 | .tmp t => [t]
 | _ => []
def IQ : List Operand → List Nat
 | [] => []
 | p :: ps => Qe p ++ IQ ps
def X9 : Option Operand → List Nat
 | some p => Qe p
 | none => []
def aaq : Op → List Nat
 | .move x | .assign x | .box _ x | .load _ x | .nilCheck x | .unOp _ _ x | .convert _ _ x | .makeInterface _ x | .fieldAddr _ x _ | .field _ x _ | .extract x _ => Qe x
 | .pick a b e => IQ [a, b, e]
 | .build _ ps | .buildSlice _ _ ps => IQ (ps.toList.map (·.2))
 | .store _ a v | .binOp _ _ a v _ | .makeSlice _ a v | .indexAddr _ a v | .index _ a v | .lookup _ a v _ => IQ [a, v]
 | .makeFunc _ f cs => IQ f.toList ++ IQ cs.toList
 | .slice _ x l h _ => Qe x ++ X9 l ++ X9 h
 | .mapUpdate _ m k v | .insert _ m k v => IQ [m, k, v]
 | .call cl => (match cl.callee with | .value f => Qe f | .invoke r _ => Qe r | .builtin _ => []) ++ IQ cl.args.toList
 | _ => []
def abb : Op → OB
 | .load .. | .lookup .. => .look
 | .store .. | .box .. | .alloc .. | .makeMap .. | .insert .. | .mapUpdate .. => .all
 | _ => .no
def bOf (i : Nat) (b : OB) : List (Nat × OB) → OB
 | (j, h) :: r => cond (Nat.beq i j) h (bOf i b r)
 | [] => b
def Qf (P : Program) (ops : Array Oper) (bs : List (Nat × OB)) : Nat → List (Nat × HO) → List Oper → List DOper
 | _, _, [] => []
 | i, hs, o :: os => ⟨⟨o.dst, opA P (hOf i hs) o, gOf ops o.guard⟩, aaq o.op ++ (match gOf ops o.guard with | some (t, _) => [t] | none => []), bOf i (abb o.op) bs⟩ :: Qf P ops bs (i + 1) (Va i hs) os
def Ui (nt : Nat) (ops : Array Oper) : List Oper → Bool
 | [] => true
 | o :: os => (match o.dst with | none => true | some d => Nat.blt d nt) && (match o.guard with | none => true | some (j, _) => ((ops[j]?).bind (·.dst)).isSome) && Ui nt ops os
theorem Qg {nt : Nat} {d : Option Nat} (h : (match d with | none => true | some d => Nat.blt d nt) = true) : QT nt d d = true := by
 cases d with
 | none => rfl
 | some d => simp only [QT]; simp only at h; simp [h]
theorem Vb {ops : Array Oper} {g : Option (Nat × Bool)} (h : (match g with | none => true | some (j, _) => ((ops[j]?).bind (·.dst)).isSome) = true) : Og ops (gOf ops g) g = true := by
 cases g with
 | none => rfl
 | some jw =>
  obtain ⟨j, w⟩ := jw
  simp only at h
  obtain ⟨t, ht⟩ := Option.isSome_iff_exists.1 h
  simp [gOf, Og, ht]
theorem Vd {P : Program} {nt : Nat} {ops : Array Oper} : ∀ {os : List Oper} {i : Nat} {hs : List (Nat × HO)}, Ui nt ops os = true → RL nt ops (Sr P ops i hs os) os = true
 | [], _, _, _ => rfl
 | o :: os, i, hs, h => by
  simp only [Ui, Bool.and_eq_true] at h
  obtain ⟨⟨h1, h2⟩, h3⟩ := h
  simp [Sr, RL, Qg h1, Vb h2, Vd h3]
theorem Su {P : Program} {nt : Nat} {ops : Array Oper} {bs : List (Nat × OB)} : ∀ {os : List Oper} {i : Nat} {hs : List (Nat × HO)}, Ui nt ops os = true → H5 nt ops (Qf P ops bs i hs os) os = true
 | [], _, _, _ => rfl
 | o :: os, i, hs, h => by
  simp only [Ui, Bool.and_eq_true] at h
  obtain ⟨⟨h1, h2⟩, h3⟩ := h
  simp [Qf, H5, Qg h1, Vb h2, Su h3]
def HsK (c : Cx) (ops : List Oper) : List (Nat × HO) → Prop → Prop
 | [], K => K
 | (i, h) :: r, K => match h with
  | .cl f sp => FSound c.P f sp ∧ HsK c ops r K
  | .cy key sp => RSound c.P key sp ∧ HsK c ops r K
  | .raw p => bK c p ((ops[i]?).getD default) ∧ HsK c ops r K
  | _ => HsK c ops r K
theorem Sv {ops : List Oper} {i : Nat} : ∀ {hs : List (Nat × HO)} {K : Prop}, HsK c ops hs K → HsK c ops (Va i hs) K
 | [], K, h => h
 | (j, x) :: r, K, h => by
  simp only [Va]
  cases hb : Nat.beq i j with
  | false => exact h
  | true =>
   simp only [cond_true]
   simp only [HsK] at h
   split at h
   ·exact h.2
   ·exact h.2
   ·exact h.2
   ·exact h
theorem Sw {ops : List Oper} {i : Nat} {o : Oper} (ho : ops[i]? = some o) : ∀ {hs : List (Nat × HO)} {K : Prop}, HsK c ops hs K → (hOf i hs).OK c o
 | [], K, h => trivial
 | (j, x) :: r, K, h => by
  simp only [hOf]
  cases hb : Nat.beq i j with
  | false => exact trivial
  | true =>
   have := Nat.eq_of_beq_eq_true hb
   subst this
   simp only [cond_true]
   simp only [HsK] at h
   split at h
   ·exact h.1
   ·exact h.1
   ·rw [ho] at h; exact h.1
   ·rename_i h1 h2 h3
    cases x with
    | cl f sp => exact absurd rfl (h1 f sp)
    | cy f sp => exact absurd rfl (h2 f sp)
    | raw p => exact absurd rfl (h3 p)
    | _ => exact trivial
theorem Sy {ops : List Oper} : ∀ {hs : List (Nat × HO)} {K : Prop}, HsK c ops hs K → K
 | [], K, h => h
 | (j, x) :: r, K, h => by
  simp only [HsK] at h
  split at h
  ·exact Sy h.2
  ·exact Sy h.2
  ·exact Sy h.2
  ·exact Sy h
theorem Sz {ops : Array Oper} {K : Prop} : ∀ {os : List Oper} {i : Nat} {hs : List (Nat × HO)}, (∀ j, os[j]? = ops.toList[i + j]?) → HsK c ops.toList hs K → UO c (Sr c.P ops i hs os) os
 | [], _, _, _, _ => trivial
 | o :: os, i, hs, hj, h => ⟨X6 (Sw (by have := hj 0; simpa using this.symm) h), Sz (fun j => by have := hj (j + 1); simpa [Nat.add_assoc, Nat.add_comm 1 j] using this) (Sv h)⟩
theorem Ve {ops : Array Oper} {bs : List (Nat × OB)} {K : Prop} : ∀ {os : List Oper} {i : Nat} {hs : List (Nat × HO)}, (∀ j, os[j]? = ops.toList[i + j]?) → HsK c ops.toList hs K → Zb c (Qf c.P ops bs i hs os) os
 | [], _, _, _, _ => trivial
 | o :: os, i, hs, hj, h => ⟨X6 (Sw (by have := hj 0; simpa using this.symm) h), Ve (fun j => by have := hj (j + 1); simpa [Nat.add_assoc, Nat.add_comm 1 j] using this) (Sv h)⟩
inductive HT where
 | a
 | r (hs : List (Nat × HO))
 | d (hs : List (Nat × HO)) (bs : List (Nat × OB))
 | s (x y : HT)
 | u (x : HT)
 | p (x : Ex)
 | z (ts : List Nat) (x : HT)
def HT.l : HT → HT
 | .s x _ => x
 | _ => .a
def HT.rt : HT → HT
 | .s _ y => y
 | _ => .a
def HT.in1 : HT → HT
 | .u x => x
 | _ => .a
def HT.hs : HT → List (Nat × HO)
 | .r hs => hs
 | .d hs _ => hs
 | .z _ x => x.hs
 | _ => []
def HT.bs : HT → List (Nat × OB)
 | .d _ bs => bs
 | .z _ x => x.bs
 | _ => []
def HT.zs : HT → List Nat
 | .z ts _ => ts
 | _ => []
def HT.ex : HT → Option Ex
 | .p x => some x
 | _ => none
def FW : Ex := fun _ _ _ => none
theorem wN {cd : Code} : Snd c FW cd := fun s R k r h => by cases h
def Rb (P : Program) (y : Operand) (a b : Ex) : Ex := match axO P true [] 0 y with
 | some x => WV x a b
 | none => FW
def aaZ (P : Program) (ops : Array Oper) (h : HT) : Bool → Ex
 | false => UK (Sr P ops 0 h.hs ops.toList)
 | true => WU (Qf P ops h.bs 0 h.hs ops.toList)
def aa0 (P : Program) (ops : Array Oper) (h : HT) (b : Bool) : Ex := XN h.zs (aaZ P ops h b)
def aar (c : Cx) (ops : Array Oper) (h : HT) : Bool → Bool
 | false => Ui c.nt ops ops.toList
 | true => Ui c.nt ops ops.toList && (c.P.follows .mixedOrders && Kr 0 (Qf c.P ops h.bs 0 h.hs ops.toList) ops.toList)
theorem Gp {id : Nat} {ops : Array Oper} {h : HT} {K : Prop} {dr : Bool} (hc : aar c ops h dr = true) (hk : HsK c ops.toList h.hs K) : Snd c (aa0 c.P ops h dr) (.region id ops dr) ∧ K := by
 refine ⟨Si ?_ _, Sy hk⟩
 cases dr with
 | false => exact TQ (l := ops.toList) (Vd hc) (Sz (ops := ops) (fun j => by simp) hk)
 | true =>
  simp only [aar, Bool.and_eq_true] at hc
  exact VN (l := ops.toList) hc.2.1 (Su hc.1) hc.2.2 (Ve (ops := ops) (fun j => by simp) hk)
def comp (P : Program) : Code → HT → Ex
 | .skip, h => match h with
  | .p x => x
  | _ => ZT
 | .ret, h => match h with
  | .p x => x
  | _ => aaJ
 | .exit id, h => match h with
  | .p x => x
  | _ => ZU id
 | .seq a b, h => match h with
  | .p x => x
  | h => Vz (comp P a h.l) (comp P b h.rt)
 | .cond y a b, h => match h with
  | .p x => x
  | h => Rb P y (comp P a h.l) (comp P b h.rt)
 | .block id a, h => match h with
  | .p x => x
  | h => TD id (comp P a h.in1)
 | .region id ops dr, h => match h with
  | .p x => x
  | h => aa0 P ops h dr
 | .loop a, h => match h with
  | .p x => x
  | _ => FW
 | .rangeFunc .., h => match h with
  | .p x => x
  | _ => FW
 | .scope .., h => match h with
  | .p x => x
  | _ => FW
 | .label .., h => match h with
  | .p x => x
  | _ => FW
 | .goto .., h => match h with
  | .p x => x
  | _ => FW
 | .refuse .., h => match h with
  | .p x => x
  | _ => FW
def chk (c : Cx) : Code → HT → Bool
 | .seq a b, h => match h with
  | .p _ => true
  | h => chk c a h.l && chk c b h.rt
 | .cond _ a b, h => match h with
  | .p _ => true
  | h => chk c a h.l && chk c b h.rt
 | .block _ a, h => match h with
  | .p _ => true
  | h => chk c a h.in1
 | .region _ ops dr, h => match h with
  | .p _ => true
  | h => aar c ops h dr
 | _, _ => true
def HTK (c : Cx) : Code → HT → Prop → Prop
 | .seq a b, h, K => match h with
  | .p x => Snd c x (.seq a b) ∧ K
  | .s x y => HTK c a x (HTK c b y K)
  | _ => K
 | .cond p a b, h, K => match h with
  | .p x => Snd c x (.cond p a b) ∧ K
  | .s x y => HTK c a x (HTK c b y K)
  | _ => K
 | .block id a, h, K => match h with
  | .p x => Snd c x (.block id a) ∧ K
  | .u x => HTK c a x K
  | _ => K
 | .region id ops dr, h, K => match h with
  | .p x => Snd c x (.region id ops dr) ∧ K
  | .r hs => HsK c ops.toList hs K
  | .d hs _ => HsK c ops.toList hs K
  | .z _ x => HsK c ops.toList x.hs K
  | _ => K
 | cd, h, K => match h with
  | .p x => Snd c x cd ∧ K
  | _ => K
theorem Wq {p : Operand} {y z : Ex} {cy cz : Code} (hy : Snd c y cy) (hz : Snd c z cz) : Snd c (Rb c.P p y z) (.cond p cy cz) := by
 unfold Rb
 split
 ·rename_i x hx
  exact Xm (JA hx).1 hy hz
 ·exact wN
theorem Ep {K : Prop} : ∀ {cd : Code}, HTK c cd .a K = K := fun {cd} => by cases cd <;> rfl
theorem xw : ∀ (cd : Code) (h : HT) (K : Prop), chk c cd h = true → HTK c cd h K → Snd c (comp c.P cd h) cd ∧ K
 | .skip, h, K, hc, hk => by cases h <;> first | exact hk | exact ⟨Xk, hk⟩
 | .ret, h, K, hc, hk => by cases h <;> first | exact hk | exact ⟨Y8, hk⟩
 | .exit id, h, K, hc, hk => by cases h <;> first | exact hk | exact ⟨Xl, hk⟩
 | .loop a, h, K, hc, hk => by cases h <;> first | exact hk | exact ⟨wN, hk⟩
 | .rangeFunc .., h, K, hc, hk => by cases h <;> first | exact hk | exact ⟨wN, hk⟩
 | .scope .., h, K, hc, hk => by cases h <;> first | exact hk | exact ⟨wN, hk⟩
 | .label .., h, K, hc, hk => by cases h <;> first | exact hk | exact ⟨wN, hk⟩
 | .goto .., h, K, hc, hk => by cases h <;> first | exact hk | exact ⟨wN, hk⟩
 | .refuse .., h, K, hc, hk => by cases h <;> first | exact hk | exact ⟨wN, hk⟩
 | .seq a b, h, K, hc, hk => by
  have gen : ∀ h : HT, (chk c a h.l && chk c b h.rt) = true → HTK c a h.l (HTK c b h.rt K) → Snd c (Vz (comp c.P a h.l) (comp c.P b h.rt)) (.seq a b) ∧ K := fun h hc hk => by
   simp only [Bool.and_eq_true] at hc
   obtain ⟨h1, h2⟩ := xw a _ _ hc.1 hk
   obtain ⟨h3, h4⟩ := xw b _ _ hc.2 h2
   exact ⟨Y9 h1 h3, h4⟩
  cases h with
  | p x => exact hk
  | s x y => exact gen (.s x y) hc hk
  | a => exact gen .a hc (by simp only [HT.l, HT.rt, Ep]; exact hk)
  | r hs => exact gen (.r hs) hc (by simp only [HT.l, HT.rt, Ep]; exact hk)
  | d hs bs => exact gen (.d hs bs) hc (by simp only [HT.l, HT.rt, Ep]; exact hk)
  | u x => exact gen (.u x) hc (by simp only [HT.l, HT.rt, Ep]; exact hk)
  | z ts x => exact gen (.z ts x) hc (by simp only [HT.l, HT.rt, Ep]; exact hk)
 | .cond p a b, h, K, hc, hk => by
  have gen : ∀ h : HT, (chk c a h.l && chk c b h.rt) = true → HTK c a h.l (HTK c b h.rt K) → Snd c (Rb c.P p (comp c.P a h.l) (comp c.P b h.rt)) (.cond p a b) ∧ K := fun h hc hk => by
   simp only [Bool.and_eq_true] at hc
   obtain ⟨h1, h2⟩ := xw a _ _ hc.1 hk
   obtain ⟨h3, h4⟩ := xw b _ _ hc.2 h2
   exact ⟨Wq h1 h3, h4⟩
  cases h with
  | p x => exact hk
  | s x y => exact gen (.s x y) hc hk
  | a => exact gen .a hc (by simp only [HT.l, HT.rt, Ep]; exact hk)
  | r hs => exact gen (.r hs) hc (by simp only [HT.l, HT.rt, Ep]; exact hk)
  | d hs bs => exact gen (.d hs bs) hc (by simp only [HT.l, HT.rt, Ep]; exact hk)
  | u x => exact gen (.u x) hc (by simp only [HT.l, HT.rt, Ep]; exact hk)
  | z ts x => exact gen (.z ts x) hc (by simp only [HT.l, HT.rt, Ep]; exact hk)
 | .block id a, h, K, hc, hk => by
  have gen : ∀ h : HT, chk c a h.in1 = true → HTK c a h.in1 K → Snd c (TD id (comp c.P a h.in1)) (.block id a) ∧ K := fun h hc hk => by
   obtain ⟨h1, h2⟩ := xw a _ _ hc hk
   exact ⟨VJ h1, h2⟩
  cases h with
  | p x => exact hk
  | u x => exact gen (.u x) hc hk
  | a => exact gen .a hc (by simp only [HT.in1, Ep]; exact hk)
  | r hs => exact gen (.r hs) hc (by simp only [HT.in1, Ep]; exact hk)
  | d hs bs => exact gen (.d hs bs) hc (by simp only [HT.in1, Ep]; exact hk)
  | s x y => exact gen (.s x y) hc (by simp only [HT.in1, Ep]; exact hk)
  | z ts x => exact gen (.z ts x) hc (by simp only [HT.in1, Ep]; exact hk)
 | .region id ops dr, h, K, hc, hk => by
  cases h with
  | p x => exact hk
  | r hs => exact Gp (h := .r hs) hc hk
  | d hs bs => exact Gp (h := .d hs bs) hc hk
  | a => exact Gp (h := .a) hc hk
  | s x y => exact Gp (h := .s x y) hc hk
  | u x => exact Gp (h := .u x) hc hk
  | z ts x => exact Gp (h := .z ts x) hc hk
theorem ai {a b : Prop} (x : a) (y : b) : a ∧ b := ⟨x, y⟩
theorem NI (m : List Nat) {x : Ex} {cd : Code} (hx : Snd c x cd) : Snd c (GM (m, some c.nb) x) cd := Kq (fun _ h => by cases h; rfl) hx
end Go.Sh
namespace Go.Sh
open Go.RowKit
set_option linter.unusedSimpArgs false
set_option linter.unusedVariables false
universe u
inductive LK where
 | I | B | S | LI | LS | LL | V | N | P
abbrev LK.T : LK → Type
 | .I => Int
 | .B => Bool
 | .S => Str
 | .LI => List Int
 | .LS => List Str
 | .LL => List (List AV)
 | .V => AV
 | .N => Nat
 | .P => List (Int × Int)
abbrev LKs := List (Option LK)
abbrev VT : LKs → Type
 | [] => List AObj
 | none :: r => AV × VT r
 | some k :: r => k.T × VT r
abbrev zh : LKs → Type u → Type u
 | [], D => D
 | none :: r, D => zh r D
 | some k :: r, D => k.T → zh r D
abbrev spl {A B : Type} {Y : Type u} (v : A × B) (c : A → B → Y) : Y := match v with
 | (x, w) => c x w
abbrev ap {D : Type u} : (l : LKs) → zh l D → VT l → D
 | [], f, _ => f
 | none :: r, f, v => spl (A := AV) (B := VT r) v fun _ w => ap r f w
 | some k :: r, f, v => spl (A := k.T) (B := VT r) v fun x w => ap r (f x) w
abbrev cuW {D : Type u} : (l : LKs) → VT l → (VT l → D) → zh l D
 | [], v, g => g v
 | none :: r, v, g => spl (A := AV) (B := VT r) v fun a w => cuW r w fun y => g (a, y)
 | some k :: r, v, g => spl (A := k.T) (B := VT r) v fun _ w => fun x => cuW r w fun y => g (x, y)
abbrev tyO : Option LK → Type
 | none => AV
 | some k => k.T
abbrev OT : LKs → Type
 | [] => Unit
 | [k] => tyO k
 | k :: r => tyO k × OT r
inductive Sh2 where
 | v
 | n
 | c
 | i (k : IntKind)
 | b
 | s
 | l (k : IntKind)
 | I (own : Bool) (k : IntKind)
 | S (own : Bool)
 | L (own : Bool) (n : Nat)
 | m (id off n : Nat)
 | o (id n : Nat)
 | x (a : AV)
 | q (id off : Nat)
 | a (l : List Sh2)
 | t (l : List Sh2)
 | e (l : List Sh2)
 | f (fn : Fn) (p q : List Sh2)
mutual
abbrev lv : Sh2 → LKs → LKs
 | .v, r => some .V :: r
 | .n, r => some .I :: r
 | .c, r => some .I :: r
 | .i _, r => some .I :: r
 | .l _, r => some .LI :: r
 | .b, r => some .B :: r
 | .s, r => some .S :: r
 | .I _ _, r => some .LI :: r
 | .S _, r => some .LS :: r
 | .L _ _, r => some .LL :: r
 | .m _ _ _, r => some .N :: r
 | .o _ _, r => some .N :: some .N :: r
 | .x _, r => r
 | .q _ _, r => r
 | .a l, r => lvL l r
 | .t l, r => lvL l r
 | .e l, r => lvL l r
 | .f _ p q, r => lvL p (lvL q r)
abbrev lvL : List Sh2 → LKs → LKs
 | [], r => r
 | h :: l, r => lv h (lvL l r)
end
def AV.eqk : AV → AV → Bool
 | .undef, .undef => true
 | .int k n, .int k' n' => decide (k = k') && decide (n = n')
 | .bool x, .bool y => decide (x = y)
 | .str x, .str y => decide (x = y)
 | .ints o k l, .ints o' k' l' => decide (o = o') && (decide (k = k') && decide (l = l'))
 | .strs o l, .strs o' l' => decide (o = o') && decide (l = l')
 | .sl o n [], .sl o' n' [] => decide (o = o') && decide (n = n')
 | .ptr a, .ptr b => decide (a = b)
 | .map a, .map b => decide (a = b)
 | .yld a, .yld b => decide (a = b)
 | .nilFunc, .nilFunc => true
 | .nilIface, .nilIface => true
 | _, _ => false
theorem aas {a b : AV} (h : AV.eqk a b = true) : a = b := by
 unfold AV.eqk at h
 split at h <;> first | rfl | (cases h; done) | (simp only [Bool.and_eq_true, decide_eq_true_eq] at h; simp [h])
mutual
def en : (h : Sh2) → (r : LKs) → VT (lv h r) → AV × VT r
 | .v, _, v => v
 | .n, _, v => (.int .i64 v.1, v.2)
 | .c, _, v => (.int .u8 v.1, v.2)
 | .i k, _, v => (.int k v.1, v.2)
 | .l k, _, v => (.ints false k v.1, v.2)
 | .b, _, v => (.bool v.1, v.2)
 | .s, _, v => (.str v.1, v.2)
 | .I o k, _, v => (.ints o k v.1, v.2)
 | .S o, _, v => (.strs o v.1, v.2)
 | .L o n, _, v => (.sl o n v.1, v.2)
 | .m id off n, _, v => (.mut id off v.1 n, v.2)
 | .o id n, _, v => (.mo id v.1 v.2.1 n, v.2.2)
 | .x a, _, v => (a, v)
 | .q id off, _, v => (.ptr (some (id, off)), v)
 | .a l, r, v => (.agg (enL l r v).1, (enL l r v).2)
 | .t l, r, v => (.tuple (enL l r v).1, (enL l r v).2)
 | .e l, r, v => (.eptr (enL l r v).1, (enL l r v).2)
 | .f fn p q, r, v => (.func fn (enL p (lvL q r) v).1 (enL q r (enL p (lvL q r) v).2).1, (enL q r (enL p (lvL q r) v).2).2)
def enL : (l : List Sh2) → (r : LKs) → VT (lvL l r) → List AV × VT r
 | [], _, v => ([], v)
 | h :: l, r, v => ((en h (lvL l r) v).1 :: (enL l r (en h (lvL l r) v).2).1, (enL l r (en h (lvL l r) v).2).2)
end
mutual
abbrev enK {Y : Type u} : (h : Sh2) → (r : LKs) → VT (lv h r) → (AV → VT r → Y) → Y
 | .v, r, v, c => spl (A := LK.V.T) (B := VT r) v fun x w => c x w
 | .n, r, v, c => spl (A := LK.I.T) (B := VT r) v fun x w => c (.int .i64 x) w
 | .c, r, v, c => spl (A := LK.I.T) (B := VT r) v fun x w => c (.int .u8 x) w
 | .i k, r, v, c => spl (A := LK.I.T) (B := VT r) v fun x w => c (.int k x) w
 | .b, r, v, c => spl (A := LK.B.T) (B := VT r) v fun x w => c (.bool x) w
 | .s, r, v, c => spl (A := LK.S.T) (B := VT r) v fun x w => c (.str x) w
 | .l k, r, v, c => spl (A := LK.LI.T) (B := VT r) v fun x w => c (.ints false k x) w
 | .I o k, r, v, c => spl (A := LK.LI.T) (B := VT r) v fun x w => c (.ints o k x) w
 | .S o, r, v, c => spl (A := LK.LS.T) (B := VT r) v fun x w => c (.strs o x) w
 | .L o n, r, v, c => spl (A := LK.LL.T) (B := VT r) v fun x w => c (.sl o n x) w
 | .m id off n, r, v, c => spl (A := LK.N.T) (B := VT r) v fun x w => c (.mut id off x n) w
 | .o id n, r, v, c => spl (A := LK.N.T) (B := LK.N.T × VT r) v fun x w => spl (A := LK.N.T) (B := VT r) w fun y z => c (.mo id x y n) z
 | .x a, _, v, c => c a v
 | .q id off, _, v, c => c (.ptr (some (id, off))) v
 | .a l, r, v, c => MG l r v fun az w => c (.agg az) w
 | .t l, r, v, c => MG l r v fun az w => c (.tuple az) w
 | .e l, r, v, c => MG l r v fun az w => c (.eptr az) w
 | .f fn p q, r, v, c => MG p (lvL q r) v fun az w => MG q r w fun bz x => c (.func fn az bz) x
abbrev MG {Y : Type u} : (l : List Sh2) → (r : LKs) → VT (lvL l r) → (List AV → VT r → Y) → Y
 | [], _, v, c => c [] v
 | h :: l, r, v, c => enK h (lvL l r) v fun a w => MG l r w fun az x => c (a :: az) x
end
mutual
theorem aat {Y : Type u} : ∀ (h : Sh2) (r : LKs) (v : VT (lv h r)) (c : AV → VT r → Y), enK h r v c = c (en h r v).1 (en h r v).2
 | .v, _, v, c => rfl
 | .n, _, v, c => rfl
 | .c, _, v, c => rfl
 | .i k, _, v, c => rfl
 | .b, _, v, c => rfl
 | .s, _, v, c => rfl
 | .l k, _, v, c => rfl
 | .I o k, _, v, c => rfl
 | .S o, _, v, c => rfl
 | .L o n, _, v, c => rfl
 | .m id off n, _, v, c => rfl
 | .o id n, _, v, c => rfl
 | .x a, _, v, c => rfl
 | .q id off, _, v, c => rfl
 | .a l, r, v, c => by simp only [enK, en]; exact zC l r v _
 | .t l, r, v, c => by simp only [enK, en]; exact zC l r v _
 | .e l, r, v, c => by simp only [enK, en]; exact zC l r v _
 | .f fn p q, r, v, c => by simp only [enK, en]; rw [zC p (lvL q r) v]; exact zC q r _ _
theorem zC {Y : Type u} : ∀ (l : List Sh2) (r : LKs) (v : VT (lvL l r)) (c : List AV → VT r → Y), MG l r v c = c (enL l r v).1 (enL l r v).2
 | [], _, v, c => rfl
 | h :: l, r, v, c => by simp only [MG, enL]; rw [aat h (lvL l r) v]; exact zC l r _ _
end
abbrev tkK {Y : Type u} : (k : Option LK) → (r : LKs) → OT (k :: r) → (tyO k → OT r → Y) → Y
 | _, [], o, c => c o ()
 | _, _ :: _, o, c => c o.1 o.2
mutual
abbrev eoK {Y : Type u} : (h : Sh2) → (r : LKs) → OT (lv h r) → (AV → OT r → Y) → Y
 | .v, r, o, c => tkK (some .V) r o fun x w => c x w
 | .n, r, o, c => tkK (some .I) r o fun x w => c (.int .i64 x) w
 | .c, r, o, c => tkK (some .I) r o fun x w => c (.int .u8 x) w
 | .i k, r, o, c => tkK (some .I) r o fun x w => c (.int k x) w
 | .b, r, o, c => tkK (some .B) r o fun x w => c (.bool x) w
 | .s, r, o, c => tkK (some .S) r o fun x w => c (.str x) w
 | .l k, r, o, c => tkK (some .LI) r o fun x w => c (.ints false k x) w
 | .I p k, r, o, c => tkK (some .LI) r o fun x w => c (.ints p k x) w
 | .S p, r, o, c => tkK (some .LS) r o fun x w => c (.strs p x) w
 | .L p n, r, o, c => tkK (some .LL) r o fun x w => c (.sl p n x) w
 | .m id off n, r, o, c => tkK (some .N) r o fun x w => c (.mut id off x n) w
 | .o id n, r, o, c => tkK (some .N) (some .N :: r) o fun x w => tkK (some .N) r w fun y z => c (.mo id x y n) z
 | .x a, _, o, c => c a o
 | .q id off, _, o, c => c (.ptr (some (id, off))) o
 | .a l, r, o, c => Lp l r o fun az w => c (.agg az) w
 | .t l, r, o, c => Lp l r o fun az w => c (.tuple az) w
 | .e l, r, o, c => Lp l r o fun az w => c (.eptr az) w
 | .f fn p q, r, o, c => Lp p (lvL q r) o fun az w => Lp q r w fun bz x => c (.func fn az bz) x
abbrev Lp {Y : Type u} : (l : List Sh2) → (r : LKs) → OT (lvL l r) → (List AV → OT r → Y) → Y
 | [], _, o, c => c [] o
 | h :: l, r, o, c => eoK h (lvL l r) o fun a w => Lp l r w fun az x => c (a :: az) x
end
mutual
def de {Y : Type} : (h : Sh2) → (r : LKs) → AV → VT r → (VT (lv h r) → Option Y) → Option Y
 | .v, _, a, x, c => c (a, x)
 | .n, _, a, x, c => match a with
  | .int .i64 n => c (n, x)
  | _ => none
 | .c, _, a, x, c => match a with
  | .int .u8 n => c (n, x)
  | _ => none
 | .l k, _, a, x, c => match a with
  | .ints false k' n => cond (decide (k = k')) (c (n, x)) none
  | _ => none
 | .i k, _, a, x, c => match a with
  | .int k' n => cond (decide (k = k')) (c (n, x)) none
  | _ => none
 | .b, _, a, x, c => match a with
  | .bool n => c (n, x)
  | _ => none
 | .s, _, a, x, c => match a with
  | .str n => c (n, x)
  | _ => none
 | .I o k, _, a, x, c => match a with
  | .ints o' k' n => cond (decide (o = o') && decide (k = k')) (c (n, x)) none
  | _ => none
 | .S o, _, a, x, c => match a with
  | .strs o' n => cond (decide (o = o')) (c (n, x)) none
  | _ => none
 | .L o z, _, a, x, c => match a with
  | .sl o' z' n => cond (decide (o = o') && Nat.beq z z') (c (n, x)) none
  | _ => none
 | .m id off z, _, a, x, c => match a with
  | .mut id' off' n z' => cond (Nat.beq id id' && (Nat.beq off off' && Nat.beq z z')) (c (n, x)) none
  | _ => none
 | .o id z, _, a, x, c => match a with
  | .mo id' n n2 z' => cond (Nat.beq id id' && Nat.beq z z') (c (n, n2, x)) none
  | _ => none
 | .x a0, _, a, x, c => cond (AV.eqk a0 a) (c x) none
 | .q id off, _, a, x, c => match a with
  | .ptr (some (id', off')) => cond (Nat.beq id id' && Nat.beq off off') (c x) none
  | _ => none
 | .a l, r, a, x, c => match a with
  | .agg l' => deL l r l' x c
  | _ => none
 | .t l, r, a, x, c => match a with
  | .tuple l' => deL l r l' x c
  | _ => none
 | .e l, r, a, x, c => match a with
  | .eptr l' => deL l r l' x c
  | _ => none
 | .f fn p q, r, a, x, c => match a with
  | .func fn' p' q' => cond (decide (fn = fn')) (deL q r q' x fun y => deL p (lvL q r) p' y c) none
  | _ => none
def deL {Y : Type} : (l : List Sh2) → (r : LKs) → List AV → VT r → (VT (lvL l r) → Option Y) → Option Y
 | [], _, [], x, c => c x
 | h :: l, r, a :: l', x, c => deL l r l' x fun y => de h (lvL l r) a y c
 | _, _, _, _, _ => none
end
mutual
theorem de_ok {Y : Type} : ∀ (h : Sh2) (r : LKs) (a : AV) (x : VT r) (c : VT (lv h r) → Option Y) (z : Y), de h r a x c = some z → ∃ v, en h r v = (a, x) ∧ c v = some z
 | .v, _, a, x, c, z, h => ⟨(a, x), rfl, h⟩
 | .n, _, a, x, c, z, h => by
  simp only [de] at h; split at h
  ·exact ⟨(_, x), rfl, h⟩
  ·cases h
 | .c, _, a, x, c, z, h => by
  simp only [de] at h; split at h
  ·exact ⟨(_, x), rfl, h⟩
  ·cases h
 | .l k, _, a, x, c, z, h => by
  simp only [de] at h; split at h
  ·obtain ⟨h1, hz⟩ | ⟨_, hz⟩ := ae h
   ·cases of_decide_eq_true h1; exact ⟨(_, x), rfl, hz⟩
   ·cases hz
  ·cases h
 | .i k, _, a, x, c, z, h => by
  simp only [de] at h; split at h
  ·obtain ⟨h1, hz⟩ | ⟨_, hz⟩ := ae h
   ·cases of_decide_eq_true h1; exact ⟨(_, x), rfl, hz⟩
   ·cases hz
  ·cases h
 | .b, _, a, x, c, z, h => by
  simp only [de] at h; split at h
  ·exact ⟨(_, x), rfl, h⟩
  ·cases h
 | .s, _, a, x, c, z, h => by
  simp only [de] at h; split at h
  ·exact ⟨(_, x), rfl, h⟩
  ·cases h
 | .I o k, _, a, x, c, z, h => by
  simp only [de] at h; split at h
  ·obtain ⟨h1, hz⟩ | ⟨_, hz⟩ := ae h
   ·simp only [Bool.and_eq_true, decide_eq_true_eq] at h1; obtain ⟨rfl, rfl⟩ := h1; exact ⟨(_, x), rfl, hz⟩
   ·cases hz
  ·cases h
 | .S o, _, a, x, c, z, h => by
  simp only [de] at h; split at h
  ·obtain ⟨h1, hz⟩ | ⟨_, hz⟩ := ae h
   ·cases of_decide_eq_true h1; exact ⟨(_, x), rfl, hz⟩
   ·cases hz
  ·cases h
 | .L o n, _, a, x, c, z, h => by
  simp only [de] at h; split at h
  ·obtain ⟨h1, hz⟩ | ⟨_, hz⟩ := ae h
   ·simp only [Bool.and_eq_true, decide_eq_true_eq, Nat.beq_eq] at h1; obtain ⟨rfl, rfl⟩ := h1; exact ⟨(_, x), rfl, hz⟩
   ·cases hz
  ·cases h
 | .m id off n, _, a, x, c, z, h => by
  simp only [de] at h; split at h
  ·obtain ⟨h1, hz⟩ | ⟨_, hz⟩ := ae h
   ·simp only [Bool.and_eq_true, Nat.beq_eq] at h1; obtain ⟨rfl, rfl, rfl⟩ := h1; exact ⟨(_, x), rfl, hz⟩
   ·cases hz
  ·cases h
 | .o id n, _, a, x, c, z, h => by
  simp only [de] at h; split at h
  ·obtain ⟨h1, hz⟩ | ⟨_, hz⟩ := ae h
   ·simp only [Bool.and_eq_true, Nat.beq_eq] at h1; obtain ⟨rfl, rfl⟩ := h1; exact ⟨(_, _, x), rfl, hz⟩
   ·cases hz
  ·cases h
 | .x a0, _, a, x, c, z, h => by
  simp only [de] at h
  obtain ⟨h1, hz⟩ | ⟨_, hz⟩ := ae h
  ·cases aas h1; exact ⟨x, rfl, hz⟩
  ·cases hz
 | .q id off, _, a, x, c, z, h => by
  simp only [de] at h; split at h
  ·obtain ⟨h1, hz⟩ | ⟨_, hz⟩ := ae h
   ·simp only [Bool.and_eq_true, Nat.beq_eq] at h1; obtain ⟨rfl, rfl⟩ := h1; exact ⟨x, rfl, hz⟩
   ·cases hz
  ·cases h
 | .a l, r, a, x, c, z, h => by
  simp only [de] at h; split at h
  ·obtain ⟨v, h1, h2⟩ := FX _ _ _ _ _ _ h; exact ⟨v, by simp only [en, h1], h2⟩
  ·cases h
 | .t l, r, a, x, c, z, h => by
  simp only [de] at h; split at h
  ·obtain ⟨v, h1, h2⟩ := FX _ _ _ _ _ _ h; exact ⟨v, by simp only [en, h1], h2⟩
  ·cases h
 | .e l, r, a, x, c, z, h => by
  simp only [de] at h; split at h
  ·obtain ⟨v, h1, h2⟩ := FX _ _ _ _ _ _ h; exact ⟨v, by simp only [en, h1], h2⟩
  ·cases h
 | .f fn p q, r, a, x, c, z, h => by
  simp only [de] at h; split at h
  ·obtain ⟨h0, hz⟩ | ⟨_, hz⟩ := ae h
   ·cases of_decide_eq_true h0
    obtain ⟨y, h1, h2⟩ := FX _ _ _ _ _ _ hz
    obtain ⟨v, h3, h4⟩ := FX _ _ _ _ _ _ h2
    exact ⟨v, by simp only [en, h3, h1], h4⟩
   ·cases hz
  ·cases h
theorem FX {Y : Type} : ∀ (l : List Sh2) (r : LKs) (a : List AV) (x : VT r) (c : VT (lvL l r) → Option Y) (z : Y), deL l r a x c = some z → ∃ v, enL l r v = (a, x) ∧ c v = some z
 | [], _, [], x, c, z, h => ⟨x, rfl, h⟩
 | h :: l, r, a :: l', x, c, z, hh => by
  simp only [deL] at hh
  obtain ⟨y, h1, h2⟩ := FX _ _ _ _ _ _ hh
  obtain ⟨v, h3, h4⟩ := de_ok _ _ _ _ _ _ h2
  exact ⟨v, by simp only [enL, h3, h1], h4⟩
 | [], _, _ :: _, x, c, z, h => by simp [deL] at h
 | _ :: _, _, [], x, c, z, h => by simp [deL] at h
end
abbrev shs : List (Nat × Sh2) → List Sh2
 | [] => []
 | (_, h) :: l => h :: shs l
def tns : List (Nat × Sh2) → List Nat
 | [] => []
 | (t, _) :: l => t :: tns l
abbrev Uj : List (Nat × Sh2) → List AV → List (Nat × AV)
 | (t, _) :: l, v :: vs => (t, v) :: Uj l vs
 | _, _ => []
def deS {Y : Type} : (l : List (Nat × Sh2)) → (r : LKs) → List (Nat × AV) → VT r → (VT (lvL (shs l) r) → Option Y) → Option Y
 | [], _, [], x, c => c x
 | (t, h) :: l, r, (t', a) :: l', x, c => cond (Nat.beq t t') (deS l r l' x fun y => de h (lvL (shs l) r) a y c) none
 | _, _, _, _, _ => none
abbrev psL : List Nat → LKs → LKs
 | [], r => r
 | _ :: l, r => none :: psL l r
def psE : (l : List Nat) → (r : LKs) → VT (psL l r) → List (Nat × AV)
 | [], _, _ => []
 | t :: l, r, v => (t, v.1) :: psE l r v.2
abbrev psK {Y : Type u} : (l : List Nat) → (r : LKs) → VT (psL l r) → (List (Nat × AV) → VT r → Y) → Y
 | [], _, v, c => c [] v
 | t :: l, r, v, c => spl (A := AV) (B := VT (psL l r)) v fun a v2 => psK l r v2 fun b w => c ((t, a) :: b) w
def psR : (l : List Nat) → (r : LKs) → VT (psL l r) → VT r
 | [], _, v => v
 | _ :: l, r, v => psR l r v.2
theorem Ya {Y : Type u} : ∀ (l : List Nat) (r : LKs) (v : VT (psL l r)) (c : List (Nat × AV) → VT r → Y), psK l r v c = c (psE l r v) (psR l r v)
 | [], _, v, c => rfl
 | t :: l, r, v, c => Ya l r v.2 _
def deP {Y : Type} : (l : List Nat) → (r : LKs) → List (Nat × AV) → (List (Nat × AV) → (VT r → Option Y) → Option Y) → (VT (psL l r) → Option Y) → Option Y
 | [], _, a, d, c => d a c
 | t :: l, r, (t', a) :: l', d, c => cond (Nat.beq t t') (deP l r l' d fun y => c (a, y)) none
 | _ :: _, _, [], _, _ => none
theorem Yb {Y : Type} : ∀ (l : List Nat) (r : LKs) (a : List (Nat × AV)) (d : List (Nat × AV) → (VT r → Option Y) → Option Y) (c : VT (psL l r) → Option Y) (z : Y), deP l r a d c = some z → ∃ (b : List (Nat × AV)) (c' : VT r → Option Y), d b c' = some z ∧ ∀ y, c' y = some z → ∃ v, psE l r v ++ b = a ∧ psR l r v = y ∧ c v = some z
 | [], r, a, d, c, z, h => ⟨a, c, h, fun y hy => ⟨y, rfl, rfl, hy⟩⟩
 | t :: l, r, (t', a) :: l', d, c, z, h => by
  simp only [deP] at h
  obtain ⟨h0, hz⟩ | ⟨_, hz⟩ := ae h
  ·cases Nat.eq_of_beq_eq_true h0
   obtain ⟨b, c', h1, h2⟩ := Yb _ _ _ _ _ _ hz
   refine ⟨b, c', h1, fun y hy => ?_⟩
   obtain ⟨v, h3, h4, h5⟩ := h2 y hy
   exact ⟨(a, v), by simp only [psE, List.cons_append, h3], by simp only [psR, h4], h5⟩
  ·cases hz
 | _ :: _, _, [], _, _, _, h => by simp [deP] at h
theorem Yc {Y : Type} : ∀ (l : List (Nat × Sh2)) (r : LKs) (a : List (Nat × AV)) (x : VT r) (c : VT (lvL (shs l) r) → Option Y) (z : Y), deS l r a x c = some z → ∃ v, Uj l (enL (shs l) r v).1 = a ∧ (enL (shs l) r v).2 = x ∧ c v = some z
 | [], _, [], x, c, z, h => ⟨x, rfl, rfl, h⟩
 | (t, h) :: l, r, (t', a) :: l', x, c, z, hh => by
  simp only [deS] at hh
  obtain ⟨h0, hz⟩ | ⟨_, hz⟩ := ae hh
  ·cases Nat.eq_of_beq_eq_true h0
   obtain ⟨y, h1, h1', h2⟩ := Yc _ _ _ _ _ _ hz
   obtain ⟨v, h3, h4⟩ := de_ok _ _ _ _ _ _ h2
   refine ⟨v, ?_, ?_, h4⟩
   ·simp only [shs, enL, h3, Uj, h1]
   ·simp only [shs, enL, h3, h1']
  ·cases hz
 | [], _, _ :: _, x, c, z, h => by simp [deS] at h
 | _ :: _, _, [], x, c, z, h => by simp [deS] at h
inductive OSh where
 | c (t : TypeId) (l : List Sh2)
 | m (l : List Sh2)
 | mI
 | rS (t : TypeId)
 | rI (t : TypeId) (k : IntKind)
 | rC (n : Nat)
 | rN (k : IntKind)
 | lp (key : Nat) (l : List Sh2)
 | bf (kind : Nat) (t : TypeId)
 | g
 | k (j : Nat)
abbrev prs : List AV → List (AV × AV)
 | a :: b :: r => (a, b) :: prs r
 | _ => []
def Zt : List (AV × AV) → List AV
 | [] => []
 | (a, b) :: r => a :: b :: Zt r
theorem SA : ∀ l, prs (Zt l) = l
 | [] => rfl
 | (a, b) :: r => by simp only [Zt, prs, SA r]
abbrev lvO : OSh → LKs → LKs
 | .c _ l, r => lvL l r
 | .m l, r => lvL l r
 | .mI, r => some .P :: r
 | .rS _, r => some .LS :: r
 | .rI _ _, r => some .LI :: r
 | .rC _, r => some .LL :: r
 | .rN _, r => some .LI :: r
 | .lp _ l, r => lvL l r
 | .bf _ _, r => some .LI :: r
 | .g, r => r
 | .k _, r => r
abbrev lvH : List OSh → LKs → LKs
 | [], r => r
 | h :: l, r => lvO h (lvH l r)
def enO : (h : OSh) → (r : LKs) → VT (lvO h r) → AObj × VT r
 | .c t l, r, v => (.cells t (enL l r v).1, (enL l r v).2)
 | .m l, r, v => (.map (prs (enL l r v).1), (enL l r v).2)
 | .mI, _, v => (.mapI v.1, v.2)
 | .rS t, _, v => (.rowS t v.1, v.2)
 | .rI t k, _, v => (.rowI t k v.1, v.2)
 | .rC n, _, v => (.rowC n v.1, v.2)
 | .rN k, _, v => (.rowN k v.1, v.2)
 | .lp key l, r, v => (.loop key (enL l r v).1, (enL l r v).2)
 | .bf k t, _, v => (.buf k t v.1, v.2)
 | .g, _, v => (.gone, v)
 | .k _, _, v => (.gone, v)
def enH : (l : List OSh) → (r : LKs) → VT (lvH l r) → List AObj × VT r
 | [], _, v => ([], v)
 | h :: l, r, v => ((enO h (lvH l r) v).1 :: (enH l r (enO h (lvH l r) v).2).1, (enH l r (enO h (lvH l r) v).2).2)
abbrev aa1 {Y : Type u} : (h : OSh) → (r : LKs) → VT (lvO h r) → (AObj → VT r → Y) → Y
 | .c t l, r, v, c => MG l r v fun az w => c (.cells t az) w
 | .m l, r, v, c => MG l r v fun az w => c (.map (prs az)) w
 | .mI, r, v, c => spl (A := LK.P.T) (B := VT r) v fun x w => c (.mapI x) w
 | .rS t, r, v, c => spl (A := LK.LS.T) (B := VT r) v fun x w => c (.rowS t x) w
 | .rI t k, r, v, c => spl (A := LK.LI.T) (B := VT r) v fun x w => c (.rowI t k x) w
 | .rC n, r, v, c => spl (A := LK.LL.T) (B := VT r) v fun x w => c (.rowC n x) w
 | .rN k, r, v, c => spl (A := LK.LI.T) (B := VT r) v fun x w => c (.rowN k x) w
 | .lp key l, r, v, c => MG l r v fun az w => c (.loop key az) w
 | .bf k t, r, v, c => spl (A := LK.LI.T) (B := VT r) v fun x w => c (.buf k t x) w
 | .g, _, v, c => c .gone v
 | .k _, _, v, c => c .gone v
abbrev Yd {Y : Type u} : (l : List OSh) → (r : LKs) → VT (lvH l r) → (List AObj → VT r → Y) → Y
 | [], _, v, c => c [] v
 | h :: l, r, v, c => aa1 h (lvH l r) v fun a w => Yd l r w fun az x => c (a :: az) x
theorem Zu {Y : Type u} : ∀ (h : OSh) (r : LKs) (v : VT (lvO h r)) (c : AObj → VT r → Y), aa1 h r v c = c (enO h r v).1 (enO h r v).2
 | .c t l, r, v, c => zC l r v _
 | .m l, r, v, c => zC l r v _
 | .mI, _, v, c => rfl
 | .rS t, _, v, c => rfl
 | .rI t k, _, v, c => rfl
 | .rC n, _, v, c => rfl
 | .rN k, _, v, c => rfl
 | .lp key l, r, v, c => zC l r v _
 | .bf k t, _, v, c => rfl
 | .g, _, v, c => rfl
 | .k _, _, v, c => rfl
theorem Rc {Y : Type u} : ∀ (l : List OSh) (r : LKs) (v : VT (lvH l r)) (c : List AObj → VT r → Y), Yd l r v c = c (enH l r v).1 (enH l r v).2
 | [], _, v, c => rfl
 | h :: l, r, v, c => by simp only [Yd, enH]; rw [Zu h (lvH l r) v]; exact Rc l r _ _
abbrev gtO : List AObj → Nat → AObj
 | [], _ => .gone
 | a :: _, 0 => a
 | _ :: l, j + 1 => gtO l j
abbrev abd {Y : Type u} (ins : List AObj) : (h : OSh) → (r : LKs) → OT (lvO h r) → (AObj → OT r → Y) → Y
 | .c t l, r, o, c => Lp l r o fun az w => c (.cells t az) w
 | .m l, r, o, c => Lp l r o fun az w => c (.map (prs az)) w
 | .mI, r, o, c => tkK (some .P) r o fun x w => c (.mapI x) w
 | .rS t, r, o, c => tkK (some .LS) r o fun x w => c (.rowS t x) w
 | .rI t k, r, o, c => tkK (some .LI) r o fun x w => c (.rowI t k x) w
 | .rC n, r, o, c => tkK (some .LL) r o fun x w => c (.rowC n x) w
 | .rN k, r, o, c => tkK (some .LI) r o fun x w => c (.rowN k x) w
 | .lp key l, r, o, c => Lp l r o fun az w => c (.loop key az) w
 | .bf k t, r, o, c => tkK (some .LI) r o fun x w => c (.buf k t x) w
 | .g, _, o, c => c .gone o
 | .k j, _, o, c => c (gtO ins j) o
abbrev Zv {Y : Type u} (ins : List AObj) : (l : List OSh) → (r : LKs) → OT (lvH l r) → (List AObj → OT r → Y) → Y
 | [], _, o, c => c [] o
 | h :: l, r, o, c => abd ins h (lvH l r) o fun a w => Zv ins l r w fun az x => c (a :: az) x
def deO {Y : Type} : (h : OSh) → (r : LKs) → AObj → VT r → (VT (lvO h r) → Option Y) → Option Y
 | .c t l, r, a, x, c => match a with
  | .cells t' l' => cond (Nat.beq t t') (deL l r l' x c) none
  | _ => none
 | .m l, r, a, x, c => match a with
  | .map es => deL l r (Zt es) x c
  | _ => none
 | .mI, _, a, x, c => match a with
  | .mapI n => c (n, x)
  | _ => none
 | .rS t, _, a, x, c => match a with
  | .rowS t' n => cond (Nat.beq t t') (c (n, x)) none
  | _ => none
 | .rI t k, _, a, x, c => match a with
  | .rowI t' k' n => cond (Nat.beq t t' && decide (k = k')) (c (n, x)) none
  | _ => none
 | .rC z, _, a, x, c => match a with
  | .rowC z' n => cond (Nat.beq z z') (c (n, x)) none
  | _ => none
 | .rN k, _, a, x, c => match a with
  | .rowN k' n => cond (decide (k = k')) (c (n, x)) none
  | _ => none
 | .lp key l, r, a, x, c => match a with
  | .loop key' l' => cond (Nat.beq key key') (deL l r l' x c) none
  | _ => none
 | .bf k t, _, a, x, c => match a with
  | .buf k' t' n => cond (Nat.beq k k' && Nat.beq t t') (c (n, x)) none
  | _ => none
 | .g, _, a, x, c => match a with
  | .gone => c x
  | _ => none
 | .k _, _, _, _, _ => none
theorem aau {Y : Type} : ∀ (h : OSh) (r : LKs) (a : AObj) (x : VT r) (c : VT (lvO h r) → Option Y) (z : Y), deO h r a x c = some z → ∃ v, enO h r v = (a, x) ∧ c v = some z
 | .c t l, r, a, x, c, z, hh => by
  simp only [deO] at hh; split at hh
  ·obtain ⟨h0, hz⟩ | ⟨_, hz⟩ := ae hh
   ·cases Nat.eq_of_beq_eq_true h0
    obtain ⟨v, h1, h2⟩ := FX _ _ _ _ _ _ hz; exact ⟨v, by simp only [enO, h1], h2⟩
   ·cases hz
  ·cases hh
 | .lp t l, r, a, x, c, z, hh => by
  simp only [deO] at hh; split at hh
  ·obtain ⟨h0, hz⟩ | ⟨_, hz⟩ := ae hh
   ·cases Nat.eq_of_beq_eq_true h0
    obtain ⟨v, h1, h2⟩ := FX _ _ _ _ _ _ hz; exact ⟨v, by simp only [enO, h1], h2⟩
   ·cases hz
  ·cases hh
 | .m l, r, a, x, c, z, hh => by
  simp only [deO] at hh; split at hh
  ·obtain ⟨v, h1, h2⟩ := FX _ _ _ _ _ _ hh; exact ⟨v, by simp only [enO, h1, SA], h2⟩
  ·cases hh
 | .mI, r, a, x, c, z, hh => by
  simp only [deO] at hh; split at hh
  ·exact ⟨(_, x), rfl, hh⟩
  ·cases hh
 | .g, r, a, x, c, z, hh => by
  simp only [deO] at hh; split at hh
  ·exact ⟨x, rfl, hh⟩
  ·cases hh
 | .k _, r, a, x, c, z, hh => by simp [deO] at hh
 | .rS t, r, a, x, c, z, hh => by
  simp only [deO] at hh; split at hh
  ·obtain ⟨h1, hz⟩ | ⟨_, hz⟩ := ae hh
   ·cases Nat.eq_of_beq_eq_true h1; exact ⟨(_, x), rfl, hz⟩
   ·cases hz
  ·cases hh
 | .rC t, r, a, x, c, z, hh => by
  simp only [deO] at hh; split at hh
  ·obtain ⟨h1, hz⟩ | ⟨_, hz⟩ := ae hh
   ·cases Nat.eq_of_beq_eq_true h1; exact ⟨(_, x), rfl, hz⟩
   ·cases hz
  ·cases hh
 | .rN k, r, a, x, c, z, hh => by
  simp only [deO] at hh; split at hh
  ·obtain ⟨h1, hz⟩ | ⟨_, hz⟩ := ae hh
   ·cases of_decide_eq_true h1; exact ⟨(_, x), rfl, hz⟩
   ·cases hz
  ·cases hh
 | .rI t k, r, a, x, c, z, hh => by
  simp only [deO] at hh; split at hh
  ·obtain ⟨h1, hz⟩ | ⟨_, hz⟩ := ae hh
   ·simp only [Bool.and_eq_true, decide_eq_true_eq, Nat.beq_eq] at h1; obtain ⟨rfl, rfl⟩ := h1; exact ⟨(_, x), rfl, hz⟩
   ·cases hz
  ·cases hh
 | .bf t k, r, a, x, c, z, hh => by
  simp only [deO] at hh; split at hh
  ·obtain ⟨h1, hz⟩ | ⟨_, hz⟩ := ae hh
   ·simp only [Bool.and_eq_true, Nat.beq_eq] at h1; obtain ⟨rfl, rfl⟩ := h1; exact ⟨(_, x), rfl, hz⟩
   ·cases hz
  ·cases hh
def deH {Y : Type} : (l : List OSh) → (r : LKs) → List AObj → VT r → (VT (lvH l r) → Option Y) → Option Y
 | [], _, [], x, c => c x
 | h :: l, r, a :: l', x, c => deH l r l' x fun y => deO h (lvH l r) a y c
 | _, _, _, _, _ => none
theorem Uk {Y : Type} : ∀ (l : List OSh) (r : LKs) (a : List AObj) (x : VT r) (c : VT (lvH l r) → Option Y) (z : Y), deH l r a x c = some z → ∃ v, enH l r v = (a, x) ∧ c v = some z
 | [], _, [], x, c, z, h => ⟨x, rfl, h⟩
 | h :: l, r, a :: l', x, c, z, hh => by
  simp only [deH] at hh
  obtain ⟨y, h1, h2⟩ := Uk _ _ _ _ _ _ hh
  obtain ⟨v, h3, h4⟩ := aau _ _ _ _ _ _ h2
  exact ⟨v, by simp only [enH, h3, h1], h4⟩
 | [], _, _ :: _, x, c, z, h => by simp [deH] at h
 | _ :: _, _, [], x, c, z, h => by simp [deH] at h
theorem Vf : ∀ (l : List Sh2) (r : LKs) (v : VT (lvL l r)), (enL l r v).1.length = l.length
 | [], _, _ => rfl
 | h :: l, r, v => by simp only [enL, List.length_cons, Vf l r]
theorem Vg : ∀ (l : List OSh) (r : LKs) (v : VT (lvH l r)), (enH l r v).1.length = l.length
 | [], _, _ => rfl
 | h :: l, r, v => by simp only [enH, List.length_cons, Vg l r]
structure OutS where
 e : AExit
 ks : List Nat
 sl : List (Nat × Sh2)
 hp : List OSh
 gc : Option Nat
abbrev OutS.ls (b : Bool) (u : OutS) : LKs := lvL (shs u.sl) (cond b (lvH u.hp []) [])
abbrev outT (b : Bool) : List OutS → Type
 | [] => Empty
 | [u] => OT (u.ls b)
 | u :: us => OT (u.ls b) ⊕ outT b us
abbrev gtA : List (Nat × AV) → Nat → AV
 | [], _ => .undef
 | (u, a) :: l, t => cond (Nat.beq u t) a (gtA l t)
abbrev Ye (ins : List (Nat × AV)) : List Nat → List (Nat × AV) → List (Nat × AV)
 | [], b => b
 | t :: l, b => (t, gtA ins t) :: Ye ins l b
abbrev Ws (ins : St) (u : OutS) (o : OT (u.ls false)) (R : Type) (K : AExit → St → Option R) : Option R := Lp (shs u.sl) [] o fun vs _ => K u.e ⟨Ye ins.slots u.ks (Uj u.sl vs), ins.heap⟩
abbrev Qh (ins : St) (u : OutS) (o : OT (u.ls true)) (R : Type) (K : AExit → St → Option R) : Option R :=
 Lp (shs u.sl) (lvH u.hp []) o fun vs w => Zv ins.heap u.hp [] w fun hs _ => K u.e ⟨Ye ins.slots u.ks (Uj u.sl vs), hs⟩
abbrev kF (ins : St) : (us : List OutS) → outT false us → (R : Type) → (AExit → St → Option R) → Option R
 | [], _, _, _ => none
 | [u], o, R, K => Ws ins u o R K
 | u :: u2 :: us, o, R, K => Sum.elim (fun a => Ws ins u a R K) (fun b => kF ins (u2 :: us) b R K) o
abbrev kTo (ins : St) : (us : List OutS) → outT true us → (R : Type) → (AExit → St → Option R) → Option R
 | [], _, _, _ => none
 | [u], o, R, K => Qh ins u o R K
 | u :: u2 :: us, o, R, K => Sum.elim (fun a => Qh ins u a R K) (fun b => kTo ins (u2 :: us) b R K) o
def SB : AExit → AExit → Bool
 | .normal, .normal => true
 | .ret, .ret => true
 | .exit a, .exit b => Nat.beq a b
 | _, _ => false
def MH : List OutS → AExit → List Nat × Option Nat
 | [], _ => ([], none)
 | u :: us, e => cond (SB u.e e) (u.ks ++ tns u.sl, u.gc) (MH us e)
structure PS where
 ps : List Nat
 sl : List (Nat × Sh2)
 hp : Option (List OSh)
 outs : List OutS
 gi : Option Nat
 gl : Option Nat
abbrev PS.tail (S : PS) : LKs := match S.hp with
 | none => []
 | some h => lvH h []
abbrev PS.l1 (S : PS) : LKs := lvL (shs S.sl) S.tail
abbrev PS.ls (S : PS) : LKs := psL S.ps S.l1
abbrev PS.O (S : PS) : Type := outT S.hp.isSome S.outs
def hpS : (h : Option (List OSh)) → VT (match h with | none => [] | some h => lvH h []) → List AObj
 | none, v => v
 | some h, v => (enH h [] v).1
def PS.st (S : PS) (v : VT S.ls) : St := ⟨psE S.ps S.l1 v ++ Uj S.sl (enL (shs S.sl) S.tail (psR S.ps S.l1 v)).1, hpS S.hp (enL (shs S.sl) S.tail (psR S.ps S.l1 v)).2⟩
abbrev hpK {Y : Type u} : (h : Option (List OSh)) → VT (match h with | none => [] | some h => lvH h []) → (List AObj → Y) → Y
 | none, v, c => c v
 | some h, v, c => Yd h [] v fun hs _ => c hs
abbrev PS.stK {Y : Type u} (S : PS) (v : VT S.ls) (c : St → Y) : Y := psK S.ps S.l1 v fun b w => MG (shs S.sl) S.tail w fun vs x => hpK S.hp x fun H => c ⟨b ++ Uj S.sl vs, H⟩
theorem PS.OH {Y : Type u} (S : PS) (v : VT S.ls) (c : St → Y) : S.stK v c = c (S.st v) := by
 refine (Ya S.ps S.l1 v _).trans ((zC (shs S.sl) S.tail (psR S.ps S.l1 v) _).trans ?_)
 obtain ⟨ps, sl, hp, outs, gi, gl⟩ := S
 cases hp with
 | none => rfl
 | some h => exact Rc _ _ _ _
def dhS {Y : Type} : (h : Option (List OSh)) → List AObj → (VT (match h with | none => [] | some h => lvH h []) → Option Y) → Option Y
 | none, H, c => c H
 | some h, H, c => deH h [] H ([] : List AObj) c
theorem aav {Y : Type} {h : Option (List OSh)} {H : List AObj} {c : VT (match h with | none => [] | some h => lvH h []) → Option Y} {z : Y} (hh : dhS h H c = some z) : ∃ v, hpS h v = H ∧ c v = some z := by
 cases h with
 | none => exact ⟨H, rfl, hh⟩
 | some h =>
  obtain ⟨v, h1, h2⟩ := Uk _ _ _ _ _ _ hh
  exact ⟨v, by simp only [hpS, h1], h2⟩
def PS.de {Y : Type} (S : PS) (s : St) (c : VT S.ls → Option Y) : Option Y := dhS S.hp s.heap fun y => deP S.ps S.l1 s.slots (fun b c => deS S.sl S.tail b y c) c
theorem PS.de_ok {Y : Type} {S : PS} {s : St} {c : VT S.ls → Option Y} {z : Y} (h : S.de s c = some z) : ∃ v, S.st v = s ∧ c v = some z := by
 obtain ⟨y, h1, h2⟩ := aav h
 obtain ⟨b, c', h3, h4⟩ := Yb _ _ _ _ _ _ h2
 obtain ⟨u, h5, h6, h7⟩ := Yc _ _ _ _ _ _ h3
 obtain ⟨v, h8, h9, h10⟩ := h4 u h7
 refine ⟨v, ?_, h10⟩
 unfold PS.st
 rw [h9, h5, h6, h1, h8]
abbrev kS (ins : St) (us : List OutS) : (b : Bool) → outT b us → (R : Type) → (AExit → St → Option R) → Option R
 | false, o, R, K => kF ins us o R K
 | true, o, R, K => kTo ins us o R K
abbrev PS.k (S : PS) (v : VT S.ls) (o : S.O) (R : Type) (K : AExit → St → Option R) : Option R := S.stK v fun s => kS s S.outs S.hp.isSome o R K
def PS.x0 (S : PS) (f : zh S.ls (Option S.O)) : Ex := fun s R K => S.de s fun v => (ap S.ls f v).bind fun o => S.k v o R K
def PS.x (S : PS) (f : zh S.ls (Option S.O)) : Ex := GM (S.ps ++ tns S.sl, S.gi) (S.x0 f)
def PS.mL (S : PS) : AExit → List Nat × Option Nat
 | .normal => (S.ps ++ tns S.sl, S.gl)
 | e => MH S.outs e
def okG (nb : Nat) : Option Nat → Bool
 | none => true
 | some n => Nat.beq n nb
def PS.okN (S : PS) (nb : Nat) : Bool := okG nb S.gi && (okG nb S.gl && S.outs.all fun u => okG nb u.gc)
theorem Re {nb n : Nat} {o : Option Nat} (h : okG nb o = true) (hn : o = some n) : n = nb := by subst hn; exact Nat.eq_of_beq_eq_true h
theorem JC {nb : Nat} : ∀ {us : List OutS} {e : AExit} {n : Nat}, (us.all fun u => okG nb u.gc) = true → (MH us e).2 = some n → n = nb
 | [], e, n, _, h => by cases h
 | u :: us, e, n, ha, h => by
  simp only [List.all_cons, Bool.and_eq_true] at ha
  simp only [MH] at h
  cases hb : SB u.e e with
  | true => rw [hb] at h; exact Re ha.1 h
  | false => rw [hb] at h; exact JC ha.2 h
abbrev Wt {O : Type} : (l : LKs) → zh l ((R : Type) → (O → Option R) → Option R) → Prop
 | [], b => ∀ (R R' : Type) (K : O → Option R) (J : R → Option R'), (b R K).bind J = b R' fun o => (K o).bind J
 | none :: r, b => Wt r b
 | some _ :: r, b => ∀ x, Wt r (b x)
theorem OI {O : Type} : ∀ {l : LKs} {b : zh l ((R : Type) → (O → Option R) → Option R)}, Wt l b → ∀ (v : VT l) (R R' : Type) (K : O → Option R) (J : R → Option R'), (ap l b v R K).bind J = ap l b v R' fun o => (K o).bind J
 | [], b, h, v, R, R', K, J => h R R' K J
 | none :: r, b, h, v, R, R', K, J => OI (l := r) h v.2 R R' K J
 | some _ :: r, b, h, v, R, R', K, J => OI (l := r) (h v.1) v.2 R R' K J
abbrev Yf {R R' : Type} (J : R → Option R') : (l : LKs) → zh l (Option R) → zh l (Option R')
 | [], A => (show Option R from A).bind J
 | none :: r, A => Yf J r A
 | some _ :: r, A => fun x => Yf J r (A x)
abbrev Yg {O : Type} (l0 : LKs) : (l : LKs) → zh l ((R : Type) → zh l0 (Option R) → (O → Option R) → Option R) → Prop
 | [], b => ∀ (R R' : Type) (A : zh l0 (Option R)) (K : O → Option R) (J : R → Option R'), (b R A K).bind J = b R' (Yf J l0 A) fun o => (K o).bind J
 | none :: r, b => Yg l0 r b
 | some _ :: r, b => ∀ x, Yg l0 r (b x)
theorem Rf {O : Type} {l0 : LKs} : ∀ {l : LKs} {b : zh l ((R : Type) → zh l0 (Option R) → (O → Option R) → Option R)}, Yg l0 l b → ∀ (v : VT l) (R R' : Type) (A : zh l0 (Option R)) (K : O → Option R) (J : R → Option R'), (ap l b v R A K).bind J = ap l b v R' (Yf J l0 A) fun o => (K o).bind J
 | [], b, h, v, R, R', A, K, J => h R R' A K J
 | none :: r, b, h, v, R, R', A, K, J => Rf (l := r) h v.2 R R' A K J
 | some _ :: r, b, h, v, R, R', A, K, J => Rf (l := r) (h v.1) v.2 R R' A K J
theorem OJ {R R' : Type} {J : R → Option R'} : ∀ {l : LKs} {v : VT l} {g : VT l → Option R}, Yf J l (cuW l v g) = cuW l v fun z => (g z).bind J
 | [], v, g => rfl
 | none :: r, v, g => OJ (l := r)
 | some _ :: r, v, g => funext fun x => OJ (l := r)
def pth : Nat → Nat → Code → Code
 | 0, _, c => c
 | f + 1, k, c => cond (Nat.ble k 1) c (pth f (k / 2) (cond (Nat.beq (k % 2) 0) c.a1 c.a2))
abbrev fb (fn : Func) (k : Nat) : Code := pth 80 k (fn.body.getD .skip)
variable {c : Cx}
theorem kH {S : PS} {b : zh S.ls ((R : Type) → (S.O → Option R) → Option R)} {f : zh S.ls (Option S.O)} {cd : Code} (ht : HT) (hnat : Wt S.ls b) {Q : Prop} (hk : Q)
 (heq : ∀ v R K, (S.stK v fun s => Pz (MH S.outs) (comp c.P cd ht) s R K) = ap S.ls b v R fun o => S.k v o R K := by intros; kernel_rfl)
 (hf : ∀ v, ap S.ls f v = ap S.ls b v S.O some := by intros; kernel_rfl) (hN : S.okN c.nb = true := by kernel_rfl) (hc : chk c cd ht = true := by kernel_rfl) (hq : HTK c cd ht True = Q := by kernel_rfl) : Snd c (S.x f) cd := by
 simp only [PS.okN, Bool.and_eq_true] at hN
 refine Kq (fun n h => Re hN.1 h) ?_
 refine Xp (x := Pz (MH S.outs) (comp c.P cd ht)) (fun s R K r h => ?_) (RP (fun e n h => JC hN.2.2 h) (xw cd ht True hc (hq.symm ▸ hk)).1)
 unfold PS.x0 at h
 obtain ⟨v, rfl, hz⟩ := PS.de_ok h
 have heq := heq v R K
 rw [PS.OH] at heq
 rw [heq]
 rw [hf, OI hnat] at hz
 exact hz
theorem Qi {S : PS} {x : Ex} {b : zh S.ls ((R : Type) → zh S.ls (Option R) → (S.O → Option R) → Option R)} {f : Nat → zh S.ls (Option S.O)} (hnat : Yg S.ls S.ls b)
 (heq : ∀ v R K, x (S.st v) R K = ap S.ls b v R (cuW S.ls v fun z => K .normal (S.st z)) fun o => S.k v o R K)
 (h0 : ∀ v, ap S.ls (f 0) v = none) (hs : ∀ m v, ap S.ls (f (m + 1)) v = ap S.ls b v S.O (f m) some) (hc : ∀ m v, f m = cuW S.ls v fun z => ap S.ls (f m) z)
 (hk : ∀ v o (R : Type) (L : St → Option R) (K : AExit → St → Option R), S.k v o R (fun e s => match e with | .normal => L s | e => K e s) = S.k v o R K)
 (hi : ∀ v (R : Type) (K : AExit → St → Option R) (F : VT S.ls → (S.O → Option R) → Option R) G, ap S.ls b v R (cuW S.ls v fun z => F z fun o => S.k z o R K) G = ap S.ls b v R (cuW S.ls v fun z => F z fun o => S.k v o R K) G) :
 ∀ (n : Nat) (v : VT S.ls) (R : Type) (K : AExit → St → Option R), Iu x n (S.st v) R K = (ap S.ls (f n) v).bind fun o => S.k v o R K
 | 0, v, R, K => by rw [h0]; rfl
 | n + 1, v, R, K => by
  have ih := Qi hnat heq h0 hs hc hk hi n
  rw [hs, Rf hnat, hc n v, OJ]
  simp only [Iu]
  rw [heq]
  have h1 : (fun z => Iu x n (S.st z) R K) = fun z => (ap S.ls (f n) z).bind fun o => S.k z o R K := funext fun z => ih z R K
  have h2 : (fun o => S.k v o R fun e s => match e with | .normal => Iu x n s R K | e => K e s) = fun o => (some o).bind fun o => S.k v o R K := funext fun o => hk v o R (fun s => Iu x n s R K) K
  refine (congrArg (fun A => ap S.ls b v R (cuW S.ls v A) _) h1).trans ((hi v R K (fun z q => (ap S.ls (f n) z).bind q) _).trans ?_)
  exact congrArg (fun A => ap S.ls b v R _ A) h2
theorem Ul {D : Type u} : ∀ {l : LKs} {f : zh l D} {v : VT l}, f = cuW l v fun z => ap l f z
 | [], f, v => rfl
 | none :: r, f, v => Ul (l := r)
 | some _ :: r, f, v => funext fun x => Ul (l := r)
def noN : List OutS → Bool
 | [] => true
 | u :: us => !SB u.e .normal && noN us
theorem Nb {R : Type} {L : St → Option R} {K : AExit → St → Option R} {s : St} : ∀ e : AExit, (!SB e .normal) = true → (match e with | .normal => L s | e => K e s) = K e s := by
 intro e h
 cases e <;> first | rfl | cases h
theorem Vh {ins : St} {R : Type} {L : St → Option R} {K : AExit → St → Option R} {u : OutS} {o : OT (u.ls false)} (h : (!SB u.e .normal) = true) : Ws ins u o R (fun e s => match e with | .normal => L s | e => K e s) = Ws ins u o R K :=
 congrArg (Lp (shs u.sl) [] o) (funext fun _ => funext fun _ => Nb _ h)
theorem SC {ins : St} {R : Type} {L : St → Option R} {K : AExit → St → Option R} {u : OutS} {o : OT (u.ls true)} (h : (!SB u.e .normal) = true) : Qh ins u o R (fun e s => match e with | .normal => L s | e => K e s) = Qh ins u o R K :=
 congrArg (Lp (shs u.sl) (lvH u.hp []) o) (funext fun _ => funext fun w => congrArg (Zv ins.heap u.hp [] w) (funext fun _ => funext fun _ => Nb _ h))
theorem Z6 {ins : St} {R : Type} {L : St → Option R} {K : AExit → St → Option R} : ∀ {us : List OutS} {o : outT false us}, noN us = true → kF ins us o R (fun e s => match e with | .normal => L s | e => K e s) = kF ins us o R K
 | [], o, h => rfl
 | [u], o, h => by
  simp only [noN, Bool.and_true] at h
  exact Vh h
 | u :: u2 :: us, o, h => by
  have h' : (!SB u.e .normal && noN (u2 :: us)) = true := h
  simp only [Bool.and_eq_true] at h'
  simp only [kF]
  have h1 : (fun a => Ws ins u a R fun e s => match e with | .normal => L s | e => K e s) = fun a => Ws ins u a R K := funext fun a => Vh h'.1
  have h2 : (fun b => kF ins (u2 :: us) b R fun e s => match e with | .normal => L s | e => K e s) = fun b => kF ins (u2 :: us) b R K := funext fun b => Z6 h'.2
  rw [h2]
  exact congrArg (fun g => Sum.elim g _ o) h1
theorem Yh {ins : St} {R : Type} {L : St → Option R} {K : AExit → St → Option R} : ∀ {us : List OutS} {o : outT true us}, noN us = true → kTo ins us o R (fun e s => match e with | .normal => L s | e => K e s) = kTo ins us o R K
 | [], o, h => rfl
 | [u], o, h => by
  simp only [noN, Bool.and_true] at h
  exact SC h
 | u :: u2 :: us, o, h => by
  have h' : (!SB u.e .normal && noN (u2 :: us)) = true := h
  simp only [Bool.and_eq_true] at h'
  simp only [kTo]
  have h1 : (fun a => Qh ins u a R fun e s => match e with | .normal => L s | e => K e s) = fun a => Qh ins u a R K := funext fun a => SC h'.1
  have h2 : (fun b => kTo ins (u2 :: us) b R fun e s => match e with | .normal => L s | e => K e s) = fun b => kTo ins (u2 :: us) b R K := funext fun b => Yh h'.2
  rw [h2]
  exact congrArg (fun g => Sum.elim g _ o) h1
theorem abe {S : PS} (h : noN S.outs = true) (v : VT S.ls) (o : S.O) (R : Type) (L : St → Option R) (K : AExit → St → Option R) : S.k v o R (fun e s => match e with | .normal => L s | e => K e s) = S.k v o R K := by
 unfold PS.k
 rw [PS.OH, PS.OH]
 obtain ⟨ps, sl, hp, outs, gi, gl⟩ := S
 cases hp with
 | none => exact Z6 h
 | some hp => exact Yh h
theorem aa2 {S : PS} {nb : Nat} (h : S.okN nb = true) (e : AExit) (n : Nat) (hn : (S.mL e).2 = some n) : n = nb := by
 simp only [PS.okN, Bool.and_eq_true] at h
 cases e with
 | normal => exact Re h.2.1 hn
 | exit id => exact JC h.2.2 hn
 | ret => exact JC h.2.2 hn
theorem rW {S : PS} {b : zh S.ls ((R : Type) → zh S.ls (Option R) → (S.O → Option R) → Option R)} {f : Nat → zh S.ls (Option S.O)} {cd : Code} (n : Nat) (ht : HT) (hnat : Yg S.ls S.ls b) {Q : Prop} (hh : Q)
 (heq : ∀ v R K, (S.stK v fun s => Pz S.mL (comp c.P cd ht) s R K) = ap S.ls b v R (cuW S.ls v fun z => S.stK z fun s => K .normal s) fun o => S.k v o R K := by intros; kernel_rfl)
 (h0 : ∀ v, ap S.ls (f 0) v = none := by intros; kernel_rfl) (hs : ∀ m v, ap S.ls (f (m + 1)) v = ap S.ls b v S.O (f m) some := by intros; kernel_rfl)
 (hi : ∀ v (R : Type) (K : AExit → St → Option R) (F : VT S.ls → (S.O → Option R) → Option R) G, ap S.ls b v R (cuW S.ls v fun z => F z fun o => S.k z o R K) G = ap S.ls b v R (cuW S.ls v fun z => F z fun o => S.k v o R K) G := by intros; kernel_rfl)
 (hno : noN S.outs = true := by kernel_rfl) (hN : S.okN c.nb = true := by kernel_rfl) (hc : chk c cd ht = true := by kernel_rfl) (hq : HTK c cd ht True = Q := by kernel_rfl) : Snd c (S.x (f n)) (.loop cd) := by
 have hN' := hN
 simp only [PS.okN, Bool.and_eq_true] at hN'
 refine Kq (fun n h => Re hN'.1 h) ?_
 refine Xp (x := Iu (Pz S.mL (comp c.P cd ht)) n) (fun s R K r h => ?_) (Xn n (RP (aa2 hN) (xw cd ht True hc (hq.symm ▸ hh)).1))
 unfold PS.x0 at h
 obtain ⟨v, rfl, hz⟩ := PS.de_ok h
 have heq2 : ∀ v R K, Pz S.mL (comp c.P cd ht) (S.st v) R K = ap S.ls b v R (cuW S.ls v fun z => K .normal (S.st z)) fun o => S.k v o R K := fun v R K => by
  have h := heq v R K
  rw [PS.OH] at h
  rw [h]
  exact congrArg (fun g => ap S.ls b v R (cuW S.ls v g) _) (funext fun z => PS.OH S z _)
 rw [Qi hnat heq2 h0 hs (fun m v => Ul) (abe hno) hi n v R K]
 exact hz
structure FS where
 args : List Sh2
 hp : List OSh
 alts : List (List Sh2 × List OSh)
abbrev FS.ls (S : FS) : LKs := lvL S.args (lvH S.hp [])
abbrev aaw (u : List Sh2 × List OSh) : LKs := lvL u.1 (lvH u.2 [])
abbrev aax : List (List Sh2 × List OSh) → Type
 | [] => Empty
 | [u] => OT (aaw u)
 | u :: us => OT (aaw u) ⊕ aax us
abbrev FS.O (S : FS) : Type := aax S.alts
abbrev aa3 (ins : List AObj) (u : List Sh2 × List OSh) (o : OT (aaw u)) {R : Type} (K : AV → List AObj → Option R) : Option R :=
 Lp u.1 (lvH u.2 []) o fun vs w => Zv ins u.2 [] w fun hs _ => K (Ml vs) hs
abbrev kAl (ins : List AObj) : (us : List (List Sh2 × List OSh)) → aax us → (R : Type) → (AV → List AObj → Option R) → Option R
 | [], _, _, _ => none
 | [u], o, _, K => aa3 ins u o K
 | u :: u2 :: us, o, R, K => Sum.elim (fun a => aa3 ins u a K) (fun b => kAl ins (u2 :: us) b R K) o
def FS.de {Y : Type} (S : FS) (vs : List AV) (hs : List AObj) (c : VT S.ls → Option Y) : Option Y := deH S.hp [] hs ([] : List AObj) fun y => deL S.args _ vs y c
def FS.av (S : FS) (v : VT S.ls) : List AV := (enL S.args (lvH S.hp []) v).1
def FS.ho (S : FS) (v : VT S.ls) : List AObj := (enH S.hp [] (enL S.args (lvH S.hp []) v).2).1
abbrev FS.inK {Y : Type u} (S : FS) (v : VT S.ls) (c : List AV → List AObj → Y) : Y := MG S.args (lvH S.hp []) v fun vs w => Yd S.hp [] w fun hs _ => c vs hs
theorem FS.Rh {Y : Type u} (S : FS) (v : VT S.ls) (c : List AV → List AObj → Y) : S.inK v c = c (S.av v) (S.ho v) := by
 exact (zC S.args (lvH S.hp []) v _).trans (Rc S.hp [] _ _)
theorem FS.de_ok {Y : Type} {S : FS} {vs : List AV} {hs : List AObj} {c : VT S.ls → Option Y} {z : Y} (h : S.de vs hs c = some z) : ∃ v, S.av v = vs ∧ S.ho v = hs ∧ c v = some z := by
 obtain ⟨y, h1, h2⟩ := Uk _ _ _ _ _ _ h
 obtain ⟨v, h3, h4⟩ := FX _ _ _ _ _ _ h2
 exact ⟨v, by unfold FS.av; rw [h3], by unfold FS.ho; rw [h3, h1], h4⟩
theorem FS.Yi {S : FS} (v : VT S.ls) : (S.av v).length = S.args.length := Vf _ _ _
theorem FS.Yj {S : FS} (v : VT S.ls) : (S.ho v).length = S.hp.length := Vg _ _ _
def FS.sp (S : FS) (f : zh S.ls (Option S.O)) : FSpec := fun vs hs R K => S.de vs hs fun v => (ap S.ls f v).bind fun o => kAl hs S.alts o R K
def FS.p (S : FS) (vs : List AV) (hs : List AObj) : Option (VT S.ls) := S.de vs hs some
theorem fs2 {P : Program} {i : FuncId} {fn : Func} {cd : Code} {nt : Nat} {S : FS} {b : zh S.ls ((R : Type) → (S.O → Option R) → Option R)} {f : zh S.ls (Option S.O)} (hf : P.funcs[i]? = some fn) (hb : fn.body = some cd) (hnt : fn.ntmps = nt) (rs : List RV) (ht : HT) (hnat : Wt S.ls b) {Q : Prop} (hh : Q)
 (hn : (fn.name == "runtime.NumGoroutine") = false := by kernel_rfl) (hres : fn.results = (rs.map RV.var).toArray := by rfl) (hnd : (RV.slots rs).Nodup := by decide) (hrv : TV P rs = true := by kernel_rfl)
 (hlt : Nat.ble S.args.length nt = true := by kernel_rfl)
 (heq : ∀ v R K, (S.inK v fun vs hs => comp P cd ht ⟨Ej 0 vs, hs⟩ R (fun x s => Ry rs (some S.hp.length) x s K)) = S.inK v fun _ hs => ap S.ls b v R fun o => kAl hs S.alts o R K := by intros; kernel_rfl)
 (hfb : ∀ v, ap S.ls f v = ap S.ls b v S.O some := by intros; kernel_rfl)
 (hc : chk ⟨P, S.hp.length, nt⟩ cd ht = true := by kernel_rfl) (hq : HTK ⟨P, S.hp.length, nt⟩ cd ht True = Q := by kernel_rfl) : FSound P i (S.sp f) :=
 VY (ex := comp P cd ht) (n := some S.hp.length) hf hn hb hnt hres (fun m h => by cases h; rfl) hnd hrv (xw (c := ⟨P, S.hp.length, nt⟩) cd ht True hc (hq.symm ▸ hh)).1 fun args H R k r hr => by
  unfold FS.sp at hr
  obtain ⟨v, rfl, rfl, hz⟩ := FS.de_ok hr
  refine ⟨by rw [FS.Yi]; exact Nat.le_of_ble_eq_true hlt, FS.Yj v, ?_⟩
  have heq := heq v R k
  rw [FS.Rh, FS.Rh] at heq
  rw [heq]
  rw [hfb, OI hnat] at hz
  exact hz
theorem Um {P : Program} {key nt : Nat} {ps sl : List Nat} {ca cb : Code} {S : FS} {b : zh S.ls ((R : Type) → (S.O → Option R) → Option R)} {f : zh S.ls (Option S.O)} (hm : aB key = ⟨ps, ca, cb, sl, nt⟩) (hta htb : HT) (hnat : Wt S.ls b) {Qa Qb : Prop} (hha : Qa) (hhb : Qb)
 (hn : (ps ++ sl).Nodup := by decide) (hlt : ∀ t ∈ ps, t < nt := by decide) (hra : rfn ca = false := by kernel_rfl) (hrb : rfn cb = false := by kernel_rfl)
 (hl : Nat.beq S.args.length (ps ++ sl).length = true := by kernel_rfl)
 (heq : ∀ (v : VT S.ls) (R : Type) (K : AV → List AObj → Option R), (S.inK v fun vs hs => Vz (comp P ca hta) (comp P cb htb) ⟨(ps ++ sl).zip (disownL vs), hs⟩ R (fun e s => match e with | .normal => Ry [] (some S.hp.length) .normal s fun _ h => K (.bool true) h | _ => none)) = S.inK v fun _ hs => ap S.ls b v R fun o => kAl hs S.alts o R K := by intros; kernel_rfl)
 (hfb : ∀ v, ap S.ls f v = ap S.ls b v S.O some := by intros; kernel_rfl)
 (hca : chk ⟨P, S.hp.length, nt⟩ ca hta = true := by kernel_rfl) (hqa : HTK ⟨P, S.hp.length, nt⟩ ca hta True = Qa := by kernel_rfl) (hcb : chk ⟨P, S.hp.length, nt⟩ cb htb = true := by kernel_rfl) (hqb : HTK ⟨P, S.hp.length, nt⟩ cb htb True = Qb := by kernel_rfl) : RSound P key (S.sp f) := by
 have h1 : (aB key).params = ps := by rw [hm]
 have h2 : (aB key).assign = ca := by rw [hm]
 have h3 : (aB key).body = cb := by rw [hm]
 have h4 : (aB key).slots = sl := by rw [hm]
 have h5 : (aB key).nt = nt := by rw [hm]
 refine VZ (nb := S.hp.length) (ea := comp P ca hta) (eb := comp P cb htb) (n := some S.hp.length) (by rw [h1, h4]; exact hn) (by rw [h1, h5]; exact hlt) (by rw [h2, h5]; exact (xw (c := ⟨P, S.hp.length, nt⟩) ca hta True hca (hqa.symm ▸ hha)).1) (by rw [h3, h5]; exact (xw (c := ⟨P, S.hp.length, nt⟩) cb htb True hcb (hqb.symm ▸ hhb)).1) (by rw [h2]; exact hra) (by rw [h3]; exact hrb) (fun m h => by cases h; rfl) fun args H R k r hr => ?_
 unfold FS.sp at hr
 rw [h1, h4]
 obtain ⟨v, rfl, rfl, hz⟩ := FS.de_ok hr
 refine ⟨by rw [FS.Yi]; exact Nat.eq_of_beq_eq_true hl, FS.Yj v, ?_⟩
 have heq := heq v R k
 rw [FS.Rh, FS.Rh] at heq
 refine heq.trans ?_
 rw [hfb, OI hnat] at hz
 exact hz
end Go.Sh
namespace Go.Sh
universe u
variable {A0 A1 : Type} {D : Type u}
variable {E : Type}
abbrev W0 : Type := Bool × (List (List AV)) × (List Int) × (List Int) × Str
abbrev W1 : Type := Int × (List (List AV)) × (List Int) × (List Int) × Str
abbrev W2 : Type := Bool × Int × Int × Int × Int × Int
abbrev W3 : Type := Bool × Str × Str × Int × Int × Int × Int × Int × Int × Int × Int × Int × Int × Int × Int
abbrev W4 : Type := Str × Str × Int × Int × Int × Int × Int × Int × Int × Int × Int × Int × Int × Int × Str × Bool × Str × Str × Int × Int × Int × Int × Int × Int × Int × Int × Int × Int × Int × Int
abbrev W5 : Type := (List (List AV)) × (List Int) × (List Int) × Str × (List (List AV)) × (List Int) × (List Int) × Str × (List (List AV)) × (List Int) × (List Int) × Str
abbrev W6 : Type := Int × Int × Str × Int × Bool
abbrev W7 : Type := Str × Int × Bool × Int × Int × Int × Int × Int × Int × Int × Int × Int × Int
abbrev W8 : Type := Str × Str × Int × Int × Int × Int × Int × Int × Int × Int × Int × Int × Int × Int × Str × Int × Bool × Str × Str × Int × Int × Int × Int × Int × Int × Int × Int × Int × Int × Int × Int
abbrev W9 : Type := Int × Int × Int × Int × Int × Int × Int × Int
abbrev W10 : Type := Str × Str × Int × Int × Int × Int × Int × Int × Int × Int × Int × Int × Int × Int × Int × Int × Int × Int × Int × Bool × Bool
abbrev W11 : Type := Int × (List (List AV)) × (List Int) × (List Int) × Str × Int
abbrev W12 : Type := Int × Int × Int × Int × Int × Int
end Go.Sh
namespace Go.Sh
open Go.RowKit
set_option linter.unusedSimpArgs false
set_option linter.unusedVariables false
theorem Core.made {F : Nat → Prop} {g : Gh} {H : List AObj} {os : List Rec} {w w' : World} (h : Core F g H os w) (hb : Below w.heap.size w w') {T : TypeId} {sz n : Nat} {v : Value} {news : List Value} (hsz : 0 < sz) (ho : w'.ownsRow w.heap.size T sz v n news) (h1 : ∀ u ∈ news, u.oneCell' = true) :
 ∃ ao c g', v = .slice ao n c ∧ g'.obj = g.obj ∧ Ext g w g' w' ∧ Step F g w g' w' ∧ Core F g' H (recs ao (n * sz) (c * sz) ++ os) w' ∧ Row g' w' true ao n c sz news := by
 obtain ⟨e1, e2, e3⟩ := h.below hb
 have hobj := ObjsR.move e1 H g.obj h.heap (fun b hb' => hb.block b (h.heap.lt b hb'))
 obtain ⟨hl, ⟨rfl, hn⟩ | ⟨gb, cap, cur, rfl, hbase, hgb, r1, r2, r3, r4⟩⟩ := ho
 ·subst hn
  have : news = [] := by simpa using hl
  subst this
  exact ⟨none, 0, g, rfl, rfl, e1, e2, by simpa [recs] using e3, BH _ _ _ _⟩
 ·obtain ⟨f1, f2, f3⟩ := h.U0 hbase
  obtain ⟨a1, a2, a3⟩ := e3.XK (k := n * sz) (cp := cap * sz) (b := gb) ⟨f1, by rw [hobj.2]; exact f2, f3⟩ (.plain hgb) (Nat.mul_le_mul_right _ r1) (by omega)
  refine ⟨some ⟨gb, 0, none⟩, cap, g.set gb (n * sz), rfl, rfl, ⟨?_, ?_, ?_, ?_, ?_⟩, e2.trans a2, by simpa [recs] using a3, ⟨hl, r1, by omega, fun hp => ⟨_, rfl, rfl, ?_, fun j hj => ?_⟩, fun _ ad h => by injection h with h; subst h; exact ⟨rfl, rfl⟩, fun h => by simp at h, h1⟩⟩
  ·exact fun b j hj => (a1.cell b j (Nat.lt_of_lt_of_le hj (e1.len b))).trans (e1.cell b j hj)
  ·exact fun b hb' => (a1.ty b (Nat.lt_of_lt_of_le hb' (e1.len b))).trans (e1.ty b hb')
  ·exact fun b => Nat.le_trans (e1.bsz b) (a1.bsz b)
  ·exact fun b => Nat.le_trans (e1.len b) (a1.len b)
  ·exact fun i b hi => hi
  ·simp only [Gh.set, if_true, Nat.zero_add, hl]; exact Nat.le_refl _
  ·simp only [Nat.zero_add]
   have hc : w'.cell? ⟨gb, j, none⟩ = cur[j]? := by simp [World.cell?, hgb]
   rw [hc, ← r4, List.getElem?_take, if_pos (by omega)]
   simp
theorem IR (k : IntKind) (l : List Int) (ao : Option Addr) (n c : Nat) (h : l.length = n) : owns (.ints true k l) (.slice ao n c) = recs ao (n * 1) (c * 1) := by
 cases ao <;> simp [owns, recs, h]
theorem Ri (sz : Nat) (els : List (List AV)) (ao : Option Addr) (n c : Nat) (h : els.length = n) : owns (.sl true sz els) (.slice ao n c) = recs ao (n * sz) (c * sz) := by
 cases ao <;> simp [owns, recs, h]
structure Clones (P : Program) (f : FuncId) (T E : TypeId) (sz bytes : Nat) : Prop where
 enters : ∀ (args : Array Value) (w : World), (callFunc f args).run P w = .ok (.enter f args) w
 nil : ∀ (n c : Nat) (w : World), Calls P f #[.slice none n c] w fun e w' => e = .returned (.slice none 0 0) ∧ w' = w
 row : ∀ (a : Addr) (n c : Nat) (w : World) (v2 : Value) (w2 : World), (Builtin.append_ #[T, T] T #[.slice (some ⟨w.heap.size, 0, none⟩) 0 0, .slice (some a) n c]).run P (w.alloc (.cells #[] E)) = .ok v2 w2 → Calls P f #[.slice (some a) n c] w fun e w' => e = .returned v2 ∧ w' = w2
 slice : P.underlying T = some (.slice E)
 info : ∃ i zr, P.info? E = some i ∧ i.zero = some zr ∧ i.size = sz ∧ i.bytes = bytes ∧ zr.cells.size = sz
 pos : 0 < sz ∧ 0 < bytes
theorem Clones.run {P : Program} {f : FuncId} {T E : TypeId} {sz bytes : Nat} (hw : Clones P f T E sz bytes) {F : Nat → Prop} {g : Gh} {H : List AObj} {w : World} (hc : Core F g H [] w) {a : Option Addr} {n c : Nat} {own : Bool} {us : List Value} (hr : Row g w own a n c sz us) (hroom : n * bytes ≤ 140737488355328) :
 Calls P f #[.slice a n c] w fun e w' => ∃ ao c' g', e = .returned (.slice ao n c') ∧ g'.obj = g.obj ∧ Ext g w g' w' ∧ Step F g w g' w' ∧ Core F g' H (recs ao (n * sz) (c' * sz)) w' ∧ Row g' w' true ao n c' sz us := by
 obtain ⟨i, zr, i1, i2, i3, i4, i5⟩ := hw.info
 cases a with
 | none =>
  obtain ⟨rfl, rfl⟩ := hr.2.2.2.2.2.1 rfl
  have hu : us = [] := by have := hr.1; simpa using this
  subst hu
  refine (hw.nil 0 0 w).mono ?_
  rintro e w' ⟨rfl, rfl⟩
  exact ⟨none, 0, g, rfl, rfl, Ext.refl _ _, Step.refl _ _ _, by simpa [recs] using hc, BH _ _ _ _⟩
 | some a =>
  obtain ⟨e1, e2, e3⟩ := hc.QQ (w' := w.alloc (.cells #[] E)) (fun k hk => heap_alloc_old w _ (h := hk)) (by simp) rfl rfl rfl 0 0 (.plain (heap_alloc_new w _)) (Nat.le_refl _) (Nat.zero_le _)
  have hrow0 : Row (g.set w.heap.size 0) (w.alloc (.cells #[] E)) true (some ⟨w.heap.size, 0, none⟩) 0 0 sz [] := ⟨by simp, Nat.le_refl _, Nat.le_refl _, fun h => by simp at h, fun _ ad h => by injection h with h; subst h; exact ⟨rfl, rfl⟩, fun h => by simp at h, by simp⟩
  have hsrc : Row (g.set w.heap.size 0) (w.alloc (.cells #[] E)) own (some a) n c sz us := hr.ext e1
  obtain ⟨ao', cp', g', w', k1, k2, k3, k4, k5, k6, _⟩ := FB (ty := T) (P := P) (t := T) (u := T) (e := E) hw.slice hw.slice (.inr ⟨_, rfl⟩) i1 i2 i3 i4 i5 hw.pos.1 hw.pos.2 (os := []) (by simpa [recs] using e3) hrow0 (hsrc.src (P := P)) (by simpa using hroom)
  rw [Nat.zero_add] at k1 k2 k6
  refine (hw.row a n c w _ _ k1).mono ?_
  rintro e w'' ⟨rfl, rfl⟩
  refine ⟨ao', cp', g', rfl, by rw [k5]; rfl, ⟨?_, ?_, ?_, ?_, ?_⟩, e2.trans k4, by simpa using k6, by simpa using k2⟩
  ·exact fun b j hj => (k3.cell b j (Nat.lt_of_lt_of_le hj (e1.len b))).trans (e1.cell b j hj)
  ·exact fun b hb' => (k3.ty b (Nat.lt_of_lt_of_le hb' (e1.len b))).trans (e1.ty b hb')
  ·exact fun b => Nat.le_trans (e1.bsz b) (k3.bsz b)
  ·exact fun b => Nat.le_trans (e1.len b) (k3.len b)
  ·exact fun i b hi => k3.obj i b (e1.obj i b hi)
def Nc {α : Type} (p : List AV → List AObj → Option α) (s1 s2 : FSpec) : FSpec := fun vs hs R K => match p vs hs with
 | some _ => s1 vs hs R K
 | none => s2 vs hs R K
theorem yL {α : Type} {p : List AV → List AObj → Option α} {P : Program} {f : FuncId} {s1 s2 : FSpec} (h1 : FSound P f s1) (h2 : FSound P f s2) : FSound P f (Nc p s1 s2) := ⟨h1.1, fun args H R k r h => by
 unfold Nc at h
 split at h
 ·exact h1.2 args H R k r h
 ·exact h2.2 args H R k r h⟩
def aa4 (n : Nat) (H : List AObj) : List AObj := H ++ List.replicate (n - H.length) .gone
def Yk (n : Nat) (sp : FSpec) : FSpec := fun vs hs R K => sp vs hs R fun v H => K v (aa4 n H)
theorem SE {F : Nat → Prop} {os : List Rec} {w : World} : ∀ (k : Nat) {g : Gh} {H : List AObj}, Core F g H os w → ∃ g' : Gh, g'.len = g.len ∧ g.obj <+: g'.obj ∧ Core F g' (H ++ List.replicate k .gone) os w
 | 0, g, H, h => ⟨g, rfl, List.prefix_refl _, by simpa using h⟩
 | k + 1, g, H, h => by
  obtain ⟨g', e1, e2, e3⟩ := SE k (h.NH (ob := .gone) 0 rfl)
  refine ⟨g', e1, (List.prefix_append _ _).trans e2, ?_⟩
  rw [List.replicate_succ]
  simpa using e3
theorem Nf {P : Program} {f : FuncId} {n : Nat} {sp : FSpec} (h : FSound P f sp) : FSound P f (Yk n sp) := ⟨h.1, fun args H R k r hr => by
 obtain ⟨v, H', h1, h2⟩ := h.2 args H R _ r hr
 refine ⟨v, aa4 n H', h1, fun F g vs w hv hc => (h2 F g vs w hv hc).mono ?_⟩
 rintro e w' ⟨v', g', rfl, q1, q2, q3, q4⟩
 obtain ⟨g2, e1, e2, e3⟩ := SE (n - H'.length) q3
 refine ⟨v', g2, rfl, VR.ext (g := g') (w := w') ⟨fun _ _ _ => rfl, fun _ _ => rfl, fun _ => Nat.le_refl _, fun b => by rw [e1]; exact Nat.le_refl _, fun i b hi => ?_⟩ _ _ q1, q2.trans e2, e3, q4.Xo e1⟩
 obtain ⟨t, ht⟩ := e2
 rw [← ht, List.getElem?_append_left (List.getElem?_eq_some_iff.1 hi).1]
 exact hi⟩
def Gq (sz bytes : Nat) : FSpec := fun vs hs R K => match vs with
 | [.ints _ kd l] => cond (Nat.beq sz 1 && decide (l.length * bytes ≤ 140737488355328)) (K (.ints true kd l) hs) none
 | [.sl _ n els] => cond (Nat.beq sz n && decide (els.length * bytes ≤ 140737488355328)) (K (.sl true n els) hs) none
 | _ => none
theorem Ha {P : Program} {f : FuncId} {T E : TypeId} {sz bytes : Nat} (hw : Clones P f T E sz bytes) : FSound P f (Gq sz bytes) := by
 refine ⟨hw.enters, fun args H R k r hr => ?_⟩
 unfold Gq at hr
 split at hr
 ·rename_i own kd l
  obtain ⟨h1, h2⟩ | ⟨_, h2⟩ := ae hr
  case inr => exact absurd h2 (by simp)
  simp only [Bool.and_eq_true, Nat.beq_eq, decide_eq_true_eq] at h1
  obtain ⟨rfl, hroom⟩ := h1
  refine ⟨_, H, h2, fun F g vs w hv hc => ?_⟩
  obtain ⟨v, us, rfl, h3, h4⟩ := xu hv
  obtain rfl := Dk h4
  simp only [VR] at h3
  obtain ⟨a, n, c, rfl, hrow⟩ := h3
  have hn : l.length = n := by have := hrow.1; simpa using this
  have hc0 : Core F g H [] w := hc.weaken (fun r hr => by simp at hr) (fun b => by simp [nO])
  refine (hw.run hc0 hrow (by rw [← hn]; exact hroom)).mono ?_
  rintro e w' ⟨ao, c', g', rfl, q1, q2, q3, q4, q5⟩
  refine ⟨_, g', rfl, by simp only [VR]; exact ⟨ao, n, c', rfl, q5⟩, by rw [q1]; exact List.prefix_refl _, ?_, q3⟩
  rw [IR kd l ao n c' hn]; exact q4
 ·rename_i own sz' els
  obtain ⟨h1, h2⟩ | ⟨_, h2⟩ := ae hr
  case inr => exact absurd h2 (by simp)
  simp only [Bool.and_eq_true, Nat.beq_eq, decide_eq_true_eq] at h1
  obtain ⟨rfl, hroom⟩ := h1
  refine ⟨_, H, h2, fun F g vs w hv hc => ?_⟩
  obtain ⟨v, us, rfl, h3, h4⟩ := xu hv
  obtain rfl := Dk h4
  simp only [VR] at h3
  obtain ⟨a, n, c, cs, rfl, hrow, hn, hel, hvs⟩ := h3
  have hc0 : Core F g H [] w := hc.weaken (fun r hr => by simp at hr) (fun b => by simp [nO])
  refine (hw.run hc0 hrow (by rw [← hn]; exact hroom)).mono ?_
  rintro e w' ⟨ao, c', g', rfl, q1, q2, q3, q4, q5⟩
  refine ⟨_, g', rfl, by simp only [VR]; exact ⟨ao, n, c', cs, rfl, q5, hn, hel, VRss.ext q2 _ _ hvs⟩, by rw [q1]; exact List.prefix_refl _, ?_, q3⟩
  rw [Ri sz els ao n c' hn]; exact q4
 ·cases hr
end Go.Sh
namespace Go.Proofs
open Go.Shelf
def Tryz.Qj : Go.Shelf.Ren := ⟨fun | 7 => 38 | 10 => 74 | n => n, fun | 23 => 92 | 26 => 3 | 3 => 3 | 28 => 95 | 0 => 0 | 27 => 94 | 33 => 128 | 4 => 4 | n => n, fun | n => n⟩
theorem Tryz.aa5 : Go.Proofs.SlLaysZI.n7 Tryz.prog Tryz.Qj := {
 mixed := by kernel_rfl
 f7 := ⟨Tryz.f38.name, by decide, Tryz.func38.trans (congrArg some (by kernel_rfl))⟩
 f10 := ⟨Tryz.f74.name, by decide, Tryz.func74.trans (congrArg some (by kernel_rfl))⟩
 t0 := Tryz.underlying0
 a0 := Tryz.isAgg0
 z0 := Tryz.sizeOf0
 v0 := Tryz.zeroValue0
 t4 := Tryz.underlying4
 a4 := Tryz.isAgg4
 z4 := Tryz.sizeOf4
 v4 := Tryz.zeroValue4
 t23 := Tryz.underlying92
 a23 := Tryz.isAgg92
 z23 := Tryz.sizeOf92
 v23 := Tryz.zeroValue92
 t26 := Tryz.underlying3
 a26 := Tryz.isAgg3
 z26 := Tryz.sizeOf3
 v26 := Tryz.zeroValue3
 t27 := Tryz.underlying94
 a27 := Tryz.isAgg94
 z27 := Tryz.sizeOf94
 v27 := Tryz.zeroValue94
 t28 := Tryz.underlying95
 a28 := Tryz.isAgg95
 z28 := Tryz.sizeOf95
 v28 := Tryz.zeroValue95
 t33 := Tryz.underlying128
 a33 := Tryz.isAgg128
 z33 := Tryz.sizeOf128
 v33 := Tryz.zeroValue128 }
def Tryz.Ng : Go.Shelf.Ren := ⟨fun | 6 => 37 | 8 => 72 | 9 => 73 | 11 => 108 | 13 => 81 | 12 => 109 | 23 => 121 | 24 => 122 | 14 => 145 | 15 => 146 | 16 => 147 | 17 => 148 | 18 => 149 | 19 => 150 | 20 => 151 | 21 => 152 | 22 => 153 | 25 => 173 | 26 => 156 | 27 => 157 | 28 => 174 | 29 => 175 | 30 => 176 | 31 => 183 | n => n, fun | 26 => 3 | 28 => 95 | 24 => 24 | 0 => 0 | 3 => 3 | 37 => 141 | 48 => 60 | 50 => 133 | 4 => 4 | 40 => 173 | 39 => 172 | 45 => 83 | 5 => 5 | 9 => 9 | 51 => 198 | 55 => 202 | 57 => 223 | 58 => 224 | 33 => 128 | n => n, fun | n => n⟩
theorem Tryz.Zw : Go.Proofs.SlLaysZI.n6 Tryz.prog Tryz.Ng := {
 mixed := by kernel_rfl
 f6 := ⟨Tryz.f37.name, by decide, Tryz.func37.trans (congrArg some (by kernel_rfl))⟩
 f8 := ⟨Tryz.f72.name, by decide, Tryz.func72.trans (congrArg some (by kernel_rfl))⟩
 f11 := ⟨Tryz.f108.name, by decide, Tryz.func108.trans (congrArg some (by kernel_rfl))⟩
 t0 := Tryz.underlying0
 a0 := Tryz.isAgg0
 z0 := Tryz.sizeOf0
 v0 := Tryz.zeroValue0
 t24 := Tryz.underlying24
 a24 := Tryz.isAgg24
 z24 := Tryz.sizeOf24
 v24 := Tryz.zeroValue24
 t26 := Tryz.underlying3
 a26 := Tryz.isAgg3
 z26 := Tryz.sizeOf3
 v26 := Tryz.zeroValue3
 t28 := Tryz.underlying95
 a28 := Tryz.isAgg95
 z28 := Tryz.sizeOf95
 v28 := Tryz.zeroValue95
 i26 := by kernel_rfl }
def Tryz.Wu : Go.Shelf.Ren := ⟨fun | 5 => 73 | 8 => 81 | 7 => 109 | 19 => 121 | 20 => 122 | 10 => 145 | 11 => 146 | 12 => 147 | 13 => 148 | 14 => 149 | 15 => 150 | 16 => 151 | 17 => 152 | 18 => 153 | 30 => 173 | 31 => 156 | 32 => 157 | 33 => 174 | 34 => 175 | 35 => 176 | 40 => 183 | n => n, fun | 23 => 24 | 25 => 3 | 3 => 3 | 32 => 141 | 22 => 24 | 0 => 0 | 44 => 60 | 46 => 133 | 4 => 4 | 36 => 173 | 35 => 172 | 41 => 83 | 5 => 5 | 9 => 9 | 53 => 198 | 57 => 202 | 63 => 223 | 64 => 224 | n => n, fun | n => n⟩
theorem Tryz.Z7 : Go.Proofs.SlLaysM.n5 Tryz.prog Tryz.Wu := {
 mixed := by kernel_rfl
 f5 := ⟨Tryz.f73.name, by decide, Tryz.func73.trans (congrArg some (by kernel_rfl))⟩
 f7 := ⟨Tryz.f109.name, by decide, Tryz.func109.trans (congrArg some (by kernel_rfl))⟩
 f8 := Tryz.func81.trans (congrArg some (by kernel_rfl))
 f10 := ⟨Tryz.f145.name, by decide, Tryz.func145.trans (congrArg some (by kernel_rfl))⟩
 f11 := ⟨Tryz.f146.name, by decide, Tryz.func146.trans (congrArg some (by kernel_rfl))⟩
 f12 := ⟨Tryz.f147.name, by decide, Tryz.func147.trans (congrArg some (by kernel_rfl))⟩
 f13 := ⟨Tryz.f148.name, by decide, Tryz.func148.trans (congrArg some (by kernel_rfl))⟩
 f14 := ⟨Tryz.f149.name, by decide, Tryz.func149.trans (congrArg some (by kernel_rfl))⟩
 f15 := ⟨Tryz.f150.name, by decide, Tryz.func150.trans (congrArg some (by kernel_rfl))⟩
 f16 := ⟨Tryz.f151.name, by decide, Tryz.func151.trans (congrArg some (by kernel_rfl))⟩
 f17 := ⟨Tryz.f152.name, by decide, Tryz.func152.trans (congrArg some (by kernel_rfl))⟩
 f18 := ⟨Tryz.f153.name, by decide, Tryz.func153.trans (congrArg some (by kernel_rfl))⟩
 f19 := Tryz.func121.trans (congrArg some (by kernel_rfl))
 f20 := Tryz.func122.trans (congrArg some (by kernel_rfl))
 f30 := ⟨Tryz.f173.name, by decide, Tryz.func173.trans (congrArg some (by kernel_rfl))⟩
 f31 := Tryz.func156.trans (congrArg some (by kernel_rfl))
 f32 := Tryz.func157.trans (congrArg some (by kernel_rfl))
 f33 := ⟨Tryz.f174.name, by decide, Tryz.func174.trans (congrArg some (by kernel_rfl))⟩
 f34 := ⟨Tryz.f175.name, by decide, Tryz.func175.trans (congrArg some (by kernel_rfl))⟩
 f35 := ⟨Tryz.f176.name, by decide, Tryz.func176.trans (congrArg some (by kernel_rfl))⟩
 f40 := ⟨Tryz.f183.name, by decide, Tryz.func183.trans (congrArg some (by kernel_rfl))⟩
 t0 := Tryz.underlying0
 a0 := Tryz.isAgg0
 z0 := Tryz.sizeOf0
 v0 := Tryz.zeroValue0
 t3 := Tryz.underlying3
 a3 := Tryz.isAgg3
 z3 := Tryz.sizeOf3
 v3 := Tryz.zeroValue3
 t4 := Tryz.underlying4
 a4 := Tryz.isAgg4
 z4 := Tryz.sizeOf4
 v4 := Tryz.zeroValue4
 t5 := Tryz.underlying5
 a5 := Tryz.isAgg5
 z5 := Tryz.sizeOf5
 v5 := Tryz.zeroValue5
 t9 := Tryz.underlying9
 a9 := Tryz.isAgg9
 z9 := Tryz.sizeOf9
 v9 := Tryz.zeroValue9
 t22 := Tryz.underlying24
 a22 := Tryz.isAgg24
 z22 := Tryz.sizeOf24
 v22 := Tryz.zeroValue24
 t23 := Tryz.underlying24
 a23 := Tryz.isAgg24
 z23 := Tryz.sizeOf24
 v23 := Tryz.zeroValue24
 t25 := Tryz.underlying3
 a25 := Tryz.isAgg3
 z25 := Tryz.sizeOf3
 v25 := Tryz.zeroValue3
 t32 := Tryz.underlying141
 a32 := Tryz.isAgg141
 z32 := Tryz.sizeOf141
 v32 := Tryz.zeroValue141
 t35 := Tryz.underlying172
 a35 := Tryz.isAgg172
 z35 := Tryz.sizeOf172
 v35 := Tryz.zeroValue172
 t36 := Tryz.underlying173
 a36 := Tryz.isAgg173
 z36 := Tryz.sizeOf173
 v36 := Tryz.zeroValue173
 t41 := Tryz.underlying83
 a41 := Tryz.isAgg83
 z41 := Tryz.sizeOf83
 v41 := Tryz.zeroValue83
 t44 := Tryz.underlying60
 a44 := Tryz.isAgg60
 z44 := Tryz.sizeOf60
 v44 := Tryz.zeroValue60
 t46 := Tryz.underlying133
 a46 := Tryz.isAgg133
 z46 := Tryz.sizeOf133
 v46 := Tryz.zeroValue133
 t53 := Tryz.underlying198
 a53 := Tryz.isAgg198
 z53 := Tryz.sizeOf198
 v53 := Tryz.zeroValue198
 t57 := Tryz.underlying202
 a57 := Tryz.isAgg202
 z57 := Tryz.sizeOf202
 v57 := Tryz.zeroValue202
 t63 := Tryz.underlying223
 a63 := Tryz.isAgg223
 z63 := Tryz.sizeOf223
 v63 := Tryz.zeroValue223
 t64 := Tryz.underlying224
 a64 := Tryz.isAgg224
 z64 := Tryz.sizeOf224
 v64 := Tryz.zeroValue224 }
end Go.Proofs
namespace Go.Sh
open Go.RowKit Go.Maps Go.Sort Go.Shelf Go.Proofs
set_option linter.unusedSimpArgs false
set_option linter.unusedVariables false
def KC (fk : Nat) : FSpec := fun vs hs R K => match vs with
 | [.func (.func f) [] [.ptr (some (i, 0))]] => match hs[i]? with
  | some (.cells _ [.map (some m)]) => match hs[m]? with
   | some (.mapI es) => cond (Nat.beq f fk && decide (es.length * 8 ≤ 140737488355328) && es.all fun p => qB p.1 && qB p.2) (K (.ints true .i64 ((es.map (·.1)).mergeSort leI)) hs) none
   | _ => none
  | _ => none
 | _ => none
theorem Qk {a : Int} (h : qB a = true) : (Lit.int .i64 a).wf = true := by
 simp only [qB, Bool.and_eq_true, decide_eq_true_eq] at h
 simp [Lit.wf, IntKind.min, IntKind.max, IntKind.bits, IntKind.signed]
 omega
theorem Wv {P : Program} {k : TypeId} (hk : P.underlying k = some (.int .i64)) {w : World} {b : Nat} {en : Array MapEntry} {cl : Nat} {es : List (Int × Int)} (hb : w.heap[b]? = some (.map en cl)) (hst : MapKept.Stamped en cl) (hes : (en.toList.map fun e => (e.key, e.val)) = es.map fun p => (Value.int .i64 p.1, Value.int .i64 p.2)) (hin : ∀ p ∈ es, qB p.1 = true ∧ qB p.2 = true) (hn : es.length ≤ maxLen) :
 ∃ D : DataW Unit, w.ownsMap P k (plainElem P k) b es.length D ∧ Maps.size D = es.length ∧ (intKeys D).Perm (es.map (·.1)) := by
 have hlen : en.size = es.length := by
  have := congrArg List.length hes
  simpa using this
 have hrd : ∀ (e : MapEntry) (p : Int × Int), (e.key, e.val) = (Value.int .i64 p.1, Value.int .i64 p.2) → qB p.1 = true → qB p.2 = true → WideElems.rd (H := Unit) P k (plainElem P k) e = some (.int .i64 p.1, .lit (.int .i64 p.2)) := by
  intro e p h h1 h2
  injection h with h3 h4
  have w1 := Qk h1
  have w2 := Qk h2
  simp [WideElems.rd, h3, h4, keyOf, hk, mapKey, w1, plainElem_int hk w2]
 have hall : ∀ (l : List MapEntry) (q : List (Int × Int)), (l.map fun e => (e.key, e.val)) = q.map (fun p => (Value.int .i64 p.1, Value.int .i64 p.2)) → (∀ p ∈ q, qB p.1 = true ∧ qB p.2 = true) → (∀ x ∈ l, ∃ y, WideElems.rd (H := Unit) P k (plainElem P k) x = some y) ∧ l.map (WideElems.rg (H := Unit) P k (plainElem P k)) = q.map fun p => (Lit.int .i64 p.1, DataW.lit (.int .i64 p.2)) := by
  intro l
  induction l with
  | nil => intro q h _; cases q with
   | nil => exact ⟨by simp, rfl⟩
   | cons _ _ => simp at h
  | cons e l ih => intro q h hq; cases q with
   | nil => simp at h
   | cons p q =>
    simp only [List.map_cons, List.cons.injEq] at h
    obtain ⟨i1, i2⟩ := ih q h.2 (fun p' hp => hq p' (List.mem_cons_of_mem _ hp))
    have h1 := hrd e p h.1 (hq p (List.mem_cons_self ..)).1 (hq p (List.mem_cons_self ..)).2
    refine ⟨fun x hx => ?_, ?_⟩
    ·rcases List.mem_cons.1 hx with rfl | hx
     ·exact ⟨_, h1⟩
     ·exact i1 x hx
    ·simp only [List.map_cons, i2, WideElems.rg, h1, Option.getD_some]
 obtain ⟨q1, q2⟩ := hall en.toList es hes hin
 refine ⟨_, ⟨en, cl, hb, ⟨by omega, hst, q1⟩, by omega, rfl⟩, ?_, ?_⟩
 ·show (List.foldr DataW.insert [] _).length = _
  rw [(WideShapes.sorted_perm _).length_eq, q2, List.length_map]
 ·show (List.map _ (List.foldr DataW.insert [] _)).Perm _
  refine ((WideShapes.sorted_perm _).map _).trans ?_
  rw [q2, List.map_map]
  exact .refl _
theorem aay (m : Nat) : AnyZI.SortsIn Tryz.prog Tryz.Ng Fence.wide m :=
 ⟨fun blk off cap ss W hH hblk hsz => callsIn_wide.2 (AnyM.slices_Sort_int Tryz.Z7 blk off cap ss W hH hblk hsz),
  fun p cap W => callsIn_wide.2 (AnyM.slices_Sort_int_none Tryz.Z7 p cap W)⟩
theorem SF {H : Type} (bx b nn : Nat) (D0 : DataW H) (R : Value → Option (DataW H × List MemPlace)) (w : World) (hbl : bx < w.heap.size) (hbox : w.cell? ⟨bx, 0, none⟩ = some (.map (some b))) (hown : w.ownsMap Tryz.prog 3 R b nn D0) (hmax : Maps.size D0 ≤ maxLen) (hbytes : Maps.size D0 * 8 ≤ 140737488355328) :
 Calls Tryz.prog 37 #[.func (.func 74) #[] #[.pointer (some ⟨bx, 0, none⟩)]] w fun e w' => ∃ (v : Value) (ss : List Int), e = .returned v ∧ ss.Perm (intKeys D0) ∧
  w'.ownsRow w.heap.size 3 1 v ss.length ((ss.mergeSort (fun x y => decide (x ≤ y))).map encZ) ∧ (v = .slice none 0 0 ↔ ss = []) ∧ Below w.heap.size w w' := by
 refine (callsIn_wide (n := 5)).1 ?_
 have hseq : SeqGives Fence.wide 2 Tryz.prog 74 #[.pointer (some ⟨bx, 0, none⟩)] encZ (fun ss => ss.Perm (intKeys D0)) (Maps.size D0) w :=
  AnyZI.keys_gives (ρ := Tryz.Qj) { Tryz.aa5 with } Fence.wide _ trivial rfl (by omega) bx b nn D0 w hbl hbox hown
 exact AnyZI.sorted_in Tryz.Zw Fence.wide 5 trivial trivial trivial trivial rfl (by omega) (aay _) (enters_of Tryz.func73 (by kernel_rfl) rfl) 74 #[.pointer (some ⟨bx, 0, none⟩)] trivial (enters_of Tryz.func74 (by kernel_rfl) rfl) _ _ hmax hbytes _ hseq
theorem Pt : FSound Tryz.prog 37 (KC 74) := by
 refine ⟨enters_of Tryz.func37 (by kernel_rfl) rfl, fun args H R k r hr => ?_⟩
 unfold KC at hr
 split at hr
 case h_2 => cases hr
 rename_i f i
 split at hr
 case h_2 => cases hr
 rename_i t m hbx
 split at hr
 case h_2 => cases hr
 rename_i es hmp
 obtain ⟨h1, h2⟩ | ⟨_, h2⟩ := ae hr
 case inr => exact absurd h2 (by simp)
 simp only [Bool.and_eq_true, Nat.beq_eq, decide_eq_true_eq] at h1
 obtain ⟨⟨rfl, hroom⟩, hin⟩ := h1
 have hin' : ∀ p ∈ es, qB p.1 = true ∧ qB p.2 = true := fun p hp => by
  have := List.all_eq_true.1 hin p hp
  simpa using this
 refine ⟨_, H, h2, fun F g vs w hv hc => ?_⟩
 obtain ⟨v, us, rfl, h3, h4⟩ := xu hv
 obtain rfl := Dk h4
 simp only [VR] at h3
 obtain ⟨xs, ys, rfl, h5, h6⟩ := h3
 have h5 := Dk h5
 obtain ⟨u, _, h7, h8, h9⟩ := xu h6
 obtain rfl := Dk h9
 simp only [VR] at h8
 obtain ⟨bx, rfl, hgx⟩ := h8
 obtain rfl : xs = #[] := by simpa using h5
 obtain rfl : ys = #[.pointer (some ⟨bx, 0, none⟩)] := by apply Array.ext'; simpa using h7
 have hobj := aY hc.heap i bx _ hbx hgx
 simp only [ObjR] at hobj
 obtain ⟨arr, hwb, hva⟩ := hobj
 obtain ⟨u, _, k1, k2, k3⟩ := xu hva
 obtain rfl := Dk k3
 simp only [VR] at k2
 obtain ⟨bm, rfl, hgm⟩ := k2
 have hmo := aY hc.heap m bm _ hmp hgm
 simp only [ObjR] at hmo
 obtain ⟨en, cl, hwm, hst, hes⟩ := hmo
 obtain ⟨D, hown, hsz, hperm⟩ := Wv (P := Tryz.prog) (k := 3) (by kernel_rfl) hwm hst hes hin' (by have : maxLen = 9223372036854775807 := rfl; omega)
 have hc0 : Core F g H [] w := hc.weaken (fun r hr => by simp at hr) (fun b => by simp [nO])
 have hcell : w.cell? ⟨bx, 0, none⟩ = some (.map (some bm)) := by
  have : arr[0]? = some (.map (some bm)) := by rw [← Array.getElem?_toList, k1]; rfl
  simp [World.cell?, hwb, this]
 refine (SF bx bm es.length D _ w (Array.getElem?_eq_some_iff.1 hwb).1 hcell hown (by rw [hsz]; have : maxLen = 9223372036854775807 := rfl; omega) (by rw [hsz]; exact hroom)).mono ?_
 rintro e w' ⟨v, ss, rfl, hp, hrow, _, hb⟩
 have hs : ss.mergeSort (fun x y => decide (x ≤ y)) = (es.map (·.1)).mergeSort leI := mergeSort_of_perm_i (hp.trans hperm)
 obtain ⟨ao, c', g', rfl, q1, q2, q3, q4, q5⟩ := hc0.made hb (by decide) hrow (by simp [encZ, Value.oneCell'])
 rw [hs] at q5
 have hlen : ((es.map (·.1)).mergeSort leI).length = ss.length := by rw [← hs, List.length_mergeSort]
 refine ⟨_, g', rfl, by simp only [VR]; exact ⟨ao, ss.length, c', rfl, q5⟩, by rw [q1]; exact List.prefix_refl _, ?_, q3⟩
 rw [IR .i64 _ ao ss.length c' hlen]; rw [List.append_nil] at q4; exact q4
end Go.Sh
namespace Go.Proofs
def Tryz.SG : Go.Shelf.Ren := ⟨fun | 103 => 162 | 210 => 178 | 206 => 130 | n => n, fun | 9 => 9 | 4 => 4 | 24 => 165 | 3 => 3 | n => n, fun | n => n⟩
theorem Tryz.Zx : Go.Proofs.Lays.n103 Tryz.prog Tryz.SG := {
 mixed := by kernel_rfl
 f103 := Tryz.func162.trans (congrArg some (by kernel_rfl))
 f206 := Tryz.func130.trans (congrArg some (by kernel_rfl))
 f210 := Tryz.func178.trans (congrArg some (by kernel_rfl))
 t3 := Tryz.underlying3
 a3 := Tryz.isAgg3
 z3 := Tryz.sizeOf3
 v3 := Tryz.zeroValue3
 t4 := Tryz.underlying4
 a4 := Tryz.isAgg4
 z4 := Tryz.sizeOf4
 v4 := Tryz.zeroValue4
 t9 := Tryz.underlying9
 a9 := Tryz.isAgg9
 z9 := Tryz.sizeOf9
 v9 := Tryz.zeroValue9
 t24 := Tryz.underlying165
 a24 := Tryz.isAgg165
 z24 := Tryz.sizeOf165
 v24 := Tryz.zeroValue165 }
open Go.RowKit in
theorem Tryz.strings_CutPrefix (s p : ByteArray) (w : World) :
 Calls Tryz.prog 162 #[.string s, .string p] w fun e w' => e = .returned (.tuple #[.string ⟨(Lib.trimPrefix s.data.toList p.data.toList).toArray⟩, .bool (Lib.hasPrefix s.data.toList p.data.toList)]) ∧ w' = w := Any.strings_CutPrefix Tryz.Zx s p w
def Tryz.Rj : Go.Shelf.Ren := ⟨fun | 172 => 163 | 244 => 179 | 245 => 180 | 247 => 184 | 279 => 185 | 280 => 186 | 281 => 187 | 282 => 188 | 287 => 194 | 316 => 195 | 171 => 197 | 205 => 196 | 321 => 200 | 322 => 201 | 243 => 202 | 246 => 203 | 283 => 204 | 284 => 205 | 285 => 206 | 286 => 207 | 129 => 122 | 317 => 208 | 318 => 209 | 319 => 210 | 320 => 211 | 337 => 212 | 338 => 213 | n => n, fun | 9 => 9 | 3 => 3 | 75 => 207 | 76 => 208 | 4 => 4 | 5 => 5 | 167 => 229 | 37 => 65 | 0 => 0 | 85 => 230 | 2 => 2 | 168 => 232 | 53 => 133 | 175 => 237 | 46 => 141 | 210 => 241 | 127 => 247 | 145 => 250 | 143 => 248 | 21 => 21 | 171 => 252 | 173 => 254 | 212 => 257 | 51 => 60 | 20 => 20 | 213 => 258 | 232 => 259 | 233 => 260 | 80 => 148 | n => n, fun | 15 => 1 | 16 => 2 | 17 => 3 | 18 => 4 | 19 => 5 | n => n⟩
theorem Tryz.OL : Go.Proofs.LaysC.n172 Tryz.prog Tryz.Rj := {
 mixed := by kernel_rfl
 f129 := Tryz.func122.trans (congrArg some (by kernel_rfl))
 f171 := Tryz.func197.trans (congrArg some (by kernel_rfl))
 f172 := Tryz.func163.trans (congrArg some (by kernel_rfl))
 f205 := Tryz.func196.trans (congrArg some (by kernel_rfl))
 f243 := Tryz.func202.trans (congrArg some (by kernel_rfl))
 f244 := Tryz.func179.trans (congrArg some (by kernel_rfl))
 f245 := Tryz.func180.trans (congrArg some (by kernel_rfl))
 f246 := Tryz.func203.trans (congrArg some (by kernel_rfl))
 f247 := Tryz.func184.trans (congrArg some (by kernel_rfl))
 f279 := Tryz.func185.trans (congrArg some (by kernel_rfl))
 f280 := Tryz.func186.trans (congrArg some (by kernel_rfl))
 f281 := Tryz.func187.trans (congrArg some (by kernel_rfl))
 f282 := Tryz.func188.trans (congrArg some (by kernel_rfl))
 f283 := Tryz.func204.trans (congrArg some (by kernel_rfl))
 f284 := Tryz.func205.trans (congrArg some (by kernel_rfl))
 f285 := Tryz.func206.trans (congrArg some (by kernel_rfl))
 f286 := Tryz.func207.trans (congrArg some (by kernel_rfl))
 f287 := Tryz.func194.trans (congrArg some (by kernel_rfl))
 f316 := Tryz.func195.trans (congrArg some (by kernel_rfl))
 f317 := Tryz.func208.trans (congrArg some (by kernel_rfl))
 f318 := Tryz.func209.trans (congrArg some (by kernel_rfl))
 f319 := Tryz.func210.trans (congrArg some (by kernel_rfl))
 f320 := Tryz.func211.trans (congrArg some (by kernel_rfl))
 f321 := Tryz.func200.trans (congrArg some (by kernel_rfl))
 f322 := Tryz.func201.trans (congrArg some (by kernel_rfl))
 f337 := Tryz.func212.trans (congrArg some (by kernel_rfl))
 f338 := Tryz.func213.trans (congrArg some (by kernel_rfl))
 t0 := Tryz.underlying0
 a0 := Tryz.isAgg0
 z0 := Tryz.sizeOf0
 v0 := Tryz.zeroValue0
 t2 := Tryz.underlying2
 a2 := Tryz.isAgg2
 z2 := Tryz.sizeOf2
 v2 := Tryz.zeroValue2
 t3 := Tryz.underlying3
 a3 := Tryz.isAgg3
 z3 := Tryz.sizeOf3
 v3 := Tryz.zeroValue3
 t4 := Tryz.underlying4
 a4 := Tryz.isAgg4
 z4 := Tryz.sizeOf4
 v4 := Tryz.zeroValue4
 t5 := Tryz.underlying5
 a5 := Tryz.isAgg5
 z5 := Tryz.sizeOf5
 v5 := Tryz.zeroValue5
 t9 := Tryz.underlying9
 a9 := Tryz.isAgg9
 z9 := Tryz.sizeOf9
 v9 := Tryz.zeroValue9
 t20 := Tryz.underlying20
 a20 := Tryz.isAgg20
 z20 := Tryz.sizeOf20
 v20 := Tryz.zeroValue20
 t21 := Tryz.underlying21
 a21 := Tryz.isAgg21
 z21 := Tryz.sizeOf21
 v21 := Tryz.zeroValue21
 t37 := Tryz.underlying65
 a37 := Tryz.isAgg65
 z37 := Tryz.sizeOf65
 v37 := Tryz.zeroValue65
 t46 := Tryz.underlying141
 a46 := Tryz.isAgg141
 z46 := Tryz.sizeOf141
 v46 := Tryz.zeroValue141
 t51 := Tryz.underlying60
 a51 := Tryz.isAgg60
 z51 := Tryz.sizeOf60
 v51 := Tryz.zeroValue60
 t53 := Tryz.underlying133
 a53 := Tryz.isAgg133
 z53 := Tryz.sizeOf133
 v53 := Tryz.zeroValue133
 t75 := Tryz.underlying207
 a75 := Tryz.isAgg207
 z75 := Tryz.sizeOf207
 v75 := Tryz.zeroValue207
 t76 := Tryz.underlying208
 a76 := Tryz.isAgg208
 z76 := Tryz.sizeOf208
 v76 := Tryz.zeroValue208
 t85 := Tryz.underlying230
 a85 := Tryz.isAgg230
 z85 := Tryz.sizeOf230
 v85 := Tryz.zeroValue230
 t127 := Tryz.underlying247
 a127 := Tryz.isAgg247
 z127 := Tryz.sizeOf247
 v127 := Tryz.zeroValue247
 t143 := Tryz.underlying248
 a143 := Tryz.isAgg248
 z143 := Tryz.sizeOf248
 v143 := Tryz.zeroValue248
 t145 := Tryz.underlying250
 a145 := Tryz.isAgg250
 z145 := Tryz.sizeOf250
 v145 := Tryz.zeroValue250
 t167 := Tryz.underlying229
 a167 := Tryz.isAgg229
 z167 := Tryz.sizeOf229
 v167 := Tryz.zeroValue229
 t168 := Tryz.underlying232
 a168 := Tryz.isAgg232
 z168 := Tryz.sizeOf232
 v168 := Tryz.zeroValue232
 t171 := Tryz.underlying252
 a171 := Tryz.isAgg252
 z171 := Tryz.sizeOf252
 v171 := Tryz.zeroValue252
 t173 := Tryz.underlying254
 a173 := Tryz.isAgg254
 z173 := Tryz.sizeOf254
 v173 := Tryz.zeroValue254
 t175 := Tryz.underlying237
 a175 := Tryz.isAgg237
 z175 := Tryz.sizeOf237
 v175 := Tryz.zeroValue237
 t210 := Tryz.underlying241
 a210 := Tryz.isAgg241
 z210 := Tryz.sizeOf241
 v210 := Tryz.zeroValue241
 t212 := Tryz.underlying257
 a212 := Tryz.isAgg257
 z212 := Tryz.sizeOf257
 v212 := Tryz.zeroValue257
 t213 := Tryz.underlying258
 a213 := Tryz.isAgg258
 z213 := Tryz.sizeOf258
 t232 := Tryz.underlying259
 a232 := Tryz.isAgg259
 z232 := Tryz.sizeOf259
 v232 := Tryz.zeroValue259
 t233 := Tryz.underlying260
 a233 := Tryz.isAgg260
 z233 := Tryz.sizeOf260
 v233 := Tryz.zeroValue260
 g15 := by kernel_rfl
 g16 := by kernel_rfl
 g17 := by kernel_rfl
 g18 := by kernel_rfl
 g19 := by kernel_rfl
 t80 := Tryz.underlying148
 a80 := Tryz.isAgg148
 z80 := Tryz.sizeOf148
 v80 := Tryz.zeroValue148
 i0 := by kernel_rfl
 i2 := by kernel_rfl
 i3 := by kernel_rfl
 i4 := by kernel_rfl
 i5 := by kernel_rfl
 i9 := by kernel_rfl
 i20 := by kernel_rfl
 i21 := by kernel_rfl
 i37 := by kernel_rfl
 i46 := by kernel_rfl
 i51 := by kernel_rfl
 i53 := by kernel_rfl
 i75 := by kernel_rfl
 i76 := by kernel_rfl
 i80 := by kernel_rfl
 i85 := by kernel_rfl
 i127 := by kernel_rfl
 i143 := by kernel_rfl
 i145 := by kernel_rfl
 i167 := by kernel_rfl
 i168 := by kernel_rfl
 i171 := by kernel_rfl
 i173 := by kernel_rfl
 i175 := by kernel_rfl
 i210 := by kernel_rfl
 i212 := by kernel_rfl
 i232 := by kernel_rfl
 i233 := by kernel_rfl
 m15 := by kernel_rfl
 m16 := by kernel_rfl
 m17 := by kernel_rfl
 m18 := by kernel_rfl
 m19 := by kernel_rfl
 c0 := by kernel_rfl
 c2 := by kernel_rfl
 c3 := by kernel_rfl
 c4 := by kernel_rfl
 c5 := by kernel_rfl
 c9 := by kernel_rfl
 c20 := by kernel_rfl
 c21 := by kernel_rfl
 c37 := by kernel_rfl
 c46 := by kernel_rfl
 c51 := by kernel_rfl
 c53 := by kernel_rfl
 c75 := by kernel_rfl
 c76 := by kernel_rfl
 c80 := by kernel_rfl
 c85 := by kernel_rfl
 c127 := by kernel_rfl
 c143 := by kernel_rfl
 c145 := by kernel_rfl
 c167 := by kernel_rfl
 c168 := by kernel_rfl
 c171 := by kernel_rfl
 c173 := by kernel_rfl
 c175 := by kernel_rfl
 c210 := by kernel_rfl
 c212 := by kernel_rfl
 c213 := by kernel_rfl
 c232 := by kernel_rfl
 c233 := by kernel_rfl }
open Go.RowKit in
theorem Tryz.strconv_Atoi_ok (s : ByteArray) (hmax : s.size ≤ 9223372036854775806) (v : Int) (h : Lib.atoiAll s.data.toList = .ok v) (w : World) :
 Calls Tryz.prog 163 #[.string s] w fun e w' => e = .returned (.tuple #[.int .i64 v, .nilIface]) ∧ (w' = w ∨ ∃ t, w' = Lib.bytesWorld w 5 t) := Any.strconv_Atoi_ok Tryz.OL s hmax v h w
open Go.RowKit in
theorem Tryz.strconv_Atoi_range (s : ByteArray) (hlim : s.size ≤ 281474976710656) (h : Lib.atoiAll s.data.toList = .range) (ev : Value) (w : World) (hv : w.cell? ⟨2, 0, none⟩ = some ev) (hev : ev = .nilIface ∨ ∃ te pe, ev = .iface te pe) :
 Calls Tryz.prog 163 #[.string s] w fun e w' => ∃ N, e = .returned (.tuple #[.int .i64 (Lib.atoiSat s.data.toList), .iface 232 (.pointer (some ⟨N, 0, none⟩))]) ∧ w.heap.size ≤ N ∧ w'.heap[N]? = some (.cells #[.string ⟨#[65, 116, 111, 105]⟩, .string s, ev] 241 (0, 0)) ∧ Below w.heap.size w w' := Any.strconv_Atoi_range Tryz.OL s hlim h ev w hv hev
def Tryz.Un : Go.Shelf.Ren := ⟨fun | 99 => 88 | 206 => 130 | n => n, fun | 9 => 9 | 4 => 4 | 3 => 3 | n => n, fun | n => n⟩
theorem Tryz.aaz : Go.Proofs.Lays.n99 Tryz.prog Tryz.Un := {
 mixed := by kernel_rfl
 f99 := Tryz.func88.trans (congrArg some (by kernel_rfl))
 f206 := Tryz.func130.trans (congrArg some (by kernel_rfl))
 t3 := Tryz.underlying3
 a3 := Tryz.isAgg3
 z3 := Tryz.sizeOf3
 v3 := Tryz.zeroValue3
 t4 := Tryz.underlying4
 a4 := Tryz.isAgg4
 z4 := Tryz.sizeOf4
 v4 := Tryz.zeroValue4
 t9 := Tryz.underlying9
 a9 := Tryz.isAgg9
 z9 := Tryz.sizeOf9
 v9 := Tryz.zeroValue9 }
open Go.RowKit Go.Lib in
theorem Tryz.strings_HasPrefix (s p : ByteArray) (w : World) :
 Calls Tryz.prog 88 #[.string s, .string p] w fun e w' => e = .returned (.bool (Lib.hasPrefix s.data.toList p.data.toList)) ∧ w' = w := Any.strings_HasPrefix Tryz.aaz s p w
end Go.Proofs

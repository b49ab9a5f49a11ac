/- Maps. -/
import Derived.Test.YtcbgfjghebopoaaDoorSV
import Derived.Carry
namespace Go.Sh
open Go.RowKit
set_option linter.unusedSimpArgs false
set_option linter.unusedVariables false
variable {c : Cx} {o : Oper}

theorem ok_makeMap {t : TypeId} (h : o.op = .makeMap t none) : OpOK c .makeMap o := by
  intro s R k r hr
  simp only [AOp.run] at hr
  refine ⟨_, _, hr, OpSem.run fun F g a w B hB hpre hs => ?_⟩
  have hc := hs.core
  obtain ⟨g', e1, e2, e3, e4⟩ := Core.newObjG (os0 := []) (ob := .map []) (w' := w.alloc (.map #[] 0)) hc (fun k hk => heap_alloc_old w _ k hk) (by simp) rfl rfl rfl rfl
    (fun g' _ => by simp only [ObjR]; exact ⟨#[], 0, heap_alloc_new w _, by simp [EntR]⟩)
  refine ⟨.map (some w.heap.size), g', w.alloc (.map #[] 0), ?_, ?_, by rw [e1]; exact hpre.trans (List.prefix_append _ _), ?_, e3⟩
  · simp [execOp, h, run_makeMap]
  · simp only [VR]
    refine ⟨_, rfl, ?_⟩
    rw [e1, hs.core.heap.length]
    simp
  · exact ⟨hs.size, fun t' => VR.ext e2 _ _ (hs.slots t'), by rw [simx_put_heap]; exact e4⟩

/-- A key of that type: a number or a string. -/
def keyD : TypeDesc → AV → Bool
  | .int _, .int _ _ => true
  | .string, .str _ => true
  | _, _ => false
theorem sameStr (a b : ByteArray) : (a == b) = (a.data.toList == b.data.toList) := by
  have h1 : (a == b) = (a.data == b.data) := rfl
  rw [h1, Bool.eq_iff_iff, beq_iff_eq, beq_iff_eq]
  exact Array.toList_inj.symm

/-- What is found. -/
theorem findK_some {R : Type} {key : AV} {kf : Nat → AV → Option R} {kn : Option R} {r : R} {kd : TypeDesc} (hkd : keyD kd key = true) : ∀ {es : List (AV × AV)} {i : Nat}, findK key es i kf kn = some r →
    (∃ j k v, es[j]? = some (k, v) ∧ kf (i + j) v = some r ∧ ∀ (g : Gh) (w : World) (kv : Value) (l : List MapEntry), VR g w key kv → EntR g w es l → ∃ e, l[j]? = some e ∧ VR g w v e.val ∧ Instr.findNow kd kv l i = some (some (i + j, e.val)) ∧ VR g w key e.key) ∨
    (kn = some r ∧ ∀ (g : Gh) (w : World) (kv : Value) (l : List MapEntry), VR g w key kv → EntR g w es l → Instr.findNow kd kv l i = some none)
  | [], i, h => .inr ⟨h, fun g w kv l hk he => by simp only [EntR] at he; subst he; rfl⟩
  | (k, v) :: es, i, h => by
    simp only [findK] at h
    have go : ∀ (b : Bool), cond b (kf i v) (findK key es (i + 1) kf kn) = some r → (∀ (g : Gh) (w : World) (kv : Value) (e : MapEntry), VR g w key kv → VR g w k e.key → Instr.sameNow kd kv e.key = some b ∧ (b = true → VR g w key e.key)) →
        (∃ j k' v', ((k, v) :: es)[j]? = some (k', v') ∧ kf (i + j) v' = some r ∧ ∀ (g : Gh) (w : World) (kv : Value) (l : List MapEntry), VR g w key kv → EntR g w ((k, v) :: es) l → ∃ e, l[j]? = some e ∧ VR g w v' e.val ∧ Instr.findNow kd kv l i = some (some (i + j, e.val)) ∧ VR g w key e.key) ∨
        (kn = some r ∧ ∀ (g : Gh) (w : World) (kv : Value) (l : List MapEntry), VR g w key kv → EntR g w ((k, v) :: es) l → Instr.findNow kd kv l i = some none) := by
      intro b hb hs
      cases b with
      | true =>
        refine .inl ⟨0, k, v, rfl, hb, fun g w kv l hk he => ?_⟩
        simp only [EntR] at he
        obtain ⟨e, rest, rfl, e1, e2, e3⟩ := he
        obtain ⟨h1, h2⟩ := hs g w kv e hk e1
        exact ⟨e, rfl, e2, by simp [Instr.findNow, h1], h2 rfl⟩
      | false =>
        rcases findK_some hkd (es := es) (i := i + 1) hb with ⟨j, k', v', h1, h2, h3⟩ | ⟨h1, h2⟩
        · refine .inl ⟨j + 1, k', v', by simpa using h1, by rw [show i + (j + 1) = i + 1 + j by omega]; exact h2, fun g w kv l hk he => ?_⟩
          simp only [EntR] at he
          obtain ⟨e, rest, rfl, e1, e2, e3⟩ := he
          obtain ⟨h4, _⟩ := hs g w kv e hk e1
          obtain ⟨e', h5, h6, h7, h8⟩ := h3 g w kv rest hk e3
          refine ⟨e', by simpa using h5, h6, ?_, h8⟩
          rw [show i + (j + 1) = i + 1 + j by omega]
          simp only [Instr.findNow, h4]
          exact h7
        · refine .inr ⟨h1, fun g w kv l hk he => ?_⟩
          simp only [EntR] at he
          obtain ⟨e, rest, rfl, e1, e2, e3⟩ := he
          obtain ⟨h4, _⟩ := hs g w kv e hk e1
          simp only [Instr.findNow, h4]
          exact h2 g w kv rest hk e3
    split at h
    · rename_i k1 x k2 y
      obtain ⟨h1, h2⟩ | ⟨_, h2⟩ := cond_some h
      case inr => exact absurd h2 (by simp)
      simp only [decide_eq_true_eq] at h1
      subst h1
      refine go _ h2 (fun g w kv e hk he => ?_)
      simp only [VR] at hk he
      subst hk
      rw [he]
      cases kd <;> simp [keyD] at hkd
      simp only [Instr.sameNow, if_true, true_and]
      intro hb
      simp only [beq_iff_eq] at hb
      subst hb
      simp [VR]
    · rename_i x y
      refine go _ h (fun g w kv e hk he => ?_)
      simp only [VR] at hk he
      obtain ⟨s1, rfl, rfl⟩ := hk
      obtain ⟨s2, he, rfl⟩ := he
      rw [he]
      cases kd <;> simp [keyD] at hkd
      simp only [Instr.sameNow, sameStr, true_and]
      intro hb
      simp only [beq_iff_eq] at hb
      simp only [VR]
      exact ⟨_, rfl, hb.symm⟩
    · exact absurd h (by simp)

theorem checkKey_succ {P : Program} {kt : TypeId} {kd : TypeDesc} (hk : P.underlying kt = some kd) {key : AV} (hkd : keyD kd key = true) (b : Bool) (n : Nat) (w : World) (v : Value) : (Instr.checkKey b (n + 1) kt v).run P w = .ok () w := by
  simp only [Instr.checkKey, Sem.run_bind, run_underlying hk, Result.andThen]
  cases kd <;> simp [keyD] at hkd <;> cases v <;> rfl
theorem checkKey_ok {P : Program} {kt : TypeId} {kd : TypeDesc} (hk : P.underlying kt = some kd) {key : AV} (hkd : keyD kd key = true) (b : Bool) (w : World) (v : Value) : (Instr.checkKey b 10000 kt v).run P w = .ok () w := checkKey_succ hk hkd b 9999 w v
theorem findKey_ok {P : Program} {kt : TypeId} {kd : TypeDesc} (hk : P.underlying kt = some kd) {v : Value} {l : List MapEntry} {x : Option (Nat × Value)} (h : Instr.findNow kd v l 0 = some x) (w : World) : (Instr.findKey kt v l).run P w = .ok x w := by
  simp only [Instr.findKey, Sem.run_bind, run_underlying hk, Result.andThen, h, Sem.run_pure]
theorem getObj_run {P : Program} {w : World} {r : Nat} {es : Array MapEntry} {cl : Nat} (h : w.heap[r]? = some (.map es cl)) : (getObj r).run P w = .ok (.map es cl) w := by
  simp [getObj, Sem.run, h]

def keyT (int : Bool) : TypeDesc → Bool
  | .int _ => int
  | .string => !int
  | _ => false
theorem keyI_D {int : Bool} {key : AV} {kd : TypeDesc} (h : keyI int key = true) (hk : keyT int kd = true) : keyD kd key = true := by
  cases kd <;> simp [keyT] at hk <;> subst hk <;> cases key <;> simp [keyI] at h <;> rfl
theorem keyI_own {int : Bool} {key : AV} (h : keyI int key = true) (v : Value) : owns key v = [] := by
  cases int <;> cases key <;> simp [keyI] at h <;> cases v <;> rfl
theorem owns_lookK {ok : Bool} {v : AV} {b : Bool} (u : Value) : owns (lookK ok v b) (if ok then .tuple #[u, .bool b] else u) = [] := by
  cases ok
  · exact owns_disown _ _
  · simp [lookK, owns, ownsL, owns_disown]
theorem VR_lookK {g : Gh} {w : World} {ok : Bool} {v : AV} {b : Bool} {u : Value} (h : VR g w v u) : VR g w (lookK ok v b) (if ok then .tuple #[u, .bool b] else u) := by
  cases ok
  · exact VR.disown _ _ h
  · simp only [lookK, VR]
    exact ⟨_, rfl, by simp only [VRs, VR]; exact ⟨u, _, rfl, VR.disown _ _ h, .bool b, [], rfl, rfl, rfl⟩⟩

theorem ok_lookup {int ok : Bool} {zero : AV} {m key : AX} {p q : Operand} {t kt et : TypeId} {kd : TypeDesc} {zr : Value} (h : o.op = .lookup t p q ok) (ht : c.P.underlying t = some (.map kt et)) (hk : c.P.underlying kt = some kd) (hkd : keyT int kd = true) (hz : (c.P.info? et).bind (·.zero) = some zr) (hf : fitC zero zr = true) (hm : fitX m p = true) (hx : fitX key q = true) : OpOK c (.lookup int ok zero m key) o := by
  refine ok_tells fun s R k r hr => ?_
  obtain ⟨it, hz1, hz2⟩ := Option.bind_eq_some_iff.1 hz
  have hzero : ∀ w : World, (zeroValue et).run c.P w = .ok zr w := fun w => by simp [zeroValue, typeInfo, hz1, hz2]
  simp only [AOp.run] at hr
  split at hr
  · rename_i hv
    obtain ⟨h1, h2⟩ | ⟨_, h2⟩ := cond_some hr
    case inr => exact absurd h2 (by simp)
    have hkd' := keyI_D h1 hkd
    refine ⟨_, h2, fun F g a w hs => ?_⟩
    have hp := ev_read hs hm
    rw [hv] at hp
    simp only [VR] at hp
    refine ⟨if ok then .tuple #[zr, .bool false] else zr, ?_, VR_lookK (fitC_ok g w zero zr hf).1, owns_lookK _⟩
    simp only [execOp, h]
    refine run_value ?_
    rw [hp]
    have hfk := findKey_ok (P := c.P) hk (v := a.eval q) (l := []) (x := none) rfl w
    simp only [Instr.lookup, Sem.run_bind, run_underlying ht, Result.andThen, Sem.run_pure, checkKey_ok hk hkd', hfk, hzero]
  · rename_i id hv
    split at hr
    · rename_i es hob
      obtain ⟨h1, h2⟩ | ⟨_, h2⟩ := cond_some hr
      case inr => exact absurd h2 (by simp)
      have hkd' := keyI_D h1 hkd
      rcases findK_some hkd' h2 with ⟨j, k', v, h3, h4, h5⟩ | ⟨h3, h4⟩
      · refine ⟨_, h4, fun F g a w hs => ?_⟩
        have hp := ev_read hs hm
        have hq := ev_read hs hx
        rw [hv] at hp
        simp only [VR] at hp
        obtain ⟨b, hp, hb⟩ := hp
        have hobj := getObj_ok hs.core.heap id b _ hob hb
        simp only [ObjR] at hobj
        obtain ⟨en, cl, hw, hes⟩ := hobj
        obtain ⟨e, h6, h7, h8, _⟩ := h5 g w (a.eval q) en.toList hq hes
        refine ⟨if ok then .tuple #[e.val, .bool true] else e.val, ?_, VR_lookK h7, owns_lookK _⟩
        simp only [execOp, h]
        refine run_value ?_
        rw [hp]
        have hfk := findKey_ok (P := c.P) hk h8 w
        simp only [Instr.lookup, Sem.run_bind, run_underlying ht, Result.andThen, Sem.run_pure, getObj_run hw, checkKey_ok hk hkd', hfk]
      · refine ⟨_, h3, fun F g a w hs => ?_⟩
        have hp := ev_read hs hm
        have hq := ev_read hs hx
        rw [hv] at hp
        simp only [VR] at hp
        obtain ⟨b, hp, hb⟩ := hp
        have hobj := getObj_ok hs.core.heap id b _ hob hb
        simp only [ObjR] at hobj
        obtain ⟨en, cl, hw, hes⟩ := hobj
        have h8 := h4 g w (a.eval q) en.toList hq hes
        refine ⟨if ok then .tuple #[zr, .bool false] else zr, ?_, VR_lookK (fitC_ok g w zero zr hf).1, owns_lookK _⟩
        simp only [execOp, h]
        refine run_value ?_
        rw [hp]
        have hfk := findKey_ok (P := c.P) hk h8 w
        simp only [Instr.lookup, Sem.run_bind, run_underlying ht, Result.andThen, Sem.run_pure, getObj_run hw, checkKey_ok hk hkd', hfk, hzero]
    · exact absurd hr (by simp)
  · exact absurd hr (by simp)

theorem EntR.set {g : Gh} {w : World} {k v : AV} {e : MapEntry} (hk : VR g w k e.key) (hv : VR g w v e.val) : ∀ {es : List (AV × AV)} {l : List MapEntry} (i : Nat), EntR g w es l → EntR g w (es.set i (k, v)) (l.set i e)
  | [], l, i, h => by simp only [EntR] at h; subst h; simp [EntR]
  | (k0, v0) :: es, l, i, h => by
    obtain ⟨x, rest, rfl, e1, e2, e3⟩ := h
    cases i with
    | zero => exact ⟨e, rest, rfl, hk, hv, e3⟩
    | succ i => exact ⟨x, _, rfl, e1, e2, EntR.set hk hv i e3⟩
theorem EntR.push {g : Gh} {w : World} {k v : AV} {e : MapEntry} (hk : VR g w k e.key) (hv : VR g w v e.val) : ∀ {es : List (AV × AV)} {l : List MapEntry}, EntR g w es l → EntR g w (es ++ [(k, v)]) (l ++ [e])
  | [], l, h => by simp only [EntR] at h; subst h; exact ⟨e, [], rfl, hk, hv, rfl⟩
  | (k0, v0) :: es, l, h => by
    obtain ⟨x, rest, rfl, e1, e2, e3⟩ := h
    exact ⟨x, _, rfl, e1, e2, EntR.push hk hv e3⟩

theorem setObj_run {P : Program} {w : World} {r : Nat} {en : Array MapEntry} {cl : Nat} (h : w.heap[r]? = some (.map en cl)) (ob : Obj) : (setObj r ob).run P w = .ok () { w with heap := w.heap.setIfInBounds r ob } := by
  simp only [setObj, Sem.run, h]

theorem same_key {g : Gh} {w : World} {int : Bool} {key : AV} {a b : Value} (h : keyI int key = true) (ha : VR g w key a) (hb : VR g w key b) : a = b := by
  cases int <;> cases key <;> simp [keyI] at h
  · simp only [VR] at ha hb
    obtain ⟨s1, rfl, h1⟩ := ha
    obtain ⟨s2, rfl, h2⟩ := hb
    have : s1.data = s2.data := Array.toList_inj.1 (h1.trans h2.symm)
    cases s1; cases s2; simp_all
  · simp only [VR] at ha hb
    rw [ha, hb]
theorem keyThatStays_same {P : Program} {w : World} {g : Gh} {int : Bool} {key : AV} {a : Value} (h : keyI int key = true) (ha : VR g w key a) : (Instr.keyThatStays a a).run P w = .ok a w := by
  have gen : ∀ n, Instr.sameBits n a a = true := by
    intro n
    cases int <;> cases key <;> simp [keyI] at h
    · simp only [VR] at ha
      obtain ⟨s1, rfl, h1⟩ := ha
      cases n <;> simp [Instr.sameBits, sameStr]
    · simp only [VR] at ha
      subst ha
      cases n <;> simp [Instr.sameBits]
  unfold Instr.keyThatStays
  rw [gen, if_pos rfl]
  rfl

theorem ok_mapPut {int : Bool} {m key x : AX} {p q u : Operand} {t kt et : TypeId} {kd : TypeDesc} (h : o.op = .insert t p q u ∨ o.op = .mapUpdate t p q u) (ht : c.P.underlying t = some (.map kt et)) (hk : c.P.underlying kt = some kd) (hkd : keyT int kd = true) (hm : fitX m p = true) (hx : fitX key q = true) (hu : fitX x u = true) : OpOK c (.mapPut int m key x) o := by
  intro s R k r hr
  simp only [AOp.run] at hr
  split at hr
  · rename_i id hv
    split at hr
    · rename_i es hob
      obtain ⟨h1, h2⟩ | ⟨_, h2⟩ := cond_some hr
      case inr => exact absurd h2 (by simp)
      have hkd' := keyI_D h1 hkd
      have turn : ∀ (es' : List (AV × AV)) (upd : Array MapEntry → Value → Value → Nat → Array MapEntry) (up : Nat → Nat), (∀ (g : Gh) (w : World) (a : Act) (en : Array MapEntry) (b cl : Nat), VR g w (key.ev s) (a.eval q) → VR g w (x.ev s) (a.eval u) → EntR g w es en.toList → w.heap[b]? = some (.map en cl) → a.eval p = .map (some b) →
          (execOp a.eval o).run c.P w = .ok .skip { w with heap := w.heap.setIfInBounds b (.map (upd en (a.eval q) (a.eval u) cl) (up cl)) } ∧ EntR g w es' (upd en (a.eval q) (a.eval u) cl).toList) →
          OpSem c o s .undef ⟨s.slots, s.heap.set id (.map es')⟩ := by
        intro es' upd up hupd F g a w B hB hpre hs ro dn next Q hnext
        have hp := ev_read hs hm
        have hq := ev_read hs hx
        have hxu := ev_read hs hu
        rw [hv] at hp
        simp only [VR] at hp
        obtain ⟨b, hp, hb⟩ := hp
        have hobj := getObj_ok hs.core.heap id b _ hob hb
        simp only [ObjR] at hobj
        obtain ⟨en, cl, hw, hes⟩ := hobj
        have hlt := (Array.getElem?_eq_some_iff.1 hw).1
        obtain ⟨hrun, hes'⟩ := hupd g w a en b cl hq hxu hes hw hp
        have hc := hs.core
        rw [List.nil_append] at hc
        obtain ⟨e1, e2, e3⟩ := hc.setObjG (ob := .map es) (ob' := .map es') (os0 := []) (os1 := []) (os' := slotOwns s 0 a.tmps.toList) (w' := { w with heap := w.heap.setIfInBounds b (.map (upd en (a.eval q) (a.eval u) cl) (up cl)) }) hob hb rfl (fun k hk => by simp [Array.getElem?_setIfInBounds_ne (Ne.symm hk)]) (by have h0 : bsize w b = 0 := (by unfold bsize; rw [hw]); rw [h0]; exact Nat.zero_le _) (by simp) rfl rfl rfl rfl rfl
          (fun ext => by simp only [ObjR]; exact ⟨upd en (a.eval q) (a.eval u) cl, up cl, Array.getElem?_setIfInBounds_self_of_lt hlt, hes'.ext ext⟩) (fun x => Nat.le_refl _) (fun r hr => hr)
        refine opw_skip hrun (hnext undef g _ (by simp [VR]) hpre ?_ e2)
        refine ⟨hs.size, fun t' => VR.ext e1 _ _ (hs.slots t'), ?_⟩
        rw [simx_put_heap, owns_undef]
        exact e3
      have run : ∀ (w : World) (a : Act) (en : Array MapEntry) (b cl : Nat) (x0 : Option (Nat × Value)) (res : Obj), w.heap[b]? = some (.map en cl) → a.eval p = .map (some b) → Instr.findNow kd (a.eval q) en.toList 0 = some x0 →
          ((match x0 with
            | some (i, _) => do
              let key ← Instr.keyThatStays (((en[i]?).map (·.key)).getD (a.eval q)) (a.eval q)
              setObj b (.map (en.modify i fun e => { e with key, val := a.eval u }) cl)
            | none => setObj b (.map (en.push { key := a.eval q, val := a.eval u, born := cl }) (cl + 1)) : Sem Unit).run c.P w = .ok () { w with heap := w.heap.setIfInBounds b res }) →
          (execOp a.eval o).run c.P w = .ok .skip { w with heap := w.heap.setIfInBounds b res } := by
        intro w a en b cl x0 res hw hp hfn hres
        have hfk := findKey_ok (P := c.P) hk hfn w
        have hmu : (Instr.mapUpdate t (a.eval p) (a.eval q) (a.eval u)).run c.P w = .ok () { w with heap := w.heap.setIfInBounds b res } := by
          rw [hp]
          simp only [Instr.mapUpdate, Sem.run_bind, run_underlying ht, Result.andThen, getObj_run hw, checkKey_ok hk hkd', hfk]
          exact hres
        rcases h with h | h <;> simp only [execOp, h, Sem.run_bind, hmu, Result.andThen, Sem.run_pure]
      rcases findK_some hkd' h2 with ⟨j, k', v, h3, h4, h5⟩ | ⟨h3, h4⟩
      · refine ⟨_, _, h4, turn _ (fun en kv xv _ => en.modify j fun e => { e with key := kv, val := xv }) (fun x => x) ?_⟩
        intro g w a en b cl hq hxu hes hw hp
        obtain ⟨e, h6, h7, h8, h9⟩ := h5 g w (a.eval q) en.toList hq hes
        have hej : en[j]? = some e := by simpa using h6
        have hsame := same_key h1 h9 hq
        refine ⟨run w a en b cl _ _ hw hp h8 ?_, ?_⟩
        · simp only [Nat.zero_add, hej, Option.map_some, Option.getD_some]
          rw [hsame]
          simp only [Sem.run_bind, keyThatStays_same h1 hq, Result.andThen, setObj_run hw]
        · simp only [Nat.zero_add]
          have hjl : j < en.size := (Array.getElem?_eq_some_iff.1 hej).1
          have : (en.modify j fun e => { e with key := a.eval q, val := a.eval u }).toList = en.toList.set j { e with key := a.eval q, val := a.eval u } := by
            apply List.ext_getElem?
            intro i
            rw [Array.getElem?_toList, Array.getElem?_modify, List.getElem?_set]
            by_cases hi : j = i
            · subst hi
              simp [hej, hjl]
              exact congrArg MapEntry.born (Array.getElem?_eq_some_iff.1 hej).2
            · simp [hi]
          rw [this]
          exact EntR.set (e := { e with key := a.eval q, val := a.eval u }) hq (VR.disown _ _ hxu) j hes
      · refine ⟨_, _, h3, turn _ (fun en kv xv cl => en.push { key := kv, val := xv, born := cl }) (· + 1) ?_⟩
        intro g w a en b cl hq hxu hes hw hp
        have h8 := h4 g w (a.eval q) en.toList hq hes
        refine ⟨run w a en b cl _ _ hw hp h8 (setObj_run hw _), ?_⟩
        simp only [Array.toList_push]
        exact EntR.push (e := { key := a.eval q, val := a.eval u, born := cl }) hq (VR.disown _ _ hxu) hes
    · exact absurd hr (by simp)
  · exact absurd hr (by simp)
end Go.Sh

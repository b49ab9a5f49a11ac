/- More operations that only read: lengths, fields, cuts, strings of bytes. -/
import Derived.Test.YtcbgfjghebopoaaDoorSF
import Derived.Laws.BytesArg
import Derived.Laws.Small
namespace Go.Sh
open Go.RowKit
set_option linter.unusedSimpArgs false
set_option linter.unusedVariables false
variable {c : Cx} {o : Oper}

theorem run_call_builtin {P : Program} {w : World} {a : Act} {cl : Call} {b : Builtin} (h : o.op = .call cl) (hc : cl.callee = .builtin b) {r : Result Next}
    (hr : (builtin b cl.argTypes o.type (cl.args.map fun | .const _ => true | _ => false) (cl.args.map a.eval)).run P w = r) : (execOp a.eval o).run P w = r := by
  simp only [execOp, h, resolve, hc, Sem.run_bind, Sem.run_pure, Result.andThen, invoke]
  exact hr

theorem ok_len {x : AX} {p : Operand} {t e : TypeId} {cl : Call} (h : o.op = .call cl) (hc : cl.callee = .builtin .len) (hargs : cl.args = #[p]) (hts : cl.argTypes = #[t]) (ht : c.P.underlying t = some (.slice e)) (hx : fitX x p = true) : OpOK c (.len x) o := by
  refine ok_tells fun s R k r hr => ?_
  have key : ∀ (w : World) (a : Act) (n : Nat), (∃ ao cp, a.eval p = .slice ao n cp) → (execOp a.eval o).run c.P w = .ok (.value (goInt n)) w := by
    intro w a n ⟨ao, cp, h1⟩
    refine run_call_builtin h hc ?_
    rw [hargs, hts]
    simp [builtin, h1, Builtin.len_, run_underlying ht]
  simp only [AOp.run] at hr
  split at hr
  · rename_i own kd l hv
    refine ⟨_, hr, fun F g a w hs => ?_⟩
    have hp := ev_read hs hx
    rw [hv] at hp
    exact ⟨_, key w a _ hp.ints_len, by simp [VR, goInt], rfl⟩
  · rename_i own l hv
    refine ⟨_, hr, fun F g a w hs => ?_⟩
    have hp := ev_read hs hx
    rw [hv] at hp
    exact ⟨_, key w a _ hp.strs_len, by simp [VR, goInt], rfl⟩
  · rename_i own sz l hv
    refine ⟨_, hr, fun F g a w hs => ?_⟩
    have hp := ev_read hs hx
    rw [hv] at hp
    exact ⟨_, key w a _ hp.sl_len, by simp [VR, goInt], rfl⟩
  · rename_i id off m sz hv
    refine ⟨_, hr, fun F g a w hs => ?_⟩
    have hp := ev_read hs hx
    rw [hv] at hp
    simp only [VR] at hp
    obtain ⟨ao, b, cp, hp, _⟩ := hp
    exact ⟨_, key w a m ⟨_, _, hp⟩, by simp [VR, goInt], rfl⟩
  · rename_i id m tot sz hv
    refine ⟨_, hr, fun F g a w hs => ?_⟩
    have hp := ev_read hs hx
    rw [hv] at hp
    simp only [VR] at hp
    obtain ⟨ao, b, cp, hp, _⟩ := hp
    exact ⟨_, key w a m ⟨_, _, hp⟩, by simp [VR, goInt], rfl⟩
  · exact absurd hr (by simp)

theorem ok_lenS {x : AX} {p : Operand} {t : TypeId} {cl : Call} (h : o.op = .call cl) (hc : cl.callee = .builtin .len) (hargs : cl.args = #[p]) (hts : cl.argTypes = #[t]) (ht : c.P.underlying t = some .string) (hx : fitX x p = true) : OpOK c (.lenS x) o := by
  refine ok_tells fun s R k r hr => ?_
  simp only [AOp.run] at hr
  split at hr
  · rename_i l hv
    refine ⟨_, hr, fun F g a w hs => ?_⟩
    have hp := ev_read hs hx
    rw [hv] at hp
    obtain ⟨s1, h1, h2⟩ := hp.str_len
    refine ⟨goInt l.length, ?_, by simp [VR, goInt], rfl⟩
    refine run_call_builtin h hc ?_
    rw [hargs, hts]
    simp [builtin, h1, Builtin.len_, run_underlying ht, h2]
  · exact absurd hr (by simp)

theorem ok_minmax {mx : Bool} {x y : AX} {p q : Operand} {cl : Call} (h : o.op = .call cl) (hc : cl.callee = .builtin (if mx then .max else .min)) (hargs : cl.args = #[p, q]) (hx : fitX x p = true) (hy : fitX y q = true) : OpOK c (.minmax mx x y) o := by
  refine ok_tells fun s R k r hr => ?_
  simp only [AOp.run] at hr
  split at hr
  · rename_i kd a1 kd' b1 hv hw
    cases mx with
    | true =>
      refine ⟨_, hr, fun F g a w hs => ?_⟩
      have hp := ev_read hs hx
      have hq := ev_read hs hy
      rw [hv] at hp
      rw [hw] at hq
      simp only [VR] at hp hq
      refine ⟨.int kd (if a1 < b1 then b1 else a1), ?_, by simp [VR], rfl⟩
      refine run_call_builtin h hc ?_
      rw [hargs]
      simp only [builtin, if_true, List.map_toArray, List.map_cons, List.map_nil, hp, hq]
      exact run_value (run_max_int2 w _ _ kd kd' a1 b1)
    | false =>
      refine ⟨_, hr, fun F g a w hs => ?_⟩
      have hp := ev_read hs hx
      have hq := ev_read hs hy
      rw [hv] at hp
      rw [hw] at hq
      simp only [VR] at hp hq
      refine ⟨.int kd (if b1 < a1 then b1 else a1), ?_, by simp [VR], rfl⟩
      refine run_call_builtin h hc ?_
      rw [hargs]
      simp only [builtin, Bool.false_eq_true, if_false, List.map_toArray, List.map_cons, List.map_nil, hp, hq]
      exact run_value (run_min_int2 w _ _ kd kd' a1 b1)
  · exact absurd hr (by simp)

theorem ownsL_get {cs : List AV} {vs : List Value} : ownsL cs vs = [] → ∀ (i : Nat) (c : AV) (v : Value), cs[i]? = some c → vs[i]? = some v → owns c v = [] := by
  induction cs generalizing vs with
  | nil => intro _ i c v h; simp at h
  | cons c1 cs ih =>
    intro h i c v h1 h2
    cases vs with
    | nil => simp at h2
    | cons v1 vs =>
      simp only [ownsL, List.append_eq_nil_iff] at h
      cases i with
      | zero => simp at h1 h2; subst h1; subst h2; exact h.1
      | succ i => exact ih h.2 i c v (by simpa using h1) (by simpa using h2)
theorem ownsL_drop {cs : List AV} {vs : List Value} (n : Nat) : ownsL cs vs = [] → ownsL (cs.drop n) (vs.drop n) = [] := by
  induction n generalizing cs vs with
  | zero => intro h; simpa using h
  | succ n ih =>
    intro h
    cases cs with
    | nil => cases vs <;> rfl
    | cons c cs =>
      cases vs with
      | nil => simp [ownsL]
      | cons v vs =>
        simp only [ownsL, List.append_eq_nil_iff] at h
        exact ih h.2
theorem ownsL_take {cs : List AV} {vs : List Value} (n : Nat) : ownsL cs vs = [] → ownsL (cs.take n) (vs.take n) = [] := by
  induction n generalizing cs vs with
  | zero => intro h; rfl
  | succ n ih =>
    intro h
    cases cs with
    | nil => cases vs <;> rfl
    | cons c cs =>
      cases vs with
      | nil => rfl
      | cons v vs =>
        simp only [ownsL, List.append_eq_nil_iff] at h
        simp [ownsL, h.1, ih h.2]

theorem ownsL_mem {cs : List AV} {vs : List Value} {i : Nat} {c : AV} {v : Value} (h1 : cs[i]? = some c) (h2 : vs[i]? = some v) : (∀ r, r ∈ owns c v → r ∈ ownsL cs vs) ∧ ∀ b, oc b (owns c v) ≤ oc b (ownsL cs vs) := by
  induction cs generalizing vs i with
  | nil => simp at h1
  | cons c1 cs ih =>
    cases vs with
    | nil => simp at h2
    | cons v1 vs =>
      simp only [ownsL]
      cases i with
      | zero =>
        simp at h1 h2
        subst h1; subst h2
        exact ⟨fun r hr => List.mem_append_left _ hr, fun b => by rw [oc_append]; omega⟩
      | succ i =>
        obtain ⟨h3, h4⟩ := ih (by simpa using h1) (by simpa using h2)
        exact ⟨fun r hr => List.mem_append_right _ (h3 r hr), fun b => by rw [oc_append]; have := h4 b; omega⟩

theorem ok_field {off n j : Nat} {aggr : Bool} {x : AX} {p : Operand} {t : TypeId} {fs : Array Field} {f : Field} {d : TypeDesc} (h : o.op = .field t p j) (ht : c.P.underlying t = some (.struct fs)) (hf : fs[j]? = some f) (hof : f.offset = off)
    (hd : c.P.underlying f.type = some d) (ha : isAggD d = aggr) (hn : (c.P.info? f.type).map (·.size) = some n) (h0 : 0 < n) (hx : fitX x p = true) (hfr : x.free = true) : OpOK c (.field off n aggr x) o := by
  refine ok_tells fun s R k r hr => ?_
  simp only [AOp.run] at hr
  split at hr
  · rename_i cs hv
    obtain ⟨v, h1, h2⟩ := asK_some hr
    refine ⟨_, h1, fun F g a w hs => ?_⟩
    have hp := ev_read hs hx
    have hown := free_owns hs hx hfr
    rw [hv] at hp hown
    simp only [VR] at hp
    obtain ⟨vs, hp, hvs⟩ := hp
    rw [hp] at hown
    simp only [owns] at hown
    have hsub := (hvs.drop off).take n
    have hosub := ownsL_take n (ownsL_drop off hown)
    have run : ∀ v', (part f.type vs off).run c.P w = .ok v' w → (execOp a.eval o).run c.P w = .ok (.value v') w := by
      intro v' hv'
      simp only [execOp, h]
      refine run_value ?_
      simp only [Instr.field, Sem.run_bind, run_underlying ht, Result.andThen, hf, hp, asAgg, Sem.run_pure, hof]
      exact hv'
    rcases h2 with ⟨rfl, h3, rfl⟩ | ⟨rfl, rest, h3⟩
    · refine ⟨.agg (vs.extract off (off + n)), run _ ?_, ?_, ?_⟩
      · simp [part, run_isAgg' hd, ha, run_sizeOf' hn]
      · simp only [VR]
        refine ⟨_, rfl, ?_⟩
        rw [show (vs.extract off (off + n)).toList = (vs.toList.drop off).take n by simp [List.extract_eq_take_drop]]
        exact hsub
      · simp only [owns]
        rw [show (vs.extract off (off + n)).toList = (vs.toList.drop off).take n by simp [List.extract_eq_take_drop]]
        exact hosub
    · rw [h3] at hsub hosub
      simp only [VRs] at hsub
      obtain ⟨v', us, h4, h5, _⟩ := hsub
      rw [h4] at hosub
      simp only [ownsL, List.append_eq_nil_iff] at hosub
      refine ⟨v', run _ ?_, h5, hosub.1⟩
      have h6 : vs[off]? = some v' := by
        have h7 : ((vs.toList.drop off).take n)[0]? = some v' := by rw [h4]; rfl
        rw [List.getElem?_take, if_pos h0, List.getElem?_drop] at h7
        simpa using h7
      simp [part, run_isAgg' hd, ha, h6]
  · exact absurd hr (by simp)

theorem noPtrL_drop : ∀ {cs : List AV} (n : Nat), noPtrL cs = true → noPtrL (cs.drop n) = true
  | [], n, h => by simpa using h
  | c :: cs, 0, h => h
  | c :: cs, n + 1, h => by
    simp only [noPtrL, Bool.and_eq_true] at h
    simpa using noPtrL_drop n h.2

theorem ok_fieldA {off j z : Nat} {x : AX} {p : Operand} {t : TypeId} {fs : Array Field} {f : Field} (h : o.op = .fieldAddr t p j) (ht : c.P.underlying t = some (.struct fs)) (hf : fs[j]? = some f) (hof : f.offset = off)
    (hn : (c.P.info? f.type).map (·.size) = some z) (h0 : 0 < z) (hx : fitX x p = true) : OpOK c (.fieldA off x) o := by
  refine ok_tells fun s R k r hr => ?_
  have run : ∀ (a : Act) (w : World) (ad : Addr), a.eval p = .pointer (some ad) → (execOp a.eval o).run c.P w = .ok (.value (.pointer (some (ad.add off)))) w := by
    intro a w ad hp
    simp only [execOp, h]
    refine run_value ?_
    simp only [Instr.fieldAt, Sem.run_bind, run_underlying ht, Result.andThen, hf, hp, Instr.sureAddr, Sem.run_pure, fieldPlace, run_sizeOf' hn, hof]
    rw [if_neg (by omega)]
    rfl
  simp only [AOp.run] at hr
  split at hr
  · rename_i id off' hv
    refine ⟨_, hr, fun F g a w hs => ?_⟩
    have hp := ev_read hs hx
    rw [hv] at hp
    simp only [VR] at hp
    obtain ⟨b, hp, hb⟩ := hp
    refine ⟨_, run a w _ hp, ?_, rfl⟩
    rw [add_eq _ rfl]
    simp only [VR]
    exact ⟨b, rfl, hb⟩
  · rename_i cs hv
    obtain ⟨h1, hr⟩ | ⟨_, hr⟩ := cond_some hr
    case inr => exact absurd hr (by simp)
    have h1 := Nat.le_of_ble_eq_true h1
    refine ⟨_, hr, fun F g a w hs => ?_⟩
    have hp := ev_read hs hx
    rw [hv] at hp
    simp only [VR] at hp
    obtain ⟨ad, vs, hp, hrd, hvs, hnp⟩ := hp
    refine ⟨_, run a w _ hp, ?_, rfl⟩
    simp only [VR]
    have hl := hvs.length
    have h2 := hrd.sub off (vs.length - off) (by omega)
    rw [List.take_of_length_le (by simp)] at h2
    exact ⟨_, _, rfl, h2, hvs.drop off, noPtrL_drop off hnp⟩
  · exact absurd hr (by simp)

theorem boundK_some {i : AV} {top : Nat} {R : Type} {k : Nat → Option R} {r : R} (h : boundK i top k = some r) : ∃ kd n, i = .int kd n ∧ 0 ≤ n ∧ n ≤ (top : Int) ∧ k n.toNat = some r := by
  unfold boundK at h
  split at h
  · rename_i kd n
    obtain ⟨h1, h2⟩ | ⟨_, h2⟩ := cond_some h
    case inr => exact absurd h2 (by simp)
    obtain ⟨h3, h4⟩ | ⟨_, h4⟩ := cond_some h2
    case inr => exact absurd h4 (by simp)
    exact ⟨kd, n, rfl, by simpa using h1, by simpa using h3, h4⟩
  · exact absurd h (by simp)

def VRo (g : Gh) (w : World) : Option AV → Option Value → Prop
  | some a, some v => VR g w a v
  | none, none => True
  | _, _ => False
def fitO : Option AX → Option Operand → Bool
  | some x, some p => fitX x p
  | none, none => true
  | _, _ => false
theorem VRo_read {F : Nat → Prop} {nt : Nat} {g : Gh} {s : St} {a : Act} {w : World} {os : List Rec} {x : Option AX} {p : Option Operand} (h : SimX F nt g s a w os) (hx : fitO x p = true) : VRo g w (x.map (·.ev s)) (p.map a.eval) := by
  cases x <;> cases p <;> simp [fitO] at hx
  · trivial
  · exact ev_read h hx

theorem sliceK_some {len : Nat} {lo hi : Option AV} {R : Type} {k : Nat → Option Nat → Option R} {r : R} (h : sliceK len lo hi k = some r) : ∃ a b, k a b = some r ∧ a ≤ b.getD len ∧ b.getD len ≤ len ∧
    ∀ (P : Program) (w : World) (g : Gh) (lov hiv : Option Value) (cap : Nat) (is : Bool), len ≤ cap → VRo g w lo lov → VRo g w hi hiv → (Instr.sliceBounds is len cap lov hiv none).run P w = .ok (a, b.getD len, cap) w := by
  unfold sliceK at h
  cases hi with
  | some hv =>
    obtain ⟨kh, nh, rfl, h1, h2, h3⟩ := boundK_some h
    cases lo with
    | some lv =>
      obtain ⟨kl, nl, rfl, h4, h5, h6⟩ := boundK_some h3
      refine ⟨_, _, h6, by simp; omega, by simp; omega, ?_⟩
      intro P w g lov hiv cap is hle hl hh
      cases lov <;> cases hiv <;> simp only [VRo, VR] at hl hh
      subst hl; subst hh
      have e1 : (nh.toNat : Int) = nh := Int.toNat_of_nonneg h1
      have e2 : nh ≤ (cap : Int) := by omega
      have e3 : nl ≤ nh := by omega
      simp [Instr.sliceBounds, run_sliceBound, h1, h4, e2, e1, e3]
    | none =>
      refine ⟨_, _, h3, by simp, by simp; omega, ?_⟩
      intro P w g lov hiv cap is hle hl hh
      cases lov <;> cases hiv <;> simp only [VRo, VR] at hl hh
      subst hh
      have e2 : nh ≤ (cap : Int) := by omega
      simp [Instr.sliceBounds, run_sliceBound, h1, e2]
  | none =>
    cases lo with
    | some lv =>
      obtain ⟨kl, nl, rfl, h4, h5, h6⟩ := boundK_some h
      refine ⟨_, _, h6, by simp; omega, by simp, ?_⟩
      intro P w g lov hiv cap is hle hl hh
      cases lov <;> cases hiv <;> simp only [VRo, VR] at hl hh
      subst hl
      simp [Instr.sliceBounds, run_sliceBound, h4, h5]
    | none =>
      refine ⟨_, _, h, by simp, by simp, ?_⟩
      intro P w g lov hiv cap is hle hl hh
      cases lov <;> cases hiv <;> simp only [VRo, VR] at hl hh
      simp [Instr.sliceBounds]

theorem cut_eq {α : Type} (l : List α) (a : Nat) (b : Option Nat) (h : b.getD l.length ≤ l.length) : cut l a b = (l.take (b.getD l.length)).drop a := by
  cases b with
  | some b => rfl
  | none => simp [cut]

/-- A cut row. -/
theorem Row.cut {g : Gh} {w : World} {own : Bool} {ao : Option Addr} {n c sz : Nat} {vs : List Value} (h : Row g w own ao n c sz vs) {a b : Nat} (h1 : a ≤ b) (h2 : b ≤ n) :
    Row g w false (if c = a then ao else ao.map (·.add (a * sz))) (b - a) (c - a) sz ((vs.take (b * sz)).drop (a * sz)) := by
  obtain ⟨e1, e2, e3, e4, e5, e6, e7⟩ := h
  have m1 : a * sz ≤ b * sz := Nat.mul_le_mul_right _ h1
  have m2 : b * sz ≤ n * sz := Nat.mul_le_mul_right _ h2
  refine ⟨by rw [List.length_drop, List.length_take, Nat.sub_mul]; omega, by omega, by omega, fun hp => ?_, fun hh => by simp at hh, fun hn => ?_, fun u hu => e7 u (List.mem_of_mem_take (List.mem_of_mem_drop hu))⟩
  · rw [List.length_drop, List.length_take] at hp
    obtain ⟨ad, rfl, hr⟩ := e4 (by omega)
    have hne : c ≠ a := by
      intro e
      subst e
      have : b = n := by omega
      have : n = c := by omega
      subst this; subst b
      omega
    refine ⟨ad.add (a * sz), by simp [hne], ?_⟩
    have := hr.sub (a * sz) (b * sz - a * sz) (by omega)
    rwa [List.drop_take]
  · by_cases e : c = a
    · rw [if_pos e] at hn
      have := e6 hn
      omega
    · rw [if_neg e] at hn
      have := e6 (by simpa using hn)
      omega

theorem ok_slice {x : AX} {lo hi : Option AX} {p : Operand} {l' h' : Option Operand} {t e : TypeId} {z : Nat} (h : o.op = .slice t p l' h' none) (ht : c.P.underlying t = some (.slice e)) (hz : (c.P.info? e).map (·.size) = some z) (h0 : 0 < z)
    (hx : fitX x p = true) (hlo : fitO lo l' = true) (hhi : fitO hi h' = true) : OpOK c (.slice z x lo hi) o := by
  refine ok_tells fun s R k r hr => ?_
  have run : ∀ (g : Gh) (a : Act) (w : World) (ao : Option Addr) (n cp m1 : Nat) (m2 : Option Nat), a.eval p = .slice ao n cp → n ≤ cp → VRo g w (lo.map (·.ev s)) (l'.map a.eval) → VRo g w (hi.map (·.ev s)) (h'.map a.eval) →
      (∀ (P : Program) (w : World) (g : Gh) (lov hiv : Option Value) (cap : Nat) (is : Bool), n ≤ cap → VRo g w (lo.map (·.ev s)) lov → VRo g w (hi.map (·.ev s)) hiv → (Instr.sliceBounds is n cap lov hiv none).run P w = .ok (m1, m2.getD n, cap) w) →
      (execOp a.eval o).run c.P w = .ok (.value (.slice (if cp = m1 then ao else ao.map (·.add (m1 * z))) (m2.getD n - m1) (cp - m1))) w := by
    intro g a w ao n cp m1 m2 hp hle hl hh hb
    simp only [execOp, h]
    refine run_value ?_
    rw [run_sliceAt_slice w t _ _ _ _ (by rw [elem_eq ht]; exact ht), hp]
    simp only [Option.map_none]
    rw [run_slice_any w t ao n cp (by rw [elem_eq ht]; exact ht), hb c.P w g _ _ cp true hle hl hh, elem_eq ht]
    simp [Result.andThen, run_sizeOf' hz, sliced]
  simp only [AOp.run] at hr
  split at hr
  · rename_i own kd l hv
    obtain ⟨hc, hr2⟩ | ⟨_, hr2⟩ := cond_some hr
    case inr => exact absurd hr2 (by simp)
    simp only [beq_iff_eq] at hc
    subst hc
    obtain ⟨m1, m2, h3, h4, h5, h6⟩ := sliceK_some hr2
    refine ⟨_, h3, fun F g a w hs => ?_⟩
    have hp := ev_read hs hx
    rw [hv] at hp
    simp only [VR] at hp
    obtain ⟨ao, n, cp, hp, hrow⟩ := hp
    have hn : n = l.length := by have := hrow.1; simp at this; exact this.symm
    subst hn
    refine ⟨_, run g a w ao _ cp m1 m2 hp hrow.2.1 (VRo_read hs hlo) (VRo_read hs hhi) h6, ?_, rfl⟩
    simp only [VR]
    refine ⟨_, _, _, rfl, ?_⟩
    have := hrow.cut h4 h5
    simp only [Nat.mul_one] at this
    rw [cut_eq l m1 m2 h5, List.map_drop, List.map_take]
    simpa using this
  · rename_i own l hv
    obtain ⟨hc, hr2⟩ | ⟨_, hr2⟩ := cond_some hr
    case inr => exact absurd hr2 (by simp)
    simp only [beq_iff_eq] at hc
    subst hc
    obtain ⟨m1, m2, h3, h4, h5, h6⟩ := sliceK_some hr2
    refine ⟨_, h3, fun F g a w hs => ?_⟩
    have hp := ev_read hs hx
    rw [hv] at hp
    simp only [VR] at hp
    obtain ⟨ao, n, cp, hp, hrow⟩ := hp
    have hn : n = l.length := by have := hrow.1; simp at this; exact this.symm
    subst hn
    refine ⟨_, run g a w ao _ cp m1 m2 hp hrow.2.1 (VRo_read hs hlo) (VRo_read hs hhi) h6, ?_, rfl⟩
    simp only [VR]
    refine ⟨_, _, _, rfl, ?_⟩
    have := hrow.cut h4 h5
    simp only [Nat.mul_one] at this
    rw [cut_eq l m1 m2 h5, List.map_drop, List.map_take]
    simpa using this
  · rename_i own sz els hv
    obtain ⟨hc, hr2⟩ | ⟨_, hr2⟩ := cond_some hr
    case inr => exact absurd hr2 (by simp)
    simp only [beq_iff_eq] at hc
    subst hc
    obtain ⟨m1, m2, h3, h4, h5, h6⟩ := sliceK_some hr2
    refine ⟨_, h3, fun F g a w hs => ?_⟩
    have hp := ev_read hs hx
    rw [hv] at hp
    simp only [VR] at hp
    obtain ⟨ao, n, cp, vs, hp, hrow, hn, hsz, hvs⟩ := hp
    subst hn
    refine ⟨_, run g a w ao _ cp m1 m2 hp hrow.2.1 (VRo_read hs hlo) (VRo_read hs hhi) h6, ?_, rfl⟩
    simp only [VR]
    refine ⟨_, _, _, _, rfl, hrow.cut h4 h5, ?_, ?_, ?_⟩
    · rw [cut_eq els m1 m2 h5, List.length_drop, List.length_take]; omega
    · intro e he
      rw [cut_eq els m1 m2 h5] at he
      exact hsz e (List.mem_of_mem_take (List.mem_of_mem_drop he))
    · rw [cut_eq els m1 m2 h5]
      exact (hvs.take _ (fun e he => (hsz e he).1)).drop _ (fun e he => (hsz e (List.mem_of_mem_take he)).1)
  · rename_i id m tot sz hv
    obtain ⟨hc, hr2⟩ | ⟨_, hr2⟩ := cond_some hr
    case inr => exact absurd hr2 (by simp)
    simp only [beq_iff_eq] at hc
    subst hc
    obtain ⟨m1, m2, h3, h4, h5, h6⟩ := sliceK_some hr2
    cases lo with
    | none =>
      simp only at h3
      obtain ⟨h0', h3⟩ | ⟨_, h3⟩ := cond_some h3
      case inr => exact absurd h3 (by simp)
      have h0' := Nat.eq_of_beq_eq_true h0'
      subst h0'
      refine ⟨_, h3, fun F g a w hs => ?_⟩
      have hp := ev_read hs hx
      rw [hv] at hp
      simp only [VR] at hp
      obtain ⟨ao, b, cp, hp, hle, hmt, hb, hz0, hao⟩ := hp
      refine ⟨_, run g a w ao _ cp 0 m2 hp hle (VRo_read hs hlo) (VRo_read hs hhi) h6, ?_, rfl⟩
      simp only [VR]
      refine ⟨_, b, _, rfl, by omega, by omega, hb, fun h => by obtain ⟨rfl, rfl⟩ := hz0 h; simp, fun h => ?_⟩
      obtain ⟨rfl, h8⟩ := hao h
      refine ⟨?_, by simpa using h8⟩
      split
      · rfl
      · simp [add_eq]
    | some lo =>
      simp only at h3
      refine ⟨_, h3, fun F g a w hs => ?_⟩
      have hp := ev_read hs hx
      rw [hv] at hp
      simp only [VR] at hp
      obtain ⟨ao, b, cp, hp, hle, hmt, hb, hz0, hao⟩ := hp
      refine ⟨_, run g a w ao _ cp m1 m2 hp hle (VRo_read hs hlo) (VRo_read hs hhi) h6, ?_, rfl⟩
      simp only [VR]
      refine ⟨_, b, _, rfl, fun h => ?_, by omega, hb⟩
      obtain ⟨rfl, h8⟩ := hao (by omega)
      rw [if_neg (by omega)]
      simp [add_eq]
  · rename_i id off m sz hv
    obtain ⟨hc, hr2⟩ | ⟨_, hr2⟩ := cond_some hr
    case inr => exact absurd hr2 (by simp)
    simp only [beq_iff_eq] at hc
    subst hc
    obtain ⟨m1, m2, h3, h4, h5, h6⟩ := sliceK_some hr2
    refine ⟨_, h3, fun F g a w hs => ?_⟩
    have hp := ev_read hs hx
    rw [hv] at hp
    simp only [VR] at hp
    obtain ⟨ao, b, cp, hp, hao, hle, hb⟩ := hp
    refine ⟨_, run g a w ao _ cp m1 m2 hp hle (VRo_read hs hlo) (VRo_read hs hhi) h6, ?_, rfl⟩
    simp only [VR]
    refine ⟨_, b, _, rfl, fun h => ?_, by omega, hb⟩
    obtain rfl := hao (by omega)
    rw [if_neg (by omega)]
    simp [add_eq]
  · exact absurd hr (by simp)

theorem ok_sliceS {x : AX} {lo hi : Option AX} {p : Operand} {l' h' : Option Operand} {t : TypeId} (h : o.op = .slice t p l' h' none) (ht : c.P.underlying t = some .string)
    (hx : fitX x p = true) (hlo : fitO lo l' = true) (hhi : fitO hi h' = true) : OpOK c (.sliceS x lo hi) o := by
  refine ok_tells fun s R k r hr => ?_
  simp only [AOp.run] at hr
  split at hr
  · rename_i l hv
    obtain ⟨m1, m2, h3, h4, h5, h6⟩ := sliceK_some hr
    refine ⟨_, h3, fun F g a w hs => ?_⟩
    have hp := ev_read hs hx
    rw [hv] at hp
    have hp2 := hp
    obtain ⟨s1, hp, hl⟩ := hp.str_len
    simp only [VR] at hp2
    obtain ⟨s2, hp2, hl2⟩ := hp2
    have e12 : s2 = s1 := by rw [hp] at hp2; injection hp2 with e; exact e.symm
    subst e12
    refine ⟨.string (s2.extract m1 (m2.getD l.length)), ?_, ?_, rfl⟩
    · simp only [execOp, h]
      refine run_value ?_
      rw [run_sliceAt_string w t _ _ _ _ ht, hp]
      have hb := h6 c.P w g _ _ l.length false (Nat.le_refl _) (VRo_read hs hlo) (VRo_read hs hhi)
      simp [Instr.slice, run_underlying ht, hl, hb, Result.andThen]
    · simp only [VR]
      refine ⟨_, rfl, ?_⟩
      rw [cut_eq l m1 m2 h5, ByteArray.data_extract, Array.toList_extract, hl2, List.extract_eq_drop_take', ]
  · exact absurd hr (by simp)

theorem str_foldl (l : List Int) : ((l.foldl (fun r n => r.push (UInt8.ofNat n.toNat)) ByteArray.empty : ByteArray)).data.toList = strOf l := by
  rw [foldl_push_bytes]
  simp [strOf, ByteArray.empty, ByteArray.emptyWithCapacity]
  rfl

theorem ok_toStr {x : AX} {p : Operand} {src dst e : TypeId} (h : o.op = .convert src dst p) (hs0 : c.P.underlying src = some (.slice e)) (he : c.P.underlying e = some (.int .u8)) (hd : c.P.underlying dst = some .string) (hx : fitX x p = true) : OpOK c (.toStr x) o := by
  refine ok_tells fun s R k r hr => ?_
  simp only [AOp.run] at hr
  split at hr
  · rename_i own l hv
    refine ⟨_, hr, fun F g a w hs => ?_⟩
    have hp := ev_read hs hx
    rw [hv] at hp
    simp only [VR] at hp
    obtain ⟨ao, n, cp, hp, hrow⟩ := hp
    have hn : n = l.length := by have := hrow.1; simp at this; exact this.symm
    subst hn
    have run : ∀ v', (Conv.bytesToString (.slice ao l.length cp)).run c.P w = .ok v' w → (execOp a.eval o).run c.P w = .ok (.value v') w := by
      intro v' hv'
      simp only [execOp, h]
      refine run_value ?_
      rw [hp, run_convert_bytes_string w src dst e ao _ cp hs0 he hd]
      exact hv'
    cases ao with
    | none =>
      have := (hrow.2.2.2.2.2.1 rfl).1
      have hl : l = [] := List.length_eq_zero_iff.1 this
      subst hl
      refine ⟨.string .empty, run _ (by simp [Conv.bytesToString]), ?_, rfl⟩
      simp only [VR]
      exact ⟨_, rfl, rfl⟩
    | some ad =>
      refine ⟨_, run _ (run_bytesToString w ad l.length cp l ?_), ?_, rfl⟩
      · by_cases h0 : l = []
        · subst h0
          rfl
        · have hlen : 0 < (l.map (Value.int .u8)).length := by
            rw [List.length_map]; exact List.length_pos_iff.2 h0
          obtain ⟨ad', e1, hrd⟩ := hrow.2.2.2.1 hlen
          injection e1 with e1
          subst e1
          have := run_loadCells_list (P := c.P) w ad (l.map (Value.int .u8)) (fun j v hj => by
            have hlt : j < (l.map (Value.int .u8)).length := (List.getElem?_eq_some_iff.1 hj).1
            rw [add_eq _ hrd.1, hrd.2.2 j hlt, hj])
          rwa [List.length_map] at this
      · simp only [VR]
        exact ⟨_, rfl, str_foldl l⟩
  · exact absurd hr (by simp)

theorem ok_extract {i : Nat} {x : AX} {p : Operand} (h : o.op = .extract p i) (hx : fitX x p = true) : OpOK c (.extract i x) o := by
  intro s R k r hr
  simp only [AOp.run] at hr
  split at hr
  · rename_i vs hv
    split at hr
    · rename_i v hi
      refine ⟨_, _, hr, OpSem.run fun F g a w B _ hp hs => ?_⟩
      obtain ⟨h1, h2⟩ := AX.ok hs hx
      rw [hv] at h1 h2
      simp only [VR] at h1
      obtain ⟨us, h3, h4⟩ := h1
      obtain ⟨v', h5, h6⟩ := h4.get i v hi
      refine ⟨v', g, w, ?_, h6, hp, ?_, Step.refl _ _ _⟩
      · simp only [execOp, h]
        refine run_value ?_
        rw [h3]
        have h7 : us[i]? = some v' := by simpa using h5
        simp [Instr.extract, h7]
      · rw [h3] at h2
        simp only [owns, List.append_nil] at h2
        have hm := ownsL_mem hi h5
        exact h2.less hm.1 hm.2
    · exact absurd hr (by simp)
  · exact absurd hr (by simp)

theorem ok_mkFunc {fn : Fn} {fs xs : List AX} {qs ps : List Operand} (h : o.op = .makeFunc fn qs.toArray ps.toArray) (hf : fitXs fs qs = true) (hx : fitXs xs ps = true) : OpOK c (.mkFunc fn fs xs) o := by
  refine ok_tells fun s R k r hr => ?_
  simp only [AOp.run] at hr
  refine ⟨_, hr, fun F g a w hs => ?_⟩
  refine ⟨.func fn (qs.map a.eval).toArray (ps.map a.eval).toArray, ?_, ?_, rfl⟩
  · simp [execOp, h, Instr.makeFunc]
  · simp only [VR]
    exact ⟨_, _, rfl, by simpa using VRs.disown _ _ (AX.oks hs hf).1, by simpa using VRs.disown _ _ (AX.oks hs hx).1⟩
end Go.Sh

/- Operations that only compute: each does what its shadow does. -/
import Derived.Test.YtcbgfjghebopoaaDoorSD
import Derived.Lib.Strings
namespace Go.Sh
open Go.RowKit
set_option linter.unusedSimpArgs false
set_option linter.unusedVariables false
variable {c : Cx} {o : Oper}

theorem ok_mv {x : AX} {y : Operand} (h : o.op = .move y ∨ o.op = .assign y) (hx : fitX x y = true) : OpOK c (.mv x) o := by
  intro s R k r hr
  refine ⟨x.ev s, x.st s, hr, OpSem.run fun F g a w B _ hp hs => ?_⟩
  obtain ⟨h1, h2⟩ := AX.ok hs hx
  exact ⟨a.eval y, g, w, by rcases h with h | h <;> simp [execOp, h, Sem.run], h1, hp, by simpa using h2, Step.refl _ _ _⟩

theorem ok_chk {x : AX} {y : Operand} (h : o.op = .nilCheck y) (hx : fitX x y = true) : OpOK c (.chk x) o := by
  intro s R k r hr
  have key : ∀ v, x.ev s = v → (∀ F g (a : Act) w, SimX F c.nt g s a w [] → VR g w v (a.eval y) → owns v (a.eval y) = [] ∧ (execOp a.eval o).run c.P w = .ok (.value (a.eval y)) w) → k v (x.st s) = some r → ∃ v s', k v s' = some r ∧ OpSem c o s v s' := by
    intro v hv hrun hk
    refine ⟨v, x.st s, hk, OpSem.run fun F g a w B _ hp hs => ?_⟩
    obtain ⟨h1, h2⟩ := AX.ok hs hx
    rw [hv] at h1 h2
    obtain ⟨h3, h4⟩ := hrun F g a w hs h1
    exact ⟨a.eval y, g, w, h4, h1, hp, by simpa using h2, Step.refl _ _ _⟩
  simp only [AOp.run] at hr
  split at hr
  · rename_i p hv
    obtain ⟨id, off⟩ := p
    refine key _ hv (fun F g a w hs h1 => ?_) hr
    simp only [VR] at h1
    obtain ⟨b, h2, _⟩ := h1
    rw [h2]
    exact ⟨rfl, by simp [execOp, h, h2, Sem.run]⟩
  · rename_i cs hv
    refine key _ hv (fun F g a w hs h1 => ?_) hr
    simp only [VR] at h1
    obtain ⟨b, vs, h2, _⟩ := h1
    rw [h2]
    exact ⟨rfl, by simp [execOp, h, h2, Sem.run]⟩
  · rename_i f a1 b1 hv
    refine key _ hv (fun F g a w hs h1 => ?_) hr
    simp only [VR] at h1
    obtain ⟨b, vs, h2, _⟩ := h1
    rw [h2]
    exact ⟨rfl, by simp [execOp, h, h2, Sem.run]⟩
  · exact absurd hr (by simp)

theorem know_sim {F : Nat → Prop} {nt : Nat} {g : Gh} {s : St} {a : Act} {w : World} {os : List Rec} {x : AX} {y : Operand} {b : Bool} (h : SimX F nt g s a w os) (hx : fitX x y = true) (hb : a.eval y = .bool b) : SimX F nt g (x.know s b) a w os := by
  cases x with
  | tmp t =>
    cases y with
    | tmp u =>
      simp only [fitX, beq_iff_eq] at hx
      subst hx
      have hg : ∀ t', ((AX.tmp t).know s b).get t' = if t = t' then .bool b else s.get t' := fun t' => get_cons t (.bool b) s.slots s.heap t'
      have ho : ∀ v, owns (.bool b) v = [] := fun v => by cases v <;> rfl
      refine ⟨h.size, fun t' => ?_, ?_⟩
      · rw [hg]
        by_cases e : t = t'
        · subst e; rw [if_pos rfl]; simp only [VR]; exact hb
        · rw [if_neg e]; exact h.slots t'
      · have hp := slotOwns_give (s := s) (s' := (AX.tmp t).know s b) (d := t) (fun t' ht => by rw [hg, if_neg (fun e => ht e.symm)]) (fun v => by rw [hg, if_pos rfl, ho]) a.tmps.toList 0 (Nat.zero_le _)
        refine h.core.weaken (fun r hr => ?_) (fun b => ?_)
        · simp only [List.mem_append] at hr ⊢
          exact hr.imp id (fun hr => hp.2 r (.inr hr))
        · have := hp.1 b
          simp only [oc_append]
          omega
    | _ => simp [fitX] at hx
  | _ => exact h

theorem ok_pick {x p q : AX} {y u v : Operand} (h : o.op = .pick y u v) (hx : fitX x y = true) (hp : fitX p u = true) (hq : fitX q v = true) : OpOK c (.pick x p q) o := by
  intro s R k r hr
  simp only [AOp.run] at hr
  split at hr
  · rename_i t ht
    have key : ∀ (b : Bool) (m : AX) (z : Operand), t = b → fitX m z = true → (b = true → z = u) → (b = false → z = v) → OpSem c o s (disown (m.ev s)) (x.know s b) := by
      intro b m z hb hm hu hv
      refine OpSem.run fun F g a w B _ hpre hs => ?_
      have h1 := ev_read hs hx
      rw [ht] at h1
      simp only [VR] at h1
      have h2 := ev_read hs hm
      refine ⟨a.eval z, g, w, ?_, VR.disown _ _ h2, hpre, ?_, Step.refl _ _ _⟩
      · cases b
        · rw [hv rfl]; simp [execOp, h, h1, hb, asBool, Sem.run]
        · rw [hu rfl]; simp [execOp, h, h1, hb, asBool, Sem.run]
      · rw [owns_disown]; exact know_sim hs hx (by rw [h1, hb])
    cases t with
    | true => exact ⟨_, _, hr, key true p u rfl hp (fun _ => rfl) (fun e => by simp at e)⟩
    | false => exact ⟨_, _, hr, key false q v rfl hq (fun e => by simp at e) (fun _ => rfl)⟩
  · exact absurd hr (by simp)

theorem cond_some {α : Type} {b : Bool} {x y : Option α} {r : α} (h : cond b x y = some r) : (b = true ∧ x = some r) ∨ (b = false ∧ y = some r) := by
  cases b
  · exact .inr ⟨rfl, h⟩
  · exact .inl ⟨rfl, h⟩

/-- A value that an operation tells, whatever the world. -/
def Tells (c : Cx) (o : Oper) (s : St) (v : AV) : Prop :=
  ∀ (F : Nat → Prop) (g : Gh) (a : Act) (w : World), SimX F c.nt g s a w [] → ∃ v', (execOp a.eval o).run c.P w = .ok (.value v') w ∧ VR g w v v' ∧ owns v v' = []
theorem ok_tells {p : AOp} (h : ∀ (s : St) (R : Type) (k : AV → St → Option R) (r : R), p.run s R k = some r → ∃ v, k v s = some r ∧ Tells c o s v) : OpOK c p o := fun s R k r hr =>
  let ⟨v, h1, h2⟩ := h s R k r hr
  ⟨v, s, h1, OpSem.pure h2⟩

theorem i64_room {n : Nat} (h : n ≤ 9223372036854775807) : ¬ ((n : Nat) : Int) > IntKind.i64.max := by
  have e : IntKind.i64.max = 9223372036854775807 := rfl
  rw [e]
  omega
/-- What an operator's shadow tells, the operator tells. -/
theorem binK_ok (P : Program) (op : BinOp) (t : TypeId) (x y : Operand) {a b : AV} {R : Type} {k : AV → Option R} {r : R} (h : binK op a b k = some r) :
    ∃ v, k v = some r ∧ ∀ (g : Gh) (w : World) (va vb : Value), VR g w a va → VR g w b vb → ∃ v', (do eqGuard op t x y va vb; binOp op t va vb : Sem Value).run P w = .ok v' w ∧ VR g w v v' ∧ owns v v' = [] := by
  unfold binK at h
  split at h
  · rename_i ka x1 kb y1
    cases op
    case shl =>
      obtain ⟨h1, h2⟩ | ⟨h1, h2⟩ := cond_some h
      · exact absurd h2 (by simp)
      · simp only [decide_eq_false_iff_not] at h1
        refine ⟨_, h2, fun g w va vb ha hb => ?_⟩
        simp only [VR] at ha hb; subst ha; subst hb
        exact ⟨_, by simp [eqGuard, binOp, Op.shift, h1, Sem.run]; rfl, by simp [VR], rfl⟩
    case shr =>
      obtain ⟨h1, h2⟩ | ⟨h1, h2⟩ := cond_some h
      · exact absurd h2 (by simp)
      · simp only [decide_eq_false_iff_not] at h1
        refine ⟨_, h2, fun g w va vb ha hb => ?_⟩
        simp only [VR] at ha hb; subst ha; subst hb
        exact ⟨_, by simp [eqGuard, binOp, Op.shift, h1, Sem.run]; rfl, by simp [VR], rfl⟩
    case quo =>
      obtain ⟨h0, h2⟩ | ⟨h0, h2⟩ := cond_some h
      case inr => exact absurd h2 (by simp)
      simp only [decide_eq_true_eq] at h0
      subst h0
      obtain ⟨h1, h2⟩ | ⟨h1, h2⟩ := cond_some h2
      · exact absurd h2 (by simp)
      · simp only [beq_eq_false_iff_ne, ne_eq] at h1
        refine ⟨_, h2, fun g w va vb ha hb => ?_⟩
        simp only [VR] at ha hb; subst ha; subst hb
        exact ⟨_, by simp [eqGuard, binOp, Op.intDiv, h1, Sem.run]; rfl, by simp [VR], rfl⟩
    case rem =>
      obtain ⟨h0, h2⟩ | ⟨h0, h2⟩ := cond_some h
      case inr => exact absurd h2 (by simp)
      simp only [decide_eq_true_eq] at h0
      subst h0
      obtain ⟨h1, h2⟩ | ⟨h1, h2⟩ := cond_some h2
      · exact absurd h2 (by simp)
      · simp only [beq_eq_false_iff_ne, ne_eq] at h1
        refine ⟨_, h2, fun g w va vb ha hb => ?_⟩
        simp only [VR] at ha hb; subst ha; subst hb
        exact ⟨_, by simp [eqGuard, binOp, Op.intDiv, h1, Sem.run]; rfl, by simp [VR], rfl⟩
    all_goals
      obtain ⟨h0, h2⟩ | ⟨h0, h2⟩ := cond_some h
      case inr => exact absurd h2 (by simp)
      simp only [decide_eq_true_eq] at h0
      subst h0
      refine ⟨_, h2, fun g w va vb ha hb => ?_⟩
      simp only [VR] at ha hb; subst ha; subst hb
      exact ⟨_, by simp [eqGuard, binOp, Op.intArith, Op.intBits, Op.intCmp, Sem.run]; rfl, by simp [VR], rfl⟩
  · rename_i x1 y1
    have key : ∀ (s1 s2 : ByteArray), s1.data.toList = x1 → s2.data.toList = y1 → s1.toList = x1 ∧ s2.toList = y1 ∧ s1.size = x1.length ∧ s2.size = y1.length := by
      intro s1 s2 e1 e2
      subst e1; subst e2
      exact ⟨Lib.toList_data s1, Lib.toList_data s2, (Array.length_toList (xs := s1.data)).symm, (Array.length_toList (xs := s2.data)).symm⟩
    cases op
    case add =>
      obtain ⟨h1, h2⟩ | ⟨h1, h2⟩ := cond_some h
      · simp only [decide_eq_true_eq] at h1
        refine ⟨_, h2, fun g w va vb ha hb => ?_⟩
        simp only [VR] at ha hb
        obtain ⟨s1, rfl, e1⟩ := ha
        obtain ⟨s2, rfl, e2⟩ := hb
        obtain ⟨l1, l2, z1, z2⟩ := key s1 s2 e1 e2
        have h3 : ¬ ((s1.size + s2.size : Nat) : Int) > IntKind.i64.max := i64_room (by omega)
        refine ⟨.string (s1 ++ s2), ?_, by simp [VR, ByteArray.data_append, e1, e2], rfl⟩
        simp only [eqGuard, binOp, Op.stringOp]
        rw [if_neg h3]
        simp [Sem.run]
      · exact absurd h2 (by simp)
    all_goals first
      | (simp at h; done)
      | (refine ⟨_, h, fun g w va vb ha hb => ?_⟩
         simp only [VR] at ha hb
         obtain ⟨s1, rfl, e1⟩ := ha
         obtain ⟨s2, rfl, e2⟩ := hb
         obtain ⟨l1, l2, z1, z2⟩ := key s1 s2 e1 e2
         exact ⟨_, by simp [eqGuard, binOp, Op.stringOp, l1, l2, Sem.run]; rfl, by simp [VR], rfl⟩)
  · exact absurd h (by simp)

theorem run_value {P : Program} {w w' : World} {m : Sem Value} {v : Value} (h : m.run P w = .ok v w') : (do pure (.value (← m)) : Sem Next).run P w = .ok (.value v) w' := by
  rw [Sem.run_bind, h]
  rfl

theorem ok_bin {op : BinOp} {x y : AX} {p q : Operand} {t t' : TypeId} (h : o.op = .binOp op t p q t') (hx : fitX x p = true) (hy : fitX y q = true) : OpOK c (.bin op x y) o := by
  refine ok_tells fun s R k r hr => ?_
  simp only [AOp.run] at hr
  obtain ⟨v, h1, h2⟩ := binK_ok c.P op t p q hr
  refine ⟨v, h1, fun F g a w hs => ?_⟩
  obtain ⟨v', h3, h4⟩ := h2 g w _ _ (ev_read hs hx) (ev_read hs hy)
  refine ⟨v', ?_, h4⟩
  simp only [execOp, h]
  exact run_value h3

theorem run_equalIn_bool {P : Program} {t : TypeId} (w : World) (ht : P.underlying t = some .bool) (d : Nat) (a b : Bool) : (Op.equalIn (d + 1) t (.bool a) (.bool b)).run P w = .ok (a == b) w := by
  unfold Op.equalIn
  simp [underlying, program, ht, Sem.run, Sem.run_bind]
theorem run_equal_bool {P : Program} {t : TypeId} (w : World) (ht : P.underlying t = some .bool) (a b : Bool) : (Op.equal t (.bool a) (.bool b)).run P w = .ok (a == b) w := run_equalIn_bool w ht 9999 a b

theorem ok_eqB {neg : Bool} {x y : AX} {p q : Operand} {t t' : TypeId} (h : o.op = .binOp (if neg then .neq else .eql) t p q t') (ht : c.P.underlying t = some .bool) (hx : fitX x p = true) (hy : fitX y q = true) : OpOK c (.eqB neg x y) o := by
  refine ok_tells fun s R k r hr => ?_
  simp only [AOp.run] at hr
  split at hr
  · rename_i a1 b1 ha hb
    refine ⟨_, hr, fun F g a w hs => ?_⟩
    have h1 := ev_read hs hx
    have h2 := ev_read hs hy
    rw [ha] at h1; rw [hb] at h2
    simp only [VR] at h1 h2
    refine ⟨.bool (if neg then !(a1 == b1) else a1 == b1), ?_, by cases neg <;> simp [VR], by cases neg <;> rfl⟩
    simp only [execOp, h]
    refine run_value ?_
    rw [h1, h2]
    cases neg <;> simp [eqGuard, binOp, run_equal_bool w ht, Sem.run_bind]
  · exact absurd hr (by simp)

theorem ok_un {op : UnOp} {x : AX} {p : Operand} {t : TypeId} (h : o.op = .unOp op t p) (hx : fitX x p = true) : OpOK c (.un op x) o := by
  refine ok_tells fun s R k r hr => ?_
  simp only [AOp.run, unK] at hr
  split at hr
  · rename_i ka x1 hv
    refine ⟨_, hr, fun F g a w hs => ?_⟩
    have h1 := ev_read hs hx
    rw [hv] at h1
    simp only [VR] at h1
    refine ⟨.int ka (ka.wrap (0 - x1)), ?_, by simp [VR], rfl⟩
    simp only [execOp, h]
    refine run_value ?_
    rw [h1]
    simp [Op.unary, Op.intArith, Sem.run]
  · rename_i b hv
    refine ⟨_, hr, fun F g a w hs => ?_⟩
    have h1 := ev_read hs hx
    rw [hv] at h1
    simp only [VR] at h1
    refine ⟨.bool (!b), ?_, by simp [VR], rfl⟩
    simp only [execOp, h]
    refine run_value ?_
    rw [h1]
    simp [Op.unary, Sem.run]
  · exact absurd hr (by simp)

theorem ok_conv {kd : IntKind} {x : AX} {p : Operand} {src dst : TypeId} {d : TypeDesc} (h : o.op = .convert src dst p) (hs0 : c.P.underlying src = some d) (hd : c.P.underlying dst = some (.int kd)) (hx : fitX x p = true) : OpOK c (.conv kd x) o := by
  refine ok_tells fun s R k r hr => ?_
  simp only [AOp.run] at hr
  split at hr
  · rename_i ka x1 hv
    refine ⟨_, hr, fun F g a w hs => ?_⟩
    have h1 := ev_read hs hx
    rw [hv] at h1
    simp only [VR] at h1
    refine ⟨.int kd (kd.wrap x1), ?_, by simp [VR], rfl⟩
    simp only [execOp, h]
    refine run_value ?_
    rw [h1]
    simp [convert, underlying, program, hs0, hd, Conv.intToInt, Sem.run, Sem.run_bind]
  · exact absurd hr (by simp)

theorem ok_convS {x : AX} {p : Operand} {src dst : TypeId} {d : TypeDesc} (h : o.op = .convert src dst p) (hs0 : c.P.underlying src = some d) (hd : c.P.underlying dst = some .string) (hx : fitX x p = true) : OpOK c (.convS x) o := by
  refine ok_tells fun s R k r hr => ?_
  simp only [AOp.run] at hr
  split at hr
  · rename_i t hv
    refine ⟨_, hr, fun F g a w hs => ?_⟩
    have h1 := ev_read hs hx
    rw [hv] at h1
    have h2 := h1
    simp only [VR] at h1
    obtain ⟨s1, e1, e2⟩ := h1
    refine ⟨.string s1, ?_, e1 ▸ h2, rfl⟩
    simp only [execOp, h]
    refine run_value ?_
    rw [e1]
    simp [convert, underlying, program, hs0, hd, Sem.run, Sem.run_bind]
  · exact absurd hr (by simp)

theorem ok_rune {x : AX} {p : Operand} {src dst : TypeId} {d : TypeDesc} (h : o.op = .convert src dst p) (hs0 : c.P.underlying src = some d) (hd : c.P.underlying dst = some .string) (hx : fitX x p = true) : OpOK c (.rune x) o := by
  refine ok_tells fun s R k r hr => ?_
  simp only [AOp.run] at hr
  split at hr
  · rename_i ka x1 hv
    refine ⟨_, hr, fun F g a w hs => ?_⟩
    have h1 := ev_read hs hx
    rw [hv] at h1
    simp only [VR] at h1
    refine ⟨.string (Utf8.encode x1), ?_, by simp only [VR]; exact ⟨_, rfl, rfl⟩, rfl⟩
    simp only [execOp, h]
    refine run_value ?_
    rw [h1]
    simp [convert, underlying, program, hs0, hd, Conv.intToString, Sem.run, Sem.run_bind]
  · exact absurd hr (by simp)
end Go.Sh

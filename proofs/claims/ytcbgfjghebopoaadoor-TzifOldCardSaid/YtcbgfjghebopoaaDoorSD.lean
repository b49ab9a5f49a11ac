/- Operands; what it is for an operation to have a shadow. -/
import Derived.Test.YtcbgfjghebopoaaDoorSC
import Derived.CallsIn
import Derived.ControlIn
import Derived.AtR
namespace Go.Sh
open Go.RowKit

mutual
/-- Is that constant's shadow this one. -/
def fitC : AV → Value → Bool
  | .int k n, .int k' n' => decide (k = k') && decide (n = n')
  | .bool a, .bool b => a == b
  | .str l, .string s => decide (l = s.data.toList)
  | .ints _ _ [], .slice none 0 0 => true
  | .strs _ [], .slice none 0 0 => true
  | .sl _ _ [], .slice none 0 0 => true
  | .ptr none, .pointer none => true
  | .map none, .map none => true
  | .nilFunc, .nilFunc => true
  | .nilIface, .nilIface => true
  | .agg cs, .agg vs => fitCs cs vs.toList
  | _, _ => false
def fitCs : List AV → List Value → Bool
  | [], [] => true
  | c :: cs, v :: vs => fitC c v && fitCs cs vs
  | _, _ => false
end

theorem row_nil (g : Gh) (w : World) (own : Bool) (sz : Nat) : Row g w own none 0 0 sz [] :=
  ⟨by simp, Nat.le_refl _, by omega, fun h => by simp at h, fun _ ad h => by simp at h, fun _ => ⟨rfl, rfl⟩, fun u hu => by simp at hu⟩

mutual
theorem fitC_ok (g : Gh) (w : World) : ∀ (a : AV) (v : Value), fitC a v = true → VR g w a v ∧ owns a v = []
  | .int k n, .int k' n', h => by
    simp only [fitC, Bool.and_eq_true, decide_eq_true_eq] at h
    obtain ⟨rfl, rfl⟩ := h
    exact ⟨by simp [VR], rfl⟩
  | .bool a, .bool b, h => by
    simp only [fitC, beq_iff_eq] at h
    subst h
    exact ⟨by simp [VR], rfl⟩
  | .str l, .string s, h => by
    simp only [fitC, decide_eq_true_eq] at h
    exact ⟨by simp only [VR]; exact ⟨s, rfl, h.symm⟩, rfl⟩
  | .ints o _ [], .slice none 0 0, _ => ⟨by simp only [VR]; exact ⟨none, 0, 0, rfl, row_nil _ _ _ _⟩, by cases o <;> rfl⟩
  | .strs o [], .slice none 0 0, _ => ⟨by simp only [VR]; exact ⟨none, 0, 0, rfl, row_nil _ _ _ _⟩, by cases o <;> rfl⟩
  | .sl o sz [], .slice none 0 0, _ => ⟨by simp only [VR]; exact ⟨none, 0, 0, [], rfl, row_nil _ _ _ _, rfl, by simp, by simp [VRss]⟩, by cases o <;> rfl⟩
  | .ptr none, .pointer none, _ => ⟨by simp [VR], rfl⟩
  | .map none, .map none, _ => ⟨by simp [VR], rfl⟩
  | .nilFunc, .nilFunc, _ => ⟨by simp [VR], rfl⟩
  | .nilIface, .nilIface, _ => ⟨by simp [VR], rfl⟩
  | .agg cs, .agg vs, h => by
    simp only [fitC] at h
    obtain ⟨h1, h2⟩ := fitCs_ok g w cs vs.toList h
    exact ⟨by simp only [VR]; exact ⟨vs, rfl, h1⟩, by simp [owns, h2]⟩
theorem fitCs_ok (g : Gh) (w : World) : ∀ (cs : List AV) (vs : List Value), fitCs cs vs = true → VRs g w cs vs ∧ ownsL cs vs = []
  | [], [], _ => ⟨by simp [VRs], rfl⟩
  | c :: cs, v :: vs, h => by
    simp only [fitCs, Bool.and_eq_true] at h
    obtain ⟨h1, h2⟩ := fitC_ok g w c v h.1
    obtain ⟨h3, h4⟩ := fitCs_ok g w cs vs h.2
    exact ⟨by simp only [VRs]; exact ⟨v, vs, rfl, h1, h3⟩, by simp [ownsL, h2, h4]⟩
end

def fitX : AX → Operand → Bool
  | .tmp t, .tmp u => t == u
  | .take t, .tmp u => t == u
  | .cst v, .const c => fitC v c
  | .cst (.func (.func f) [] []), .func f' => f == f'
  | _, _ => false
def fitXs : List AX → List Operand → Bool
  | [], [] => true
  | x :: xs, o :: os => fitX x o && fitXs xs os
  | _, _ => false

theorem AX.ok {F : Nat → Prop} {nt : Nat} {g : Gh} {s : St} {a : Act} {w : World} {os : List Rec} {x : AX} {o : Operand} (h : SimX F nt g s a w os) (hx : fitX x o = true) :
    VR g w (x.ev s) (a.eval o) ∧ SimX F nt g (x.st s) a w (owns (x.ev s) (a.eval o) ++ os) := by
  cases x with
  | tmp t =>
    cases o with
    | tmp u =>
      simp only [fitX, beq_iff_eq] at hx
      subst hx
      exact ⟨VR.disown _ _ (h.slots t), by simp only [AX.ev, AX.st, owns_disown, List.nil_append]; exact h⟩
    | _ => simp [fitX] at hx
  | take t =>
    cases o with
    | tmp u =>
      simp only [fitX, beq_iff_eq] at hx
      subst hx
      have hg : ∀ t', ((AX.take t).st s).get t' = if t = t' then disown (s.get t) else s.get t' := fun t' => get_cons t (disown (s.get t)) s.slots s.heap t'
      refine ⟨h.slots t, h.size, fun t' => ?_, ?_⟩
      · rw [hg]
        by_cases e : t = t'
        · subst e; rw [if_pos rfl]; exact VR.disown _ _ (h.slots t)
        · rw [if_neg e]; exact h.slots t'
      · have hp := slotOwns_give (s := s) (s' := (AX.take t).st s) (d := t) (fun t' ht => by rw [hg, if_neg (fun e => ht e.symm)]) (fun v => by rw [hg, if_pos rfl, owns_disown]) a.tmps.toList 0 (Nat.zero_le _)
        have he : a.tmps.toList.getD (t - 0) undef = a.eval (.tmp t) := by simp [Act.eval, List.getD_eq_getElem?_getD, Array.getD_eq_getD_getElem?]
        rw [he] at hp
        refine h.core.weaken (fun r hr => ?_) (fun b => ?_)
        · simp only [List.mem_append] at hr ⊢
          rcases hr with (hr | hr) | hr
          · exact .inr (hp.2 r (.inl hr))
          · exact .inl hr
          · exact .inr (hp.2 r (.inr hr))
        · have := hp.1 b
          simp only [oc_append]
          simp only [AX.ev] at this ⊢
          omega
    | _ => simp [fitX] at hx
  | cst v =>
    cases o with
    | const c =>
      simp only [fitX] at hx
      obtain ⟨h1, h2⟩ := fitC_ok g w v c hx
      exact ⟨h1, by simp only [AX.ev, AX.st, Act.eval, h2, List.nil_append]; exact h⟩
    | func f =>
      cases v with
      | func fn f1 c1 =>
        cases fn <;> cases f1 <;> cases c1 <;> simp [fitX] at hx
        subst hx
        exact ⟨by simp only [AX.ev, VR]; exact ⟨#[], #[], rfl, by simp [VRs], by simp [VRs]⟩, by simpa [AX.ev, AX.st, owns] using h⟩
      | _ => simp [fitX] at hx
    | _ => simp [fitX] at hx

theorem AX.oks {F : Nat → Prop} {nt : Nat} {g : Gh} {a : Act} {w : World} : ∀ {xs : List AX} {ys : List Operand} {s : St} {os : List Rec}, SimX F nt g s a w os → fitXs xs ys = true →
    VRs g w (evs s xs) (ys.map a.eval) ∧ SimX F nt g (sts s xs) a w (ownsL (evs s xs) (ys.map a.eval) ++ os)
  | [], [], _, _, h, _ => ⟨by simp [evs, VRs], by simpa [evs, sts, ownsL] using h⟩
  | [], _ :: _, _, _, _, hx => by simp [fitXs] at hx
  | _ :: _, [], _, _, _, hx => by simp [fitXs] at hx
  | x :: xs, y :: ys, s, os, h, hx => by
    simp only [fitXs, Bool.and_eq_true] at hx
    obtain ⟨h1, h2⟩ := AX.ok h hx.1
    obtain ⟨h3, h4⟩ := AX.oks h2 hx.2
    refine ⟨by simp only [evs, List.map_cons, VRs]; exact ⟨_, _, rfl, h1, h3⟩, ?_⟩
    simp only [evs, sts, List.map_cons, ownsL]
    exact h4.less (fun r hr => by simp only [List.mem_append] at hr ⊢; rcases hr with (hr | hr) | hr <;> simp [hr]) (fun b => by simp only [oc_append]; omega)

/-- A fence that lets all through, in a round of a range over a function or not. -/
def fw (ro : Option Nat) : Fence := { Fence.wide with round := ro }
theorem not_defer {P : Program} {o : Oper} {ρ : Operand → Value} {w w' : World} {x : Next} (h : (execOp ρ o).run P w = .ok x w') (hx : ∀ d, x ≠ .defer d) : ∀ c, o.op ≠ .defer c := by
  intro c hc
  simp only [execOp, hc, Sem.run_bind] at h
  cases hr : (resolve ρ c o.type).run P w with
  | ok d w1 => rw [hr] at h; simp [Result.andThen, Sem.run_pure] at h; exact hx _ h.1.symm
  | halt e w1 => rw [hr] at h; simp [Result.andThen] at h
theorem opw_value {P : Program} {o : Oper} {a : Act} {w w' : World} {v : Value} {ro : Option Nat} {n : Nat} {next : Act → World → Prop} {Q : Exit → Act → World → Prop} (h : (execOp a.eval o).run P w = .ok (.value v) w') (hn : next (a.put o.dst v) w') : o.wpIn (fw ro) n P a w next Q := by
  refine ⟨fun _ _ => trivial, ?_⟩
  rw [Oper.semAt_eq _ _ _ (not_defer h (by simp)), h]
  exact hn
theorem opw_skip {P : Program} {o : Oper} {a : Act} {w w' : World} {ro : Option Nat} {n : Nat} {next : Act → World → Prop} {Q : Exit → Act → World → Prop} (h : (execOp a.eval o).run P w = .ok .skip w') (hn : next (a.put o.dst undef) w') : o.wpIn (fw ro) n P a w next Q := by
  refine ⟨fun _ _ => trivial, ?_⟩
  rw [Oper.semAt_eq _ _ _ (not_defer h (by simp)), h]
  exact hn
theorem opw_enter {P : Program} {o : Oper} {a : Act} {w w' : World} {f : FuncId} {args : Array Value} {ro : Option Nat} {n : Nat} {next : Act → World → Prop} {Q : Exit → Act → World → Prop} (h : (execOp a.eval o).run P w = .ok (.enter f args) w')
    (hn : Calls P f args w' fun e w'' => ∃ v, e = .returned v ∧ next (a.put o.dst v) w'') : o.wpIn (fw ro) n P a w next Q := by
  refine ⟨fun _ _ => trivial, ?_⟩
  rw [Oper.semAt_eq _ _ _ (not_defer h (by simp)), h, Oper.uponIn_enter]
  refine ⟨fun hd => (by cases hd), ?_⟩
  have hc : CallsIn Fence.wide (n - 1) P f args w' fun e w'' => ∃ v, e = .returned v ∧ next (a.put o.dst v) w'' := callsIn_wide.2 hn
  exact CallsIn.mono (F := fw ro) hc (by rintro e w'' ⟨v, rfl, h⟩; exact h)

/-- What an operation does to a shadow is what it does. -/
def OpSem (c : Cx) (o : Oper) (s : St) (v : AV) (s' : St) : Prop :=
  ∀ (F : Nat → Prop) (g : Gh) (a : Act) (w : World) (B : List Nat), B.length = B.length → B <+: g.obj → SimX F c.nt g s a w [] →
    ∀ (ro : Option Nat) (dn : Nat) (next : Act → World → Prop) (Q : Exit → Act → World → Prop),
      (∀ v' g' w', VR g' w' v v' → B <+: g'.obj → SimX F c.nt g' s' a w' (owns v v') → Step F g w g' w' → next (a.put o.dst v') w') → o.wpIn (fw ro) dn c.P a w next Q

def OpOK (c : Cx) (p : AOp) (o : Oper) : Prop :=
  ∀ (s : St) (R : Type) (k : AV → St → Option R) (r : R), p.run s R k = some r → ∃ v s', k v s' = some r ∧ OpSem c o s v s'

theorem OpSem.run {c : Cx} {o : Oper} {s : St} {v : AV} {s' : St}
    (h : ∀ (F : Nat → Prop) (g : Gh) (a : Act) (w : World) (B : List Nat), B.length = B.length → B <+: g.obj → SimX F c.nt g s a w [] →
      ∃ v' g' w', (execOp a.eval o).run c.P w = .ok (.value v') w' ∧ VR g' w' v v' ∧ B <+: g'.obj ∧ SimX F c.nt g' s' a w' (owns v v') ∧ Step F g w g' w') : OpSem c o s v s' := by
  intro F g a w B hB hp hs ro dn next Q hn
  obtain ⟨v', g', w', h1, h2, h3, h4, h5⟩ := h F g a w B hB hp hs
  exact opw_value h1 (hn v' g' w' h2 h3 h4 h5)

/-- An operation that only tells a value. -/
theorem OpSem.pure {c : Cx} {o : Oper} {s : St} {v : AV}
    (h : ∀ (F : Nat → Prop) (g : Gh) (a : Act) (w : World), SimX F c.nt g s a w [] → ∃ v', (execOp a.eval o).run c.P w = .ok (.value v') w ∧ VR g w v v' ∧ owns v v' = []) : OpSem c o s v s :=
  OpSem.run fun F g a w B _ hp hs => by
    obtain ⟨v', h1, h2, h3⟩ := h F g a w hs
    exact ⟨v', g, w, h1, h2, hp, by rw [h3]; exact hs, Step.refl _ _ _⟩

/-- What a value's shadow tells, without the right to append. -/
theorem ev_read {F : Nat → Prop} {nt : Nat} {g : Gh} {s : St} {a : Act} {w : World} {os : List Rec} {x : AX} {o : Operand} (h : SimX F nt g s a w os) (hx : fitX x o = true) : VR g w (x.ev s) (a.eval o) := (AX.ok h hx).1

end Go.Sh

/- Code. -/
import Derived.Test.YtpooncihlnllnaaGreatDoorSN
import Derived.Tactics
import Derived.Deep.LoopGhost
namespace Go.Sh
open Go.RowKit
set_option linter.unusedSimpArgs false
set_option linter.unusedVariables false

def conc : AExit → Exit
  | .normal => .normal
  | .exit id => .exit id
  | .ret => .ret

/-- From this shadow code comes to that one. -/
def CSem (c : Cx) (s : St) (code : Code) (e : AExit) (s' : St) : Prop :=
  ∀ (F : Nat → Prop) (g : Gh) (a : Act) (w : World) (B : List Nat), B.length = c.nb → B <+: g.obj → SimX F c.nt g s a w [] →
    code.wp c.P (fun e' a' w' => e' = conc e ∧ ∃ g', B <+: g'.obj ∧ SimX F c.nt g' s' a' w' [] ∧ Step F g w g' w') a w

/-- Code does what its shadow does. -/
def Snd (c : Cx) (ex : Ex) (code : Code) : Prop :=
  ∀ (s : St) (R : Type) (k : AExit → St → Option R) (r : R), ex s R k = some r → ∃ e s', k e s' = some r ∧ CSem c s code e s'

variable {c : Cx}
theorem snd_skip : Snd c eskip .skip := fun s R k r h => ⟨.normal, s, h, fun F g a w B hB hp hs => wp_skip ⟨rfl, g, hp, hs, Step.refl _ _ _⟩⟩
theorem snd_ret : Snd c eret .ret := fun s R k r h => ⟨.ret, s, h, fun F g a w B hB hp hs => wp_ret ⟨rfl, g, hp, hs, Step.refl _ _ _⟩⟩
theorem snd_exit {id : Nat} : Snd c (eexit id) (.exit id) := fun s R k r h => ⟨.exit id, s, h, fun F g a w B hB hp hs => wp_exit ⟨rfl, g, hp, hs, Step.refl _ _ _⟩⟩

theorem snd_seq {x y : Ex} {cx cy : Code} (hx : Snd c x cx) (hy : Snd c y cy) : Snd c (eseq x y) (.seq cx cy) := by
  intro s R k r h
  obtain ⟨e, s1, h1, h2⟩ := hx s R _ r h
  cases e with
  | normal =>
    obtain ⟨e2, s2, h3, h4⟩ := hy s1 R k r h1
    refine ⟨e2, s2, h3, fun F g a w B hB hp hs => wp_seq (wp_mono (h2 F g a w B hB hp hs) ?_)⟩
    rintro e' a' w' ⟨rfl, g', hp', hs', hst⟩
    refine wp_mono (h4 F g' a' w' B hB hp' hs') ?_
    rintro e'' a'' w'' ⟨rfl, g'', hp'', hs'', hst'⟩
    exact ⟨rfl, g'', hp'', hs'', hst.trans hst'⟩
  | exit id =>
    refine ⟨_, s1, h1, fun F g a w B hB hp hs => wp_seq (wp_mono (h2 F g a w B hB hp hs) ?_)⟩
    rintro e' a' w' ⟨rfl, h⟩
    exact ⟨rfl, h⟩
  | ret =>
    refine ⟨_, s1, h1, fun F g a w B hB hp hs => wp_seq (wp_mono (h2 F g a w B hB hp hs) ?_)⟩
    rintro e' a' w' ⟨rfl, h⟩
    exact ⟨rfl, h⟩

theorem snd_cond {x : AX} {p : Operand} {y z : Ex} {cy cz : Code} (hx : fitX x p = true) (hy : Snd c y cy) (hz : Snd c z cz) : Snd c (econd x y z) (.cond p cy cz) := by
  intro s R k r h
  simp only [econd] at h
  split at h
  · rename_i b hb
    have key : ∀ (b' : Bool) (ex : Ex) (cd : Code), b = b' → Snd c ex cd → ex (x.know s b') R k = some r → (∀ Q a w, a.eval p = .bool b' → cd.wp c.P Q a w → (Code.cond p cy cz).wp c.P Q a w) → ∃ e s', k e s' = some r ∧ CSem c s (.cond p cy cz) e s' := by
      intro b' ex cd hbb hex hr hwp
      obtain ⟨e, s1, h1, h2⟩ := hex _ R k r hr
      refine ⟨e, s1, h1, fun F g a w B hB hp hs => ?_⟩
      have hev := ev_read hs hx
      rw [hb] at hev
      simp only [VR] at hev
      exact hwp _ a w (by rw [hev, hbb]) (h2 F g a w B hB hp (know_sim hs hx (by rw [hev, hbb])))
    cases b with
    | true => exact key true y cy rfl hy h (fun Q a w he hw => wp_cond he (by simpa using hw))
    | false => exact key false z cz rfl hz h (fun Q a w he hw => wp_cond he (by simpa using hw))
  · exact absurd h (by simp)

theorem snd_alt {i : Option Nat} {n : Nat} {x y : Ex} {cd : Code} (hx : Snd c x cd) (hy : Snd c y cd) : Snd c (ealt i n x y) cd := by
  intro s R k r h
  unfold ealt at h
  cases i with
  | none =>
    obtain ⟨_, h⟩ | ⟨_, h⟩ := cond_some h
    · exact hx s R k r h
    · exact hy s R k r h
  | some t =>
    obtain ⟨_, h⟩ | ⟨_, h⟩ := cond_some h
    · exact hx s R k r h
    · exact hy s R k r h
theorem snd_block {id : Nat} {x : Ex} {cx : Code} (hx : Snd c x cx) : Snd c (eblock id x) (.block id cx) := by
  intro s R k r h
  obtain ⟨e, s1, h1, h2⟩ := hx s R _ r h
  cases e with
  | normal =>
    refine ⟨_, s1, h1, fun F g a w B hB hp hs => wp_block (wp_mono (h2 F g a w B hB hp hs) ?_)⟩
    rintro e' a' w' ⟨rfl, h⟩
    exact ⟨rfl, h⟩
  | ret =>
    refine ⟨_, s1, h1, fun F g a w B hB hp hs => wp_block (wp_mono (h2 F g a w B hB hp hs) ?_)⟩
    rintro e' a' w' ⟨rfl, h⟩
    exact ⟨rfl, h⟩
  | exit i =>
    by_cases hi : i = id
    · subst hi
      simp only [beq_self_eq_true] at h1
      refine ⟨.normal, s1, h1, fun F g a w B hB hp hs => wp_block (wp_mono (h2 F g a w B hB hp hs) ?_)⟩
      rintro e' a' w' ⟨rfl, h⟩
      show (if i = i then _ else _)
      rw [if_pos rfl]
      exact ⟨rfl, h⟩
    · have hb : (i == id) = false := beq_eq_false_iff_ne.2 hi
      simp only [hb] at h1
      refine ⟨.exit i, s1, h1, fun F g a w B hB hp hs => wp_block (wp_mono (h2 F g a w B hB hp hs) ?_)⟩
      rintro e' a' w' ⟨rfl, h⟩
      show (if i = id then _ else _)
      rw [if_neg hi]
      exact ⟨rfl, h⟩

/-- So many rounds at most. -/
def Rounds (c : Cx) (code : Code) : Nat → St → AExit → St → Prop
  | 0, _, _, _ => False
  | n + 1, s, e, s' => (∃ s1, CSem c s code .normal s1 ∧ Rounds c code n s1 e s') ∨ (e ≠ .normal ∧ CSem c s code e s')
theorem rounds_of {x : Ex} {cx : Code} (hx : Snd c x cx) {R : Type} {k : AExit → St → Option R} {r : R} : ∀ (n : Nat) (s : St), eloop x n s R k = some r → ∃ e s', k e s' = some r ∧ Rounds c cx n s e s'
  | 0, s, h => absurd h (by simp [eloop])
  | n + 1, s, h => by
    simp only [eloop] at h
    obtain ⟨e, s1, h1, h2⟩ := hx s R _ r h
    cases e with
    | normal =>
      obtain ⟨e', s', h3, h4⟩ := rounds_of hx n s1 h1
      exact ⟨e', s', h3, .inl ⟨s1, h2, h4⟩⟩
    | exit id => exact ⟨_, s1, h1, .inr ⟨by simp, h2⟩⟩
    | ret => exact ⟨_, s1, h1, .inr ⟨by simp, h2⟩⟩
theorem rounds_sem {cx : Code} {n : Nat} {s : St} {e : AExit} {s' : St} (h : Rounds c cx n s e s') : CSem c s (.loop cx) e s' := by
  intro F g a w B hB hp hs
  refine wp_loop_ghost (fun m a1 w1 => ∃ s1 g1, Rounds c cx m s1 e s' ∧ B <+: g1.obj ∧ SimX F c.nt g1 s1 a1 w1 [] ∧ Step F g w g1 w1) n ⟨s, g, h, hp, hs, Step.refl _ _ _⟩ ?_
  rintro m a1 w1 ⟨s1, g1, hr, hp1, hs1, hst1⟩
  cases m with
  | zero => exact hr.elim
  | succ m =>
    rcases hr with ⟨s2, h1, h2⟩ | ⟨h1, h2⟩
    · refine wp_mono (h1 F g1 a1 w1 B hB hp1 hs1) ?_
      rintro e' a2 w2 ⟨rfl, g2, hp2, hs2, hst2⟩
      exact ⟨m, Nat.lt_succ_self m, s2, g2, h2, hp2, hs2, hst1.trans hst2⟩
    · refine wp_mono (h2 F g1 a1 w1 B hB hp1 hs1) ?_
      rintro e' a2 w2 ⟨rfl, g2, hp2, hs2, hst2⟩
      cases e with
      | normal => exact absurd rfl h1
      | exit id => exact ⟨rfl, g2, hp2, hs2, hst1.trans hst2⟩
      | ret => exact ⟨rfl, g2, hp2, hs2, hst1.trans hst2⟩
theorem snd_loop {x : Ex} {cx : Code} (n : Nat) (hx : Snd c x cx) : Snd c (eloop x n) (.loop cx) := by
  intro s R k r h
  obtain ⟨e, s', h1, h2⟩ := rounds_of hx n s h
  exact ⟨e, s', h1, rounds_sem h2⟩

/-! ### regions in their order -/
def fitG (ops : Array Oper) : Option (Nat × Bool) → Option (Nat × Bool) → Bool
  | none, none => true
  | some (t, w), some (j, w') => decide ((ops[j]?).bind (·.dst) = some t) && (w == w')
  | _, _ => false
def fitD (nt : Nat) : Option Nat → Option Nat → Bool
  | none, none => true
  | some d, some d' => d == d' && Nat.blt d nt
  | _, _ => false
/-- Do destinations and guards agree. -/
def fitR (nt : Nat) (ops : Array Oper) : List AOper → List Oper → Bool
  | [], [] => true
  | p :: ps, o :: os => fitD nt p.dst o.dst && fitG ops p.guard o.guard && fitR nt ops ps os
  | _, _ => false
def OpsOK (c : Cx) : List AOper → List Oper → Prop
  | p :: ps, o :: os => OpOK c p.op o ∧ OpsOK c ps os
  | _, _ => True

def LSem (c : Cx) (ops : Array Oper) (s : St) (l : List Oper) (s' : St) : Prop :=
  ∀ (F : Nat → Prop) (g : Gh) (a : Act) (w : World) (B : List Nat), B.length = c.nb → B <+: g.obj → SimX F c.nt g s a w [] → ∀ (Q : Exit → Act → World → Prop),
    (∀ g' a' w', B <+: g'.obj → SimX F c.nt g' s' a' w' [] → Step F g w g' w' → Q .normal a' w') → wpList c.P ops Q l a w

theorem fitD_ok {nt : Nat} {d d' : Option Nat} (h : fitD nt d d' = true) : d = d' ∧ ∀ t, d = some t → t < nt := by
  cases d with
  | none => cases d' <;> simp [fitD] at h ⊢
  | some d =>
    cases d' with
    | none => simp [fitD] at h
    | some d' =>
      simp only [fitD, Bool.and_eq_true, beq_iff_eq] at h
      obtain ⟨rfl, h2⟩ := h
      refine ⟨rfl, fun t ht => ?_⟩
      injection ht with ht
      subst ht
      exact Nat.le_of_ble_eq_true h2
theorem yielded_bool {ops : Array Oper} {tmps : Array Value} {j t : Nat} {b : Bool} (h : (ops[j]?).bind (·.dst) = some t) (hb : tmps.getD t undef = .bool b) : yielded ops tmps j = some b := by
  unfold yielded
  rw [h]
  simp only [Option.bind_some]
  rw [Array.getD_eq_getD_getElem?] at hb
  cases ht : tmps[t]? with
  | none => rw [ht] at hb; simp [undef] at hb
  | some v => rw [ht] at hb; simp at hb; subst hb; rfl
theorem yielded_none {ops : Array Oper} {tmps : Array Value} {j t : Nat} (h : (ops[j]?).bind (·.dst) = some t) (hb : tmps.getD t undef = .tuple #[]) : yielded ops tmps j = none := by
  unfold yielded
  rw [h]
  simp only [Option.bind_some]
  rw [Array.getD_eq_getD_getElem?] at hb
  cases ht : tmps[t]? with
  | none => rfl
  | some v => rw [ht] at hb; simp at hb; subst hb; rfl

theorem put_skip {F : Nat → Prop} {nt : Nat} {g : Gh} {s : St} {a : Act} {w : World} (h : SimX F nt g s a w []) (d : Option Nat) (hlt : ∀ t, d = some t → t < nt) : SimX F nt g (s.put d (.tuple [])) (a.put d undef) w [] :=
  SimX.put (v := .tuple []) (v' := undef) (by rw [owns_undef]; exact h) (by simp only [VR]; exact ⟨#[], rfl, by simp [VRs]⟩) d hlt

theorem runOps_ok {ops : Array Oper} {R : Type} {k : St → Option R} {r : R} : ∀ (ps : List AOper) (l : List Oper) (s : St), fitR c.nt ops ps l = true → OpsOK c ps l → runOps ps s R k = some r → ∃ s', k s' = some r ∧ LSem c ops s l s'
  | [], [], s, _, _, h => ⟨s, h, fun F g a w B hB hp hs Q hq => hq g a w hp hs (Step.refl _ _ _)⟩
  | [], _ :: _, s, h, _, _ => by simp [fitR] at h
  | _ :: _, [], s, h, _, _ => by simp [fitR] at h
  | p :: ps, o :: l, s, hf, hok, h => by
    simp only [fitR, Bool.and_eq_true] at hf
    obtain ⟨⟨hd, hg⟩, hrest⟩ := hf
    obtain ⟨hdst, hdlt⟩ := fitD_ok hd
    -- carried out
    have go : ∀ (s0 : St), (p.op.run s0 R fun v s' => runOps ps (s'.put p.dst v) R k) = some r → ∃ s', k s' = some r ∧
        ∀ (F : Nat → Prop) (g : Gh) (a : Act) (w : World) (B : List Nat), B.length = c.nb → B <+: g.obj → SimX F c.nt g s0 a w [] → ∀ (Q : Exit → Act → World → Prop),
          (∀ g' a' w', B <+: g'.obj → SimX F c.nt g' s' a' w' [] → Step F g w g' w' → Q .normal a' w') → o.wp c.P a w (wpList c.P ops Q l) Q := by
      intro s0 h0
      obtain ⟨v, s1, h1, h2⟩ := hok.1 s0 R _ r h0
      obtain ⟨s', h3, h4⟩ := runOps_ok ps l _ hrest hok.2 h1
      refine ⟨s', h3, fun F g a w B hB hp hs Q hq => h2 F g a w B rfl hp hs _ Q ?_⟩
      intro v' g' w' hv hp' hs' hst
      have hput := SimX.put hs' hv p.dst hdlt
      rw [← hdst]
      exact h4 F g' _ w' B hB hp' hput Q (fun g'' a'' w'' hp'' hs'' hst' => hq g'' a'' w'' hp'' hs'' (hst.trans hst'))
    -- passed over
    have skip : ∀ (s0 : St), runOps ps (s0.put p.dst (.tuple [])) R k = some r → ∃ s', k s' = some r ∧
        ∀ (F : Nat → Prop) (g : Gh) (a : Act) (w : World) (B : List Nat), B.length = c.nb → B <+: g.obj → SimX F c.nt g s0 a w [] → ∀ (Q : Exit → Act → World → Prop),
          (∀ g' a' w', B <+: g'.obj → SimX F c.nt g' s' a' w' [] → Step F g w g' w' → Q .normal a' w') → wpList c.P ops Q l (a.put o.dst undef) w := by
      intro s0 h0
      obtain ⟨s', h3, h4⟩ := runOps_ok ps l _ hrest hok.2 h0
      refine ⟨s', h3, fun F g a w B hB hp hs Q hq => ?_⟩
      rw [← hdst]
      exact h4 F g _ w B hB hp (put_skip hs p.dst hdlt) Q hq
    simp only [runOps] at h
    cases hgp : p.guard with
    | none =>
      rw [hgp] at h hg
      have hgo : o.guard = none := by
        cases ho : o.guard with
        | none => rfl
        | some x => rw [ho] at hg; simp [fitG] at hg
      obtain ⟨s', h1, h2⟩ := go s h
      refine ⟨s', h1, fun F g a w B hB hp hs Q hq => ?_⟩
      simp only [wpList, Region.wanted, hgo, if_true]
      exact .inl (h2 F g a w B hB hp hs Q hq)
    | some tw =>
      obtain ⟨t, want⟩ := tw
      rw [hgp] at h hg
      obtain ⟨j, hgo, hj⟩ : ∃ j, o.guard = some (j, want) ∧ (ops[j]?).bind (·.dst) = some t := by
        cases ho : o.guard with
        | none => rw [ho] at hg; simp [fitG] at hg
        | some x =>
          obtain ⟨j, w'⟩ := x
          rw [ho] at hg
          simp only [fitG, Bool.and_eq_true, decide_eq_true_eq, beq_iff_eq] at hg
          obtain ⟨h1, rfl⟩ := hg
          exact ⟨j, rfl, h1⟩
      simp only at h
      split at h
      · rename_i b hb
        have conclude : ∀ (b' : Bool), b = b' → (b' = want → ∃ s', k s' = some r ∧
            ∀ (F : Nat → Prop) (g : Gh) (a : Act) (w : World) (B : List Nat), B.length = c.nb → B <+: g.obj → SimX F c.nt g (s.know t b') a w [] → ∀ (Q : Exit → Act → World → Prop),
              (∀ g' a' w', B <+: g'.obj → SimX F c.nt g' s' a' w' [] → Step F g w g' w' → Q .normal a' w') → o.wp c.P a w (wpList c.P ops Q l) Q) →
            (b' ≠ want → ∃ s', k s' = some r ∧
            ∀ (F : Nat → Prop) (g : Gh) (a : Act) (w : World) (B : List Nat), B.length = c.nb → B <+: g.obj → SimX F c.nt g (s.know t b') a w [] → ∀ (Q : Exit → Act → World → Prop),
              (∀ g' a' w', B <+: g'.obj → SimX F c.nt g' s' a' w' [] → Step F g w g' w' → Q .normal a' w') → wpList c.P ops Q l (a.put o.dst undef) w) →
            ∃ s', k s' = some r ∧ LSem c ops s (o :: l) s' := by
          intro b' hbb h1 h2
          have know : ∀ (F : Nat → Prop) (g : Gh) (a : Act) (w : World), SimX F c.nt g s a w [] → SimX F c.nt g (s.know t b') a w [] ∧ yielded ops a.tmps j = some b' := by
            intro F g a w hs
            have hsl := hs.slots t
            rw [hb] at hsl
            simp only [VR] at hsl
            rw [hbb] at hsl
            exact ⟨know_sim (x := .tmp t) (y := .tmp t) hs (by simp [fitX]) hsl, yielded_bool hj hsl⟩
          by_cases hw : b' = want
          · obtain ⟨s', h3, h4⟩ := h1 hw
            refine ⟨s', h3, fun F g a w B hB hp hs Q hq => ?_⟩
            obtain ⟨k1, k2⟩ := know F g a w hs
            simp only [wpList, Region.wanted, hgo, k2, hw, beq_self_eq_true, if_true]
            exact .inl (h4 F g a w B hB hp k1 Q hq)
          · obtain ⟨s', h3, h4⟩ := h2 hw
            refine ⟨s', h3, fun F g a w B hB hp hs Q hq => ?_⟩
            obtain ⟨k1, k2⟩ := know F g a w hs
            have hne : (some b' == some want) = false := by simpa using hw
            simp only [wpList, Region.wanted, hgo, k2, hne, Bool.false_eq_true, if_false]
            exact h4 F g a w B hB hp k1 Q hq
        cases want with
        | true =>
          simp only at h
          cases b with
          | true => exact conclude true rfl (fun _ => go _ h) (fun hne => absurd rfl hne)
          | false => exact conclude false rfl (fun he => by cases he) (fun _ => skip _ h)
        | false =>
          simp only at h
          cases b with
          | true => exact conclude true rfl (fun he => by cases he) (fun _ => skip _ h)
          | false => exact conclude false rfl (fun _ => go _ h) (fun hne => absurd rfl hne)
      · rename_i hb
        obtain ⟨s', h3, h4⟩ := skip _ h
        refine ⟨s', h3, fun F g a w B hB hp hs Q hq => ?_⟩
        have hsl := hs.slots t
        rw [hb] at hsl
        simp only [VR] at hsl
        obtain ⟨vs, h5, h6⟩ := hsl
        simp only [VRs] at h6
        have h7 : vs = #[] := by cases vs; simpa using h6
        rw [h7] at h5
        have hy := yielded_none hj h5
        simp only [wpList, Region.wanted, hgo, hy]
        exact h4 F g a w B hB hp hs Q hq
      · exact absurd h (by simp)

theorem snd_region {id : Nat} {ps : List AOper} {l : List Oper} (hf : fitR c.nt l.toArray ps l = true) (hok : OpsOK c ps l) : Snd c (eregion ps) (.region id l.toArray false) := by
  intro s R k r h
  obtain ⟨s', h1, h2⟩ := runOps_ok (ops := l.toArray) ps l s hf hok h
  exact ⟨.normal, s', h1, fun F g a w B hB hp hs => wp_region_lit (h2 F g a w B hB hp hs _ fun g' a' w' hp' hs' hst => ⟨rfl, g', hp', hs', hst⟩)⟩
end Go.Sh

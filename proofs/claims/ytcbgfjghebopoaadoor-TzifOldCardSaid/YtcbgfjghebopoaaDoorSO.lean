/- Code. -/
import Derived.Test.YtcbgfjghebopoaaDoorSN
import Derived.Tactics
import Derived.Deep.LoopGhost
import Derived.TacticsIn
namespace Go.Sh
open Go.RowKit
set_option linter.unusedSimpArgs false
set_option linter.unusedVariables false

def conc : AExit → Exit
  | .normal => .normal
  | .exit id => .exit id
  | .ret => .ret

/-- Does code range over a function. -/
def rfn : Code → Bool
  | .seq a b => rfn a || rfn b
  | .cond _ a b => rfn a || rfn b
  | .block _ a => rfn a
  | .loop a => rfn a
  | .rangeFunc .. => true
  | .scope a => rfn a
  | _ => false
/-- The blocks of ranges over functions, for the rounds' deferred calls: the function's end empties them. -/
def Dfs (F : Nat → Prop) (n : Nat) (w : World) (d d' : List Deferred) : Prop :=
  ∃ ds : List Nat, d' = ds.map (fun D => ({ target := .collected D, args := #[] } : Deferred)) ++ d ∧ ds.Pairwise (fun x y => y < x) ∧ ∀ D ∈ ds, n ≤ D ∧ F D ∧ w.heap[D]? = some (.deferred (some []))
theorem Dfs.refl (F : Nat → Prop) (n : Nat) (w : World) (d : List Deferred) : Dfs F n w d d := ⟨[], rfl, .nil, fun D h => by simp at h⟩
theorem Dfs.of_eq {F : Nat → Prop} {n : Nat} {w : World} {d d' : List Deferred} (h : d' = d) : Dfs F n w d d' := h ▸ Dfs.refl F n w d
theorem Dfs.trans {F1 F2 : Nat → Prop} {g g1 : Gh} {n : Nat} {w1 w2 : World} {d d1 d2 : List Deferred} (h : Dfs F1 n w1 d d1) (k : Dfs F2 w1.heap.size w2 d1 d2) (hn : n ≤ w1.heap.size) (hF : ∀ b, F1 b → F2 b) (hst : Step F1 g w1 g1 w2) : Dfs F2 n w2 d d2 := by
  obtain ⟨ds, rfl, h2, h3⟩ := h
  obtain ⟨es, rfl, k2, k3⟩ := k
  refine ⟨es ++ ds, by simp, List.pairwise_append.2 ⟨k2, h2, fun x hx y hy => ?_⟩, fun D hD => ?_⟩
  · have h4 := (k3 x hx).1
    have h5 := (Array.getElem?_eq_some_iff.1 (h3 y hy).2.2).1
    omega
  · rcases List.mem_append.1 hD with hD | hD
    · exact ⟨Nat.le_trans hn (k3 D hD).1, (k3 D hD).2⟩
    · exact ⟨(h3 D hD).1, hF D (h3 D hD).2.1, by rw [(hst.frame D (h3 D hD).2.1).1]; exact (h3 D hD).2.2⟩
/-- How code ends. -/
def Ends (c : Cx) (F : Nat → Prop) (g : Gh) (w : World) (B : List Nat) (d : List Deferred) (s' : St) (a' : Act) (w' : World) : Prop :=
  ∃ (F' : Nat → Prop) (g' : Gh), (∀ b, F b → F' b) ∧ B <+: g'.obj ∧ SimX F' c.nt g' s' a' w' [] ∧ Step F g w g' w' ∧ Dfs F' w.heap.size w' d a'.defers
theorem Ends.trans {c : Cx} {F F1 : Nat → Prop} {g g1 : Gh} {w w1 w2 : World} {B : List Nat} {d d1 : List Deferred} {s' : St} {a' : Act} (hF : ∀ b, F b → F1 b) (hst : Step F g w g1 w1) (hd : Dfs F1 w.heap.size w1 d d1) (h : Ends c F1 g1 w1 B d1 s' a' w2) : Ends c F g w B d s' a' w2 := by
  obtain ⟨F2, g2, h1, h2, h3, h4, h5⟩ := h
  exact ⟨F2, g2, fun b hb => h1 b (hF b hb), h2, h3, hst.trans (h4.weaken hF), hd.trans h5 hst.size h1 h4⟩

/-- From this shadow code comes to that one. -/
def CSem (c : Cx) (s : St) (code : Code) (e : AExit) (s' : St) : Prop :=
  ∀ (F : Nat → Prop) (g : Gh) (a : Act) (w : World) (B : List Nat), B.length = c.nb → B <+: g.obj → SimX F c.nt g s a w [] → ∀ (ro : Option Nat) (dn : Nat), (rfn code = true → ro = none) →
    code.wpIn (fw ro) dn c.P (fun e' a' w' => e' = conc e ∧ Ends c F g w B a.defers s' a' w') a w

/-- Code does what its shadow does. -/
def Snd (c : Cx) (ex : Ex) (code : Code) : Prop :=
  ∀ (s : St) (R : Type) (k : AExit → St → Option R) (r : R), ex s R k = some r → ∃ e s', k e s' = some r ∧ CSem c s code e s'

variable {c : Cx}
theorem Ends.refl {F : Nat → Prop} {g : Gh} {w : World} {B : List Nat} {s : St} {a : Act} (hp : B <+: g.obj) (hs : SimX F c.nt g s a w []) : Ends c F g w B a.defers s a w := ⟨F, g, fun _ h => h, hp, hs, Step.refl _ _ _, Dfs.refl _ _ _ _⟩
theorem snd_skip : Snd c eskip .skip := fun s R k r h => ⟨.normal, s, h, fun F g a w B hB hp hs ro dn hro => wpIn_skip ⟨rfl, .refl hp hs⟩⟩
theorem snd_ret : Snd c eret .ret := fun s R k r h => ⟨.ret, s, h, fun F g a w B hB hp hs ro dn hro => wpIn_ret ⟨rfl, .refl hp hs⟩⟩
theorem snd_exit {id : Nat} : Snd c (eexit id) (.exit id) := fun s R k r h => ⟨.exit id, s, h, fun F g a w B hB hp hs ro dn hro => wpIn_exit ⟨rfl, .refl hp hs⟩⟩

theorem snd_seq {x y : Ex} {cx cy : Code} (hx : Snd c x cx) (hy : Snd c y cy) : Snd c (eseq x y) (.seq cx cy) := by
  intro s R k r h
  obtain ⟨e, s1, h1, h2⟩ := hx s R _ r h
  cases e with
  | normal =>
    obtain ⟨e2, s2, h3, h4⟩ := hy s1 R k r h1
    refine ⟨e2, s2, h3, fun F g a w B hB hp hs ro dn hro => wpIn_seq (wpIn_mono (h2 F g a w B hB hp hs ro dn fun hr => hro (by simp [rfn, hr])) ?_)⟩
    rintro e' a' w' ⟨rfl, F', g', hF, hp', hs', hst, hd⟩
    refine wpIn_mono (h4 F' g' a' w' B hB hp' hs' ro dn fun hr => hro (by simp [rfn, hr])) ?_
    rintro e'' a'' w'' ⟨rfl, h5⟩
    exact ⟨rfl, h5.trans hF hst hd⟩
  | exit id =>
    refine ⟨_, s1, h1, fun F g a w B hB hp hs ro dn hro => wpIn_seq (wpIn_mono (h2 F g a w B hB hp hs ro dn fun hr => hro (by simp [rfn, hr])) ?_)⟩
    rintro e' a' w' ⟨rfl, h⟩
    exact ⟨rfl, h⟩
  | ret =>
    refine ⟨_, s1, h1, fun F g a w B hB hp hs ro dn hro => wpIn_seq (wpIn_mono (h2 F g a w B hB hp hs ro dn fun hr => hro (by simp [rfn, hr])) ?_)⟩
    rintro e' a' w' ⟨rfl, h⟩
    exact ⟨rfl, h⟩

theorem snd_cond {x : AX} {p : Operand} {y z : Ex} {cy cz : Code} (hx : fitX x p = true) (hy : Snd c y cy) (hz : Snd c z cz) : Snd c (econd x y z) (.cond p cy cz) := by
  intro s R k r h
  simp only [econd] at h
  split at h
  · rename_i b hb
    have key : ∀ (b' : Bool) (ex : Ex) (cd : Code), b = b' → Snd c ex cd → ex (x.know s b') R k = some r → (∀ ro dn Q a w, a.eval p = .bool b' → cd.wpIn (fw ro) dn c.P Q a w → (Code.cond p cy cz).wpIn (fw ro) dn c.P Q a w) → (∀ ro : Option Nat, (rfn (.cond p cy cz) = true → ro = none) → rfn cd = true → ro = none) → ∃ e s', k e s' = some r ∧ CSem c s (.cond p cy cz) e s' := by
      intro b' ex cd hbb hex hr hwp hrf
      obtain ⟨e, s1, h1, h2⟩ := hex _ R k r hr
      refine ⟨e, s1, h1, fun F g a w B hB hp hs ro dn hro => ?_⟩
      have hev := ev_read hs hx
      rw [hb] at hev
      simp only [VR] at hev
      exact hwp ro dn _ a w (by rw [hev, hbb]) (h2 F g a w B hB hp (know_sim hs hx (by rw [hev, hbb])) ro dn (hrf ro hro))
    cases b with
    | true => exact key true y cy rfl hy h (fun ro dn Q a w he hw => wpIn_cond he (by simpa using hw)) (fun ro h hr => h (by simp [rfn, hr]))
    | false => exact key false z cz rfl hz h (fun ro dn Q a w he hw => wpIn_cond he (by simpa using hw)) (fun ro h hr => h (by simp [rfn, hr]))
  · exact absurd h (by simp)

theorem snd_alt {i : Option Nat} {n : Nat} {x y : Ex} {cd : Code} (hx : Snd c x cd) (hy : Snd c y cd) : Snd c (ealt i n x y) cd := by
  intro s R k r h
  unfold ealt at h
  cases i with
  | none =>
    obtain ⟨_, h⟩ | ⟨_, h⟩ := cond_some h
    · exact hx s R k r h
    · exact hy s R k r h
  | some t =>
    obtain ⟨_, h⟩ | ⟨_, h⟩ := cond_some h
    · exact hx s R k r h
    · exact hy s R k r h
theorem snd_block {id : Nat} {x : Ex} {cx : Code} (hx : Snd c x cx) : Snd c (eblock id x) (.block id cx) := by
  intro s R k r h
  obtain ⟨e, s1, h1, h2⟩ := hx s R _ r h
  cases e with
  | normal =>
    refine ⟨_, s1, h1, fun F g a w B hB hp hs ro dn hro => wpIn_block (wpIn_mono (h2 F g a w B hB hp hs ro dn hro) ?_)⟩
    rintro e' a' w' ⟨rfl, h⟩
    exact ⟨rfl, h⟩
  | ret =>
    refine ⟨_, s1, h1, fun F g a w B hB hp hs ro dn hro => wpIn_block (wpIn_mono (h2 F g a w B hB hp hs ro dn hro) ?_)⟩
    rintro e' a' w' ⟨rfl, h⟩
    exact ⟨rfl, h⟩
  | exit i =>
    by_cases hi : i = id
    · subst hi
      simp only [beq_self_eq_true] at h1
      refine ⟨.normal, s1, h1, fun F g a w B hB hp hs ro dn hro => wpIn_block (wpIn_mono (h2 F g a w B hB hp hs ro dn hro) ?_)⟩
      rintro e' a' w' ⟨rfl, h⟩
      show (if i = i then _ else _)
      rw [if_pos rfl]
      exact ⟨rfl, h⟩
    · have hb : (i == id) = false := beq_eq_false_iff_ne.2 hi
      simp only [hb] at h1
      refine ⟨.exit i, s1, h1, fun F g a w B hB hp hs ro dn hro => wpIn_block (wpIn_mono (h2 F g a w B hB hp hs ro dn hro) ?_)⟩
      rintro e' a' w' ⟨rfl, h⟩
      show (if i = id then _ else _)
      rw [if_neg hi]
      exact ⟨rfl, h⟩

theorem wpIn_loop_ghost {FF : Fence} {dn : Nat} {P : Program} {Q : Exit → Act → World → Prop} {a : Act} {w : World} {c : Code} (I : Nat → Act → World → Prop) (n₀ : Nat) (h₀ : I n₀ a w)
    (round : ∀ n a w, I n a w → c.wpIn FF dn P (Exit.then (fun a' w' => ∃ n', n' < n ∧ I n' a' w') Q) a w) : (Code.loop c).wpIn FF dn P Q a w := by
  refine wpIn_loop (fun a w => ∃ n, I n a w) (fun a w => leastOf (fun n => I n a w)) ⟨n₀, h₀⟩ ?_
  intro a w hI
  refine wpIn_mono (round _ a w (leastOf_spec hI).1) ?_
  intro e a' w' hq
  cases e with
  | normal =>
    obtain ⟨n', hlt, hI'⟩ := hq
    exact show (∃ n, I n a' w') ∧ leastOf (fun n => I n a' w') < leastOf (fun n => I n a w) from ⟨⟨n', hI'⟩, Nat.lt_of_le_of_lt ((leastOf_spec ⟨n', hI'⟩).2 n' hI') hlt⟩
  | exit id => exact hq
  | goto l => exact hq
  | ret => exact hq
  | panic ch => exact hq
  | outgrown => exact hq

/-- So many rounds at most. -/
def Rounds (c : Cx) (code : Code) : Nat → St → AExit → St → Prop
  | 0, _, _, _ => False
  | n + 1, s, e, s' => (∃ s1, CSem c s code .normal s1 ∧ Rounds c code n s1 e s') ∨ (e ≠ .normal ∧ CSem c s code e s')
theorem rounds_of {x : Ex} {cx : Code} (hx : Snd c x cx) {R : Type} {k : AExit → St → Option R} {r : R} : ∀ (n : Nat) (s : St), eloop x n s R k = some r → ∃ e s', k e s' = some r ∧ Rounds c cx n s e s'
  | 0, s, h => absurd h (by simp [eloop])
  | n + 1, s, h => by
    simp only [eloop] at h
    obtain ⟨e, s1, h1, h2⟩ := hx s R _ r h
    cases e with
    | normal =>
      obtain ⟨e', s', h3, h4⟩ := rounds_of hx n s1 h1
      exact ⟨e', s', h3, .inl ⟨s1, h2, h4⟩⟩
    | exit id => exact ⟨_, s1, h1, .inr ⟨by simp, h2⟩⟩
    | ret => exact ⟨_, s1, h1, .inr ⟨by simp, h2⟩⟩
theorem rounds_sem {cx : Code} {n : Nat} {s : St} {e : AExit} {s' : St} (h : Rounds c cx n s e s') : CSem c s (.loop cx) e s' := by
  intro F g a w B hB hp hs ro dn hro
  refine wpIn_loop_ghost (fun m a1 w1 => ∃ s1, Rounds c cx m s1 e s' ∧ Ends c F g w B a.defers s1 a1 w1) n ⟨s, h, .refl hp hs⟩ ?_
  rintro m a1 w1 ⟨s1, hr, F1, g1, hF1, hp1, hs1, hst1, hd1⟩
  cases m with
  | zero => exact hr.elim
  | succ m =>
    rcases hr with ⟨s2, h1, h2⟩ | ⟨h1, h2⟩
    · refine wpIn_mono (h1 F1 g1 a1 w1 B hB hp1 hs1 ro dn hro) ?_
      rintro e' a2 w2 ⟨rfl, h5⟩
      exact ⟨m, Nat.lt_succ_self m, s2, h2, h5.trans hF1 hst1 hd1⟩
    · refine wpIn_mono (h2 F1 g1 a1 w1 B hB hp1 hs1 ro dn hro) ?_
      rintro e' a2 w2 ⟨rfl, h5⟩
      cases e with
      | normal => exact absurd rfl h1
      | exit id => exact ⟨rfl, h5.trans hF1 hst1 hd1⟩
      | ret => exact ⟨rfl, h5.trans hF1 hst1 hd1⟩
theorem snd_loop {x : Ex} {cx : Code} (n : Nat) (hx : Snd c x cx) : Snd c (eloop x n) (.loop cx) := by
  intro s R k r h
  obtain ⟨e, s', h1, h2⟩ := rounds_of hx n s h
  exact ⟨e, s', h1, rounds_sem h2⟩

theorem put_defers (a : Act) (d : Option Nat) (v : Value) : (a.put d v).defers = a.defers := by cases d <;> rfl
/-! ### regions in their order -/
def fitG (ops : Array Oper) : Option (Nat × Bool) → Option (Nat × Bool) → Bool
  | none, none => true
  | some (t, w), some (j, w') => decide ((ops[j]?).bind (·.dst) = some t) && (w == w')
  | _, _ => false
def fitD (nt : Nat) : Option Nat → Option Nat → Bool
  | none, none => true
  | some d, some d' => d == d' && Nat.blt d nt
  | _, _ => false
/-- Do destinations and guards agree. -/
def fitR (nt : Nat) (ops : Array Oper) : List AOper → List Oper → Bool
  | [], [] => true
  | p :: ps, o :: os => fitD nt p.dst o.dst && fitG ops p.guard o.guard && fitR nt ops ps os
  | _, _ => false
def OpsOK (c : Cx) : List AOper → List Oper → Prop
  | p :: ps, o :: os => OpOK c p.op o ∧ OpsOK c ps os
  | _, _ => True

def LSem (c : Cx) (ops : Array Oper) (s : St) (l : List Oper) (s' : St) : Prop :=
  ∀ (F : Nat → Prop) (g : Gh) (a : Act) (w : World) (B : List Nat), B.length = c.nb → B <+: g.obj → SimX F c.nt g s a w [] → ∀ (ro : Option Nat) (dn : Nat) (Q : Exit → Act → World → Prop),
    (∀ g' a' w', a'.defers = a.defers → B <+: g'.obj → SimX F c.nt g' s' a' w' [] → Step F g w g' w' → Q .normal a' w') → wpListIn (fw ro) dn c.P ops Q l a w

theorem fitD_ok {nt : Nat} {d d' : Option Nat} (h : fitD nt d d' = true) : d = d' ∧ ∀ t, d = some t → t < nt := by
  cases d with
  | none => cases d' <;> simp [fitD] at h ⊢
  | some d =>
    cases d' with
    | none => simp [fitD] at h
    | some d' =>
      simp only [fitD, Bool.and_eq_true, beq_iff_eq] at h
      obtain ⟨rfl, h2⟩ := h
      refine ⟨rfl, fun t ht => ?_⟩
      injection ht with ht
      subst ht
      exact Nat.le_of_ble_eq_true h2
theorem yielded_bool {ops : Array Oper} {tmps : Array Value} {j t : Nat} {b : Bool} (h : (ops[j]?).bind (·.dst) = some t) (hb : tmps.getD t undef = .bool b) : yielded ops tmps j = some b := by
  unfold yielded
  rw [h]
  simp only [Option.bind_some]
  rw [Array.getD_eq_getD_getElem?] at hb
  cases ht : tmps[t]? with
  | none => rw [ht] at hb; simp [undef] at hb
  | some v => rw [ht] at hb; simp at hb; subst hb; rfl
theorem yielded_none {ops : Array Oper} {tmps : Array Value} {j t : Nat} (h : (ops[j]?).bind (·.dst) = some t) (hb : tmps.getD t undef = .tuple #[]) : yielded ops tmps j = none := by
  unfold yielded
  rw [h]
  simp only [Option.bind_some]
  rw [Array.getD_eq_getD_getElem?] at hb
  cases ht : tmps[t]? with
  | none => rfl
  | some v => rw [ht] at hb; simp at hb; subst hb; rfl

theorem put_skip {F : Nat → Prop} {nt : Nat} {g : Gh} {s : St} {a : Act} {w : World} (h : SimX F nt g s a w []) (d : Option Nat) (hlt : ∀ t, d = some t → t < nt) : SimX F nt g (s.put d (.tuple [])) (a.put d undef) w [] :=
  SimX.put (v := .tuple []) (v' := undef) (by rw [owns_undef]; exact h) (by simp only [VR]; exact ⟨#[], rfl, by simp [VRs]⟩) d hlt

theorem runOps_ok {ops : Array Oper} {R : Type} {k : St → Option R} {r : R} : ∀ (ps : List AOper) (l : List Oper) (s : St), fitR c.nt ops ps l = true → OpsOK c ps l → runOps ps s R k = some r → ∃ s', k s' = some r ∧ LSem c ops s l s'
  | [], [], s, _, _, h => ⟨s, h, fun F g a w B hB hp hs ro dn Q hq => hq g a w rfl hp hs (Step.refl _ _ _)⟩
  | [], _ :: _, s, h, _, _ => by simp [fitR] at h
  | _ :: _, [], s, h, _, _ => by simp [fitR] at h
  | p :: ps, o :: l, s, hf, hok, h => by
    simp only [fitR, Bool.and_eq_true] at hf
    obtain ⟨⟨hd, hg⟩, hrest⟩ := hf
    obtain ⟨hdst, hdlt⟩ := fitD_ok hd
    -- carried out
    have go : ∀ (s0 : St), (p.op.run s0 R fun v s' => runOps ps (s'.put p.dst v) R k) = some r → ∃ s', k s' = some r ∧
        ∀ (F : Nat → Prop) (g : Gh) (a : Act) (w : World) (B : List Nat), B.length = c.nb → B <+: g.obj → SimX F c.nt g s0 a w [] → ∀ (ro : Option Nat) (dn : Nat) (Q : Exit → Act → World → Prop),
          (∀ g' a' w', a'.defers = a.defers → B <+: g'.obj → SimX F c.nt g' s' a' w' [] → Step F g w g' w' → Q .normal a' w') → o.wpIn (fw ro) dn c.P a w (wpListIn (fw ro) dn c.P ops Q l) Q := by
      intro s0 h0
      obtain ⟨v, s1, h1, h2⟩ := hok.1 s0 R _ r h0
      obtain ⟨s', h3, h4⟩ := runOps_ok ps l _ hrest hok.2 h1
      refine ⟨s', h3, fun F g a w B hB hp hs ro dn Q hq => h2 F g a w B rfl hp hs ro dn _ Q ?_⟩
      intro v' g' w' hv hp' hs' hst
      have hput := SimX.put hs' hv p.dst hdlt
      rw [← hdst]
      exact h4 F g' _ w' B hB hp' hput ro dn Q (fun g'' a'' w'' hd' hp'' hs'' hst' => hq g'' a'' w'' (hd'.trans (put_defers _ _ _)) hp'' hs'' (hst.trans hst'))
    -- passed over
    have skip : ∀ (s0 : St), runOps ps (s0.put p.dst (.tuple [])) R k = some r → ∃ s', k s' = some r ∧
        ∀ (F : Nat → Prop) (g : Gh) (a : Act) (w : World) (B : List Nat), B.length = c.nb → B <+: g.obj → SimX F c.nt g s0 a w [] → ∀ (ro : Option Nat) (dn : Nat) (Q : Exit → Act → World → Prop),
          (∀ g' a' w', a'.defers = a.defers → B <+: g'.obj → SimX F c.nt g' s' a' w' [] → Step F g w g' w' → Q .normal a' w') → wpListIn (fw ro) dn c.P ops Q l (a.put o.dst undef) w := by
      intro s0 h0
      obtain ⟨s', h3, h4⟩ := runOps_ok ps l _ hrest hok.2 h0
      refine ⟨s', h3, fun F g a w B hB hp hs ro dn Q hq => ?_⟩
      rw [← hdst]
      exact h4 F g _ w B hB hp (put_skip hs p.dst hdlt) ro dn Q fun g' a' w' hd' => hq g' a' w' (hd'.trans (put_defers _ _ _))
    simp only [runOps] at h
    cases hgp : p.guard with
    | none =>
      rw [hgp] at h hg
      have hgo : o.guard = none := by
        cases ho : o.guard with
        | none => rfl
        | some x => rw [ho] at hg; simp [fitG] at hg
      obtain ⟨s', h1, h2⟩ := go s h
      refine ⟨s', h1, fun F g a w B hB hp hs ro dn Q hq => ?_⟩
      simp only [wpListIn, Region.wanted, hgo, if_true]
      exact h2 F g a w B hB hp hs ro dn Q hq
    | some tw =>
      obtain ⟨t, want⟩ := tw
      rw [hgp] at h hg
      obtain ⟨j, hgo, hj⟩ : ∃ j, o.guard = some (j, want) ∧ (ops[j]?).bind (·.dst) = some t := by
        cases ho : o.guard with
        | none => rw [ho] at hg; simp [fitG] at hg
        | some x =>
          obtain ⟨j, w'⟩ := x
          rw [ho] at hg
          simp only [fitG, Bool.and_eq_true, decide_eq_true_eq, beq_iff_eq] at hg
          obtain ⟨h1, rfl⟩ := hg
          exact ⟨j, rfl, h1⟩
      simp only at h
      split at h
      · rename_i b hb
        have conclude : ∀ (b' : Bool), b = b' → (b' = want → ∃ s', k s' = some r ∧
            ∀ (F : Nat → Prop) (g : Gh) (a : Act) (w : World) (B : List Nat), B.length = c.nb → B <+: g.obj → SimX F c.nt g (s.know t b') a w [] → ∀ (ro : Option Nat) (dn : Nat) (Q : Exit → Act → World → Prop),
              (∀ g' a' w', a'.defers = a.defers → B <+: g'.obj → SimX F c.nt g' s' a' w' [] → Step F g w g' w' → Q .normal a' w') → o.wpIn (fw ro) dn c.P a w (wpListIn (fw ro) dn c.P ops Q l) Q) →
            (b' ≠ want → ∃ s', k s' = some r ∧
            ∀ (F : Nat → Prop) (g : Gh) (a : Act) (w : World) (B : List Nat), B.length = c.nb → B <+: g.obj → SimX F c.nt g (s.know t b') a w [] → ∀ (ro : Option Nat) (dn : Nat) (Q : Exit → Act → World → Prop),
              (∀ g' a' w', a'.defers = a.defers → B <+: g'.obj → SimX F c.nt g' s' a' w' [] → Step F g w g' w' → Q .normal a' w') → wpListIn (fw ro) dn c.P ops Q l (a.put o.dst undef) w) →
            ∃ s', k s' = some r ∧ LSem c ops s (o :: l) s' := by
          intro b' hbb h1 h2
          have know : ∀ (F : Nat → Prop) (g : Gh) (a : Act) (w : World), SimX F c.nt g s a w [] → SimX F c.nt g (s.know t b') a w [] ∧ yielded ops a.tmps j = some b' := by
            intro F g a w hs
            have hsl := hs.slots t
            rw [hb] at hsl
            simp only [VR] at hsl
            rw [hbb] at hsl
            exact ⟨know_sim (x := .tmp t) (y := .tmp t) hs (by simp [fitX]) hsl, yielded_bool hj hsl⟩
          by_cases hw : b' = want
          · obtain ⟨s', h3, h4⟩ := h1 hw
            refine ⟨s', h3, fun F g a w B hB hp hs ro dn Q hq => ?_⟩
            obtain ⟨k1, k2⟩ := know F g a w hs
            simp only [wpListIn, Region.wanted, hgo, k2, hw, beq_self_eq_true, if_true]
            exact h4 F g a w B hB hp k1 ro dn Q hq
          · obtain ⟨s', h3, h4⟩ := h2 hw
            refine ⟨s', h3, fun F g a w B hB hp hs ro dn Q hq => ?_⟩
            obtain ⟨k1, k2⟩ := know F g a w hs
            have hne : (some b' == some want) = false := by simpa using hw
            simp only [wpListIn, Region.wanted, hgo, k2, hne, Bool.false_eq_true, if_false]
            exact ⟨fun _ _ => trivial, h4 F g a w B hB hp k1 ro dn Q hq⟩
        cases want with
        | true =>
          simp only at h
          cases b with
          | true => exact conclude true rfl (fun _ => go _ h) (fun hne => absurd rfl hne)
          | false => exact conclude false rfl (fun he => by cases he) (fun _ => skip _ h)
        | false =>
          simp only at h
          cases b with
          | true => exact conclude true rfl (fun he => by cases he) (fun _ => skip _ h)
          | false => exact conclude false rfl (fun _ => go _ h) (fun hne => absurd rfl hne)
      · rename_i hb
        obtain ⟨s', h3, h4⟩ := skip _ h
        refine ⟨s', h3, fun F g a w B hB hp hs ro dn Q hq => ?_⟩
        have hsl := hs.slots t
        rw [hb] at hsl
        simp only [VR] at hsl
        obtain ⟨vs, h5, h6⟩ := hsl
        simp only [VRs] at h6
        have h7 : vs = #[] := by cases vs; simpa using h6
        rw [h7] at h5
        have hy := yielded_none hj h5
        simp only [wpListIn, Region.wanted, hgo, hy]
        exact ⟨fun _ _ => trivial, h4 F g a w B hB hp hs ro dn Q hq⟩
      · exact absurd h (by simp)

theorem snd_region {id : Nat} {ps : List AOper} {l : List Oper} (hf : fitR c.nt l.toArray ps l = true) (hok : OpsOK c ps l) : Snd c (eregion ps) (.region id l.toArray false) := by
  intro s R k r h
  obtain ⟨s', h1, h2⟩ := runOps_ok (ops := l.toArray) ps l s hf hok h
  exact ⟨.normal, s', h1, fun F g a w B hB hp hs ro dn hro => wpIn_region_lit (h2 F g a w B hB hp hs ro dn _ fun g' a' w' hd hp' hs' hst => ⟨rfl, F, g', fun _ h => h, hp', hs', hst, .of_eq hd⟩)⟩
end Go.Sh

/- Texts of this session, joined and cut to what one statement needs, under short names. -/
import Derived.Test.YtiegmpnagcdgoaaGreatDoorJ3
import Derived.ChangeArms
import Derived.OpenShut
import Derived.WideShapes
import Derived.Deep.Slices
import Derived.Lib.SlKeysI
import Derived.KernelRfl
import Derived.Lib.LaidTab
import Derived.MakeChecks
import Derived.Test.YtiegmpnagcdgoaaGreatDoorRows
import Derived.Shelf.Vars
import Derived.Handed
import Derived.HandedShaped
namespace Go.Proofs.YtiegmpnagcdgoaaGreatDoor.H
open Go.Sh Go.RowKit
set_option linter.unusedSimpArgs false
set_option linter.unusedVariables false
structure DayV where
 k : Int
 m : Int
 w : Int
 d : Int
 t : Int
structure RuleV where
 std : Str
 dst : Str
 off : Int
 doff : Int
 a : DayV
 b : DayV
def DayV.zero : DayV := ⟨0, 0, 0, 0, 0⟩
def RuleV.zero : RuleV := ⟨[], [], 0, 0, .zero, .zero⟩
def nu (k m w : Int) (r : Str) (bad : Bool) : DayV × Str × Bool :=
 let d := dD 1 3 r
 let e := ay 47 d.2.1
 if e.1 = true then
  let h := dO 167 e.2
  (⟨k, m, w, d.1, h.1⟩, h.2.1, bad || d.2.2 || h.2.2)
 else (⟨k, m, w, d.1, 7200⟩, e.2, bad || d.2.2)
def yA (r : Str) : DayV × Str × Bool :=
 let e := ay 74 r
 if e.1 = true then nu 1 0 0 e.2 false
 else
  let f := ay 77 e.2
  if f.1 = true then
   let m := dD 1 3 f.2
   let p := ay 46 m.2.1
   let w := dD 1 3 p.2
   let q := ay 46 w.2.1
   nu 3 m.1 w.1 q.2 (m.2.2 || !p.1 || w.2.2 || !q.1)
  else nu 2 0 0 f.2 false
theorem Kt (k m w : Int) (r : Str) (bad : Bool) : (nu k m w r bad).2.1.length ≤ r.length := by
 have h1 := wH 1 3 r
 have h2 := iY 47 (dD 1 3 r).2.1
 have h3 := Jg 167 (ay 47 (dD 1 3 r).2.1).2
 unfold nu
 dsimp only
 split <;> dsimp only <;> omega
theorem ZH (r : Str) : (yA r).2.1.length ≤ r.length := by
 have h1 := iY 74 r
 have h2 := iY 77 (ay 74 r).2
 have h3 := wH 1 3 (ay 77 (ay 74 r).2).2
 have h4 := iY 46 (dD 1 3 (ay 77 (ay 74 r).2).2).2.1
 have h5 := wH 1 3 (ay 46 (dD 1 3 (ay 77 (ay 74 r).2).2).2.1).2
 have h6 := iY 46 (dD 1 3 (ay 46 (dD 1 3 (ay 77 (ay 74 r).2).2).2.1).2).2.1
 unfold yA
 dsimp only
 split
 ·exact Nat.le_trans (Kt ..) h1
 ·split
  ·exact Nat.le_trans (Kt ..) (by omega)
  ·exact Nat.le_trans (Kt ..) (by omega)
theorem WA (n : Nat) (r : Str) (b : Bool) (hs : r.length < 9223372036854775808) (hn : r.length + 5 < n) :
 pV n r b = some ((yA r).1.k, (yA r).1.m, (yA r).1.w, (yA r).1.d, (yA r).1.t, (yA r).2.1, b || (yA r).2.2) := by
 have h1 := iY 74 r
 have h2 := iY 77 (ay 74 r).2
 have h3 := wH 1 3 (ay 77 (ay 74 r).2).2
 have h4 := iY 46 (dD 1 3 (ay 77 (ay 74 r).2).2).2.1
 have h5 := wH 1 3 (ay 46 (dD 1 3 (ay 77 (ay 74 r).2).2).2.1).2
 have h6 := iY 46 (dD 1 3 (ay 46 (dD 1 3 (ay 77 (ay 74 r).2).2).2.1).2).2.1
 have num : ∀ (s : Str) (b : Bool), s.length ≤ r.length → aZ n (1 : Int) (3 : Int) s b = some (((dD 1 3 s).1 : Int), (dD 1 3 s).2.1, b || (dD 1 3 s).2.2) := fun s b h => Jf n 1 3 (by omega) (by omega) s b (by omega) (by omega)
 have tail : ∀ (k m w : Int) (s : Str) (b bad : Bool), s.length ≤ r.length →
  ((aZ n (1 : Int) (3 : Int) s (b || bad)).bind fun o59 => (bB n (47 : Int) o59.2.1 o59.2.2).bind fun o60 => cond o60.1 ((bu n (167 : Int) o60.2.1 o60.2.2).bind fun o61 => some (k, m, w, o59.1, o61.1, o61.2.1, o61.2.2)) (some (k, m, w, o59.1, 7200, o60.2.1, o60.2.2)))
  = some ((nu k m w s bad).1.k, (nu k m w s bad).1.m, (nu k m w s bad).1.w, (nu k m w s bad).1.d, (nu k m w s bad).1.t, (nu k m w s bad).2.1, b || (nu k m w s bad).2.2) := by
  intro k m w s b bad hsl
  have g1 := wH 1 3 s
  have g2 := iY 47 (dD 1 3 s).2.1
  rw [num s _ hsl]
  simp only [Option.bind_some]
  rw [EO n 47 47]
  simp only [Option.bind_some]
  unfold nu
  cases he : (ay 47 (dD 1 3 s).2.1).1 with
  | true =>
   simp only [cond_true, he, if_true]
   rw [show (bu n (167 : Int) (ay 47 (dD 1 3 s).2.1).2 (b || bad || (dD 1 3 s).2.2)) = _ from NY n 167 _ _ (by omega) (by omega)]
   simp only [Option.bind_some, Bool.or_assoc]
  | false => simp only [cond_false, he, Bool.false_eq_true, if_false, Bool.or_assoc]
 unfold pV pU sF lJ yA
 rw [EO n 74 74]
 simp only [Option.bind_some]
 cases he : (ay 74 r).1 with
 | true =>
  simp only [cond_true, if_true, Option.bind_some]
  have := tail 1 0 0 (ay 74 r).2 b false (by omega)
  rw [Bool.or_false] at this
  exact this
 | false =>
  simp only [cond_false, Bool.false_eq_true, if_false]
  rw [EO n 77 77]
  simp only [Option.bind_some]
  cases hf : (ay 77 (ay 74 r).2).1 with
  | false =>
   simp only [cond_false, Bool.false_eq_true, if_false, Option.bind_some]
   have := tail 2 0 0 (ay 77 (ay 74 r).2).2 b false (by omega)
   rw [Bool.or_false] at this
   exact this
  | true =>
   simp only [cond_true, if_true]
   rw [num _ _ (by omega)]
   simp only [Option.bind_some]
   rw [Kr n 46 46]
   simp only [Option.bind_some]
   rw [num _ _ (by omega)]
   simp only [Option.bind_some]
   rw [Kr n 46 46]
   simp only [Option.bind_some]
   have := tail 3 (dD 1 3 (ay 77 (ay 74 r).2).2).1 (dD 1 3 (ay 46 (dD 1 3 (ay 77 (ay 74 r).2).2).2.1).2).1 (ay 46 (dD 1 3 (ay 46 (dD 1 3 (ay 77 (ay 74 r).2).2).2.1).2).2.1).2 b ((dD 1 3 (ay 77 (ay 74 r).2).2).2.2 || !(ay 46 (dD 1 3 (ay 77 (ay 74 r).2).2).2.1).1 || (dD 1 3 (ay 46 (dD 1 3 (ay 77 (ay 74 r).2).2).2.1).2).2.2 || !(ay 46 (dD 1 3 (ay 46 (dD 1 3 (ay 77 (ay 74 r).2).2).2.1).2).2.1).1) (by omega)
   simp only [← Bool.or_assoc] at this ⊢
   exact this
def Gl (x far : Int) : Bool := decide (-far ≤ x) && decide (x ≤ far)
def qV (d : DayV) : Bool := Gl d.t 604799 &&
 if d.k = 1 then decide (d.m = 0) && decide (d.w = 0) && decide (1 ≤ d.d) && decide (d.d ≤ 365)
 else if d.k = 2 then decide (d.m = 0) && decide (d.w = 0) && decide (0 ≤ d.d) && decide (d.d ≤ 365)
 else if d.k = 3 then decide (1 ≤ d.m) && decide (d.m ≤ 12) && decide (1 ≤ d.w) && decide (d.w ≤ 5) && decide (0 ≤ d.d) && decide (d.d ≤ 6)
 else false
def Qh (d : DayV) : Bool := d.k == 0 && d.m == 0 && d.w == 0 && d.d == 0 && d.t == 0
def gL (r : RuleV) : Bool := ui r.std && Gl r.off 89999 &&
 if r.dst = [] then r.doff == 0 && Qh r.a && Qh r.b else ui r.dst && Gl r.doff 89999 && qV r.a && qV r.b
theorem CO (n : Nat) (x : Int) (far : Nat) (hf : far < 1000000000) : kg n x (far : Int) = some (Gl x far) := by
 unfold kg wh Gl
 rw [wi (0 - (far : Int)) (by omega) (by omega)]
 by_cases h : -(far : Int) ≤ x
 ·rw [aa (by omega), decide_eq_true h]; rfl
 ·rw [ah (by omega), decide_eq_false h]; rfl
theorem K7 (x y : Int) : (x == y) = decide (x = y) := by by_cases h : x = y <;> simp [h]
theorem Nk {p : Prop} [Decidable p] (q : Bool) : cond (decide p) (some q) (some false) = some (decide p && q) := by by_cases h : p <;> simp [h]
theorem Rv (p q : Bool) : cond p (some q) (some false) = some (p && q) := by cases p <;> rfl
theorem Nl (n : Nat) (k m w d t : Int) : nQ n k m w d t = some (qV ⟨k, m, w, d, t⟩) := by
 unfold nQ qD qV
 rw [show kg n t (604799 : Int) = _ from CO n t 604799 (by omega)]
 simp only [Option.bind_some]
 cases Gl t ((604799 : Nat) : Int) with
 | false => simp
 | true =>
  simp only [Bool.not_true, cond_false, Bool.true_and]
  rw [uz, nD]
  have hz : ∀ (x3 : Int), ((pW n x3 k m w d t).bind fun o75 => some o75.1) = some (decide (m = 0) && decide (w = 0) && decide (x3 ≤ d) && decide (d ≤ 365)) := by
   intro x3
   rw [pW, nE]
   rw [K7, K7]
   by_cases h1 : m = 0 <;> by_cases h2 : w = 0 <;> by_cases h3 : x3 ≤ d <;> simp [h1, h2, h3]
  by_cases h1 : k = 1
  ·subst h1
   simpa using hz 1
  ·by_cases h2 : k = 2
   ·subst h2
    simpa using hz 0
   ·by_cases h3 : k = 3
    ·subst h3
     simp only [beq_iff_eq, h1, h2, if_false, if_true, show ((3 : Int) == 1) = false from rfl, show ((3 : Int) == 2) = false from rfl, show ((3 : Int) == 3) = true from rfl, cond_false, cond_true, Option.bind_some, Sum.elim_inl, Sum.elim_inr, Nk, ge_iff_le, Bool.and_assoc]
    ·rw [K7, K7, K7, decide_eq_false h1, decide_eq_false h2, decide_eq_false h3]
     simp [h1, h2, h3]
theorem right_val (n : Nat) (std dst : Str) (off doff k m w d t k' m' w' d' t' : Int) (hs : std.length < 9223372036854775808) (hn : std.length < n) (hs' : dst.length < 9223372036854775808) (hn' : dst.length < n) :
 uG n std dst off doff k m w d t k' m' w' d' t' = some (gL ⟨std, dst, off, doff, ⟨k, m, w, d, t⟩, ⟨k', m', w', d', t'⟩⟩) := by
 unfold uG xA zl sG gL
 rw [Nj n std hs hn]
 simp only [Option.bind_some]
 cases ui std with
 | false => simp
 | true =>
  simp only [Bool.not_true, cond_false, Bool.true_and]
  rw [show kg n off (89999 : Int) = _ from CO n off 89999 (by omega)]
  simp only [Option.bind_some]
  change _ = some (Gl off ((89999 : Nat) : Int) && _)
  cases Gl off ((89999 : Nat) : Int) with
  | false => simp
  | true =>
   simp only [Bool.not_true, cond_false, Bool.true_and]
   by_cases hd : dst = []
   ·subst hd
    simp [Qh, Bool.and_assoc]
   ·have : (dst == ([] : Str)) = false := by simpa using hd
    rw [this, cond_false, Nj n dst hs' hn', if_neg hd]
    simp only [Option.bind_some]
    rw [show kg n doff (89999 : Int) = _ from CO n doff 89999 (by omega)]
    simp only [Option.bind_some, Nl, Rv, Bool.and_assoc]
    rfl
def y9 (off : Int) (r : Str) : Int × Str × Bool :=
 if r.head? = some 44 then (off + 3600, r, false)
 else let x := dO 24 r; (-x.1, x.2.1, x.2.2)
theorem ZI (off : Int) (r : Str) : (y9 off r).2.1.length ≤ r.length := by
 unfold y9
 split
 ·exact Nat.le_refl _
 ·exact Jg 24 r
def JC (std : Str) (off : Int) (r : Str) (bad : Bool) : RuleV × Str × Bool :=
 let d := aB r
 let o := y9 off d.2.1
 let p := ay 44 o.2.1
 let a := yA p.2
 let q := ay 44 a.2.1
 let b := yA q.2
 (⟨std, d.1, off, o.1, a.1, b.1⟩, b.2.1, bad || d.2.2 || o.2.2 || !p.1 || a.2.2 || !q.1 || b.2.2)
def Nn (s : Str) : RuleV × Str × Bool :=
 let a := aB s
 let h := dO 24 a.2.1
 if h.2.1 = [] then (⟨a.1, [], -h.1, 0, .zero, .zero⟩, [], a.2.2 || h.2.2)
 else JC a.1 (-h.1) h.2.1 (a.2.2 || h.2.2)
def JD (s : Str) : Option RuleV :=
 if 100 < s.length then none
 else let x := Nn s; if x.2.2 = false ∧ x.2.1 = [] ∧ gL x.1 = true then some x.1 else none
theorem Jh (r : Str) : (aB r).1.length ≤ r.length := by
 have h1 := iY 60 r
 have h2 := xR xc (ay 60 r).2.length (ay 60 r).2
 have h3 := xR jH (ay 60 r).2.length (ay 60 r).2
 unfold aB
 dsimp only
 split <;> dsimp only <;> omega
theorem Vx (n : Nat) (r : Str) : uy n r [44] = some (decide (r.head? = some 44)) := by
 unfold uy
 cases r with
 | nil => rfl
 | cons c r =>
  have : Lib.hasPrefix (c :: r) [44] = (44 == c) := by simp [Lib.hasPrefix, List.isPrefixOf]
  rw [this, List.head?_cons]
  by_cases h : c = 44
  ·subst h; rfl
  ·have h' : ¬ (44 : UInt8) = c := fun e => h e.symm
   simp [h, h']
def Un (r : RuleV) (e : Int) : Str × Str × Int × Int × Int × Int × Int × Int × Int × Int × Int × Int × Int × Int × Int := (r.std, r.dst, r.off, r.doff, r.a.k, r.a.m, r.a.w, r.a.d, r.a.t, r.b.k, r.b.m, r.b.w, r.b.d, r.b.t, e)
theorem XP (n : Nat) (s : Str) (hn : 200 < n) : Bl n s = some (match JD s with | some r => Un r 0 | none => Un .zero 70) := by
 unfold Bl xB JD
 by_cases h100 : 100 < s.length
 ·rw [aa (by omega), if_pos h100]; rfl
 ·rw [ah (by omega), if_neg h100]
  have h1 := NW s
  have h1' := Jh s
  have h2 := Jg 24 (aB s).2.1
  have h2' := KS 24 (aB s).2.1
  rw [Rt n s false (by omega) (by omega)]
  simp only [Option.bind_some, Bool.false_or]
  rw [show (bu n (24 : Int) (aB s).2.1 (aB s).2.2) = _ from NY n 24 _ _ (by omega) (by omega)]
  simp only [Option.bind_some]
  rw [wi (0 - (dO 24 (aB s).2.1).1) (by omega) (by omega), Int.zero_sub]
  have fin : ∀ (r : RuleV) (t : Str) (bad : Bool), r.std.length ≤ 200 → r.dst.length ≤ 200 →
   cond bad (some (Un .zero 70)) (cond (!(t == ([] : Str))) (some (Un .zero 70)) ((uG n r.std r.dst r.off r.doff r.a.k r.a.m r.a.w r.a.d r.a.t r.b.k r.b.m r.b.w r.b.d r.b.t).bind fun o80 => cond (!o80) (some (Un .zero 70)) (some (Un r 0))))
   = some (match (if bad = false ∧ t = [] ∧ gL r = true then some r else none) with | some r => Un r 0 | none => Un .zero 70) := by
   intro r t bad g1 g2
   rw [right_val n _ _ _ _ _ _ _ _ _ _ _ _ _ _ (by omega) (by omega) (by omega) (by omega)]
   cases bad with
   | true => simp
   | false =>
    cases t with
    | cons c t => simp
    | nil => cases h : gL r <;> simp [h]
  by_cases he : (dO 24 (aB s).2.1).2.1 = []
  ·have hr : Nn s = (⟨(aB s).1, [], -(dO 24 (aB s).2.1).1, 0, .zero, .zero⟩, [], (aB s).2.2 || (dO 24 (aB s).2.1).2.2) := by unfold Nn; dsimp only; rw [if_pos he]
   rw [wm, o9, he]
   simp only [beq_self_eq_true, Bool.not_true, cond_false, Option.bind_some]
   rw [hr]
   exact fin ⟨(aB s).1, [], -(dO 24 (aB s).2.1).1, 0, .zero, .zero⟩ [] _ (by show (aB s).1.length ≤ 200; omega) (by simp)
  ·have hr : Nn s = JC (aB s).1 (-(dO 24 (aB s).2.1).1) (dO 24 (aB s).2.1).2.1 ((aB s).2.2 || (dO 24 (aB s).2.1).2.2) := by unfold Nn; dsimp only; rw [if_neg he]
   have hb : ((dO 24 (aB s).2.1).2.1 == ([] : Str)) = false := by simpa using he
   rw [wm, o9, hb]
   rw [hr]
   have hoff : -5000000 < -(dO 24 (aB s).2.1).1 ∧ -(dO 24 (aB s).2.1).1 < 5000000 := by omega
   generalize ((aB s).2.2 || (dO 24 (aB s).2.1).2.2) = bad
   generalize -(dO 24 (aB s).2.1).1 = off at *
   generalize (dO 24 (aB s).2.1).2.1 = r at *
   have k1 := NW r
   have k1' := Jh r
   have k2 := ZI off (aB r).2.1
   have k3 := iY 44 (y9 off (aB r).2.1).2.1
   have k4 := ZH (ay 44 (y9 off (aB r).2.1).2.1).2
   have k5 := iY 44 (yA (ay 44 (y9 off (aB r).2.1).2.1).2).2.1
   simp only [Bool.not_false, cond_true]
   rw [Rt n r bad (by omega) (by omega)]
   simp only [Option.bind_some]
   rw [zm, sH, Vx, Option.bind_some]
   have ho : ∀ (K : Int → Str → Bool → Option (Str × Str × Int × Int × Int × Int × Int × Int × Int × Int × Int × Int × Int × Int × Str × Bool × Str × Str × Int × Int × Int × Int × Int × Int × Int × Int × Int × Int × Int × Int)) (b' : Bool), -5000000 < off → off < 5000000 →
    cond (!decide ((aB r).2.1.head? = some 44)) ((bu n (24 : Int) (aB r).2.1 b').bind fun o49 => K (IntKind.i64.wrap (0 - o49.1)) o49.2.1 o49.2.2) (K (IntKind.i64.wrap (off + 3600)) (aB r).2.1 b')
    = K (y9 off (aB r).2.1).1 (y9 off (aB r).2.1).2.1 (b' || (y9 off (aB r).2.1).2.2) := by
    intro K b' hlo hhi
    unfold y9
    have hl := KS 24 (aB r).2.1
    by_cases hc : (aB r).2.1.head? = some 44
    ·rw [decide_eq_true hc, if_pos hc, wi (off + 3600) (by omega) (by omega)]
     simp
    ·rw [decide_eq_false hc, if_neg hc]
     rw [show (bu n (24 : Int) (aB r).2.1 b') = _ from NY n 24 _ _ (by omega) (by omega)]
     simp only [Option.bind_some, Bool.not_false, cond_true]
     rw [wi _ (by omega) (by omega), Int.zero_sub]
   have ho' := ho (fun x t b => some (([] : Str), ([] : Str), 0, 0, 0, 0, 0, 0, 0, 0, 0, 0, 0, 0, t, b, (aB s).1, (aB r).1, off, x, 0, 0, 0, 0, 0, 0, 0, 0, 0, 0)) (bad || (aB r).2.2) (by omega) (by omega)
   rw [ho']
   simp only [Option.bind_some]
   rw [Kr n 44 44]
   simp only [Option.bind_some]
   rw [WA n _ _ (by omega) (by omega)]
   simp only [Option.bind_some]
   rw [Kr n 44 44]
   simp only [Option.bind_some]
   rw [WA n _ _ (by omega) (by omega)]
   simp only [Option.bind_some]
   exact fin (JC (aB s).1 off r bad).1 (JC (aB s).1 off r bad).2.1 (JC (aB s).1 off r bad).2.2 (by show (aB s).1.length ≤ 200; omega) (by show (aB r).1.length ≤ 200; omega)
theorem Vy : ui [] = false := rfl
theorem XQ (r : Str) (h : (aB r).2.2 = false) : ui (aB r).1 = true := by
 unfold aB at h ⊢
 dsimp only at h ⊢
 split at h
 ·rename_i he; rw [if_pos he]; dsimp only at h ⊢; simp only [Bool.or_eq_false_iff, Bool.not_eq_eq_eq_not, Bool.not_false] at h; exact h.2
 ·rename_i he; rw [if_neg he]; dsimp only at h ⊢; simpa using h
end Go.Proofs.YtiegmpnagcdgoaaGreatDoor.H
namespace Go.Proofs.YtiegmpnagcdgoaaGreatDoor.H
open Go.Sh Go.RowKit
set_option linter.unusedSimpArgs false
set_option linter.unusedVariables false
theorem Ku (n : Nat) (b : UInt8) : iG n (b.toNat : Int) = some (jH b) := by
 have h := Gj (p := fun x => iG 0 (x : Int) = some (jH (UInt8.ofNat x))) (by decide +kernel) b
 rw [UInt8.ofNat_toNat] at h
 exact h
theorem Me (n : Nat) (b : UInt8) : gJ n (b.toNat : Int) = some (fK b) := by
 have h := Gj (p := fun x => gJ 0 (x : Int) = some (fK (UInt8.ofNat x))) (by decide +kernel) b
 rw [UInt8.ofNat_toNat] at h
 exact h
theorem Qi (n : Nat) (s : Str) (hs : s.length < 9223372036854775808) : ∀ (m i : Nat), s.length - i < m →
 gK n m s (i : Int) = some (if (s.drop i).all JB = true then Sum.inr () else Sum.inl ())
 | 0, i, hm => by omega
 | m + 1, i, hm => by
  rw [gK, jW, qi, jV]
  cases hd : s.drop i with
  | nil =>
   have := drop_nil hd
   rw [ah (by omega)]
   simp
  | cons c r =>
   obtain ⟨h1, h2, h3⟩ := kW hd
   rw [aa (by omega)]
   simp only [aa (show (0 : Int) ≤ (i : Int) by omega), Int.toNat_natCast, h1, Option.bind_some, Ku, Me]
   have e43 : ((c.toNat : Int) != 43) = (c != 43) := Kq c 43
   have e45 : ((c.toNat : Int) != 45) = (c != 45) := Kq c 45
   rw [e43, e45, wG i (by omega), Qi n s hs m (i + 1) (by omega), h2]
   have hn : JB c = (jH c || fK c || c == 43 || c == 45) := rfl
   simp only [List.all_cons, hn, bne]
   generalize jH c = v1, fK c = v2, (c == 43) = v3, (c == 45) = v4, r.all JB = v5
   cases v1 <;> cases v2 <;> cases v3 <;> cases v4 <;> cases v5 <;> rfl
theorem Ji (n : Nat) (s : Str) (hs : s.length < 9223372036854775808) (hn : s.length < n) : ig n s = some (ui s) := by
 unfold ig nG ui
 rw [show (0 : Int) = ((0 : Nat) : Int) from rfl, Qi n s hs n 0 (by omega), List.drop_zero]
 cases h : s.all JB with
 | false => simp
 | true =>
  simp only [Option.bind_some, if_true, Sum.elim_inr]
  rw [Nk, Bool.and_true]
  have e1 : decide ((s.length : Int) ≥ (3 : Int)) = decide (3 ≤ s.length) := by rw [decide_eq_decide]; omega
  have e2 : decide ((s.length : Int) ≤ (10 : Int)) = decide (s.length ≤ 10) := by rw [decide_eq_decide]; omega
  rw [e1, e2]
theorem NZ (n : Nat) (k m w d t : Int) : iM n k m w d t = some (qV ⟨k, m, w, d, t⟩) := by
 unfold iM oD q8 kE qV Gl
 by_cases h1 : t < -604799
 ·rw [aa h1]
  have : ¬ (-604799 ≤ t) := by omega
  simp [this]
 ·rw [ah h1]
  by_cases h2 : t > 604799
  ·have : ¬ (t ≤ 604799) := by omega
   simp [h2, this]
  ·have e1 : -604799 ≤ t := by omega
   have e2 : t ≤ 604799 := by omega
   simp only [h2, decide_false, Option.bind_some, cond_false, K7, Nk, e1, e2, decide_true, Bool.true_and, ge_iff_le, Bool.and_assoc]
   by_cases k1 : k = 1
   ·simp [k1]
   ·by_cases k2 : k = 2
    ·simp [k2]
    ·by_cases k3 : k = 3
     ·simp [k3]
     ·rw [decide_eq_false k1, decide_eq_false k2, decide_eq_false k3]
      simp [k1, k2, k3]
theorem Uo (n : Nat) (x : Int) : oG n x = some (Gl x 89999) := by
 unfold oG oF Gl
 rw [Nk]
theorem rright_val (n : Nat) (std dst : Str) (off doff k m w d t k' m' w' d' t' : Int) (hs : std.length < 9223372036854775808) (hn : std.length < n) (hs' : dst.length < 9223372036854775808) (hn' : dst.length < n) :
 jd n std dst off doff k m w d t k' m' w' d' t' = some (gL ⟨std, dst, off, doff, ⟨k, m, w, d, t⟩, ⟨k', m', w', d', t'⟩⟩) := by
 unfold jd lU gL
 rw [pu, jr, Ji n std hs hn]
 simp only [Option.bind_some]
 cases ui std with
 | false => simp
 | true =>
  simp only [Bool.not_true, cond_false, Bool.true_and, Uo, Option.bind_some]
  cases Gl off 89999 with
  | false => simp
  | true =>
   simp only [Bool.not_true, cond_false, Bool.true_and]
   by_cases hd : dst = []
   ·subst hd
    rw [pz, jv]
    have z : ∀ k m w d t : Int, ((k == 0) && ((m == 0) && ((w == 0) && ((d == 0) && ((t == 0) && true))))) = Qh ⟨k, m, w, d, t⟩ := fun k m w d t => by simp [Qh, Bool.and_assoc]
    simp only [beq_self_eq_true, cond_true, if_true, z]
    cases doff == 0 <;> cases Qh ⟨k, m, w, d, t⟩ <;> cases Qh ⟨k', m', w', d', t'⟩ <;> rfl
   ·have : (dst == ([] : Str)) = false := by simpa using hd
    rw [this, cond_false, Ji n dst hs' hn', if_neg hd]
    simp only [Option.bind_some, Uo, NZ, Rv, Bool.and_assoc]
end Go.Proofs.YtiegmpnagcdgoaaGreatDoor.H
namespace Go.Proofs.YtiegmpnagcdgoaaGreatDoor.H
open Go.Sh Go.RowKit
set_option linter.unusedSimpArgs false
set_option linter.unusedVariables false
def At (s r : Str) (i : Int) : Prop := r <:+ s ∧ i = ((s.length - r.length : Nat) : Int)
theorem At.nil {s : Str} {i : Int} (h : At s [] i) : i = (s.length : Int) := by simpa [At] using h.2
theorem At.le {s r : Str} {i : Int} (h : At s r i) : r.length ≤ s.length := h.1.length_le
theorem At.cons {s r : Str} {c : UInt8} {i : Int} (h : At s (c :: r) i) : ∃ k : Nat, i = (k : Int) ∧ k < s.length ∧ s[k]? = some c ∧ At s r ((k + 1 : Nat) : Int) := by
 obtain ⟨⟨p, hp⟩, hi⟩ := h
 subst hp
 refine ⟨p.length, ?_, ?_, ?_, ⟨⟨p ++ [c], by simp⟩, ?_⟩⟩
 ·rw [hi]; simp
 ·simp
 ·simp
 ·simp [List.length_append]; omega
theorem At.start (s : Str) : At s s 0 := ⟨List.suffix_refl s, by simp⟩
theorem At.part {s m r : Str} {i j : Int} (h : At s (m ++ r) i) (h2 : At s r j) : (s.take j.toNat).drop i.toNat = m := by
 obtain ⟨⟨p, hp⟩, hi⟩ := h
 subst hp
 have hj := h2.2
 subst hi hj
 simp only [Int.toNat_natCast]
 have e1 : (p ++ (m ++ r)).length - r.length = (p ++ m).length := by simp only [List.length_append]; omega
 have e2 : (p ++ (m ++ r)).length - (m ++ r).length = p.length := by simp only [List.length_append]; omega
 rw [e1, e2, ← List.append_assoc, List.take_left, List.drop_left]
theorem At.drop {s r : Str} {i : Int} (h : At s r i) (k : Nat) (hk : k ≤ r.length) : At s (r.drop k) (i + k) := by
 obtain ⟨h1, h2⟩ := h
 refine ⟨(List.drop_suffix k r).trans h1, ?_⟩
 have := h1.length_le
 rw [h2, List.length_drop]
 omega
theorem At.le2 {s r : Str} {i : Int} (h : At s r i) : 0 ≤ i ∧ i ≤ (s.length : Int) := by
 have := h.le
 rw [h.2]
 omega
theorem At.num {s r : Str} {i : Int} (h : At s r i) : i = (s.length : Int) - (r.length : Int) := by
 have := h.le
 rw [h.2]
 omega
def Np : Str → Int
 | [] => 0
 | c :: _ => (c.toNat : Int)
theorem Nq (n : Nat) {s r : Str} {i : Int} (h : At s r i) (b : Bool) : bT n s i b = some (Np r, s, i, b) := by
 unfold bT gQ
 cases r with
 | nil => rw [h.nil, ah (by omega)]; rfl
 | cons c r =>
  obtain ⟨k, rfl, h1, h2, h3⟩ := h.cons
  rw [aa (by omega), aa (by omega), Int.toNat_natCast, h2]
  rfl
theorem BR (n : Nat) (a : Int) (c : UInt8) {s r : Str} {i : Int} (h : At s r i) (b : Bool) (hs : s.length < 9223372036854775808) (ha : a = (c.toNat : Int) := by rfl) :
 ∃ j, aG n a s i b = some ((ay c r).1, s, j, b) ∧ At s (ay c r).2 j := by
 subst ha
 unfold aG iw ko fu
 cases r with
 | nil =>
  have := h.nil
  rw [aa (by omega)]
  exact ⟨i, rfl, h⟩
 | cons x r =>
  obtain ⟨k, rfl, h1, h2, h3⟩ := h.cons
  rw [ah (by omega), aa (by omega), Int.toNat_natCast, h2]
  simp only [Option.bind_some, Kq]
  by_cases hx : x = c
  ·subst hx
   refine ⟨((k + 1 : Nat) : Int), ?_, by simpa [ay] using h3⟩
   rw [wG k (by omega)]
   simp [ay]
  ·refine ⟨k, ?_, by simpa [ay, hx] using h⟩
   rw [show (x != c) = true by simpa using hx]
   simp [ay, hx]
theorem IG (n : Nat) (a : Int) (c : UInt8) {s r : Str} {i : Int} (h : At s r i) (b : Bool) (hs : s.length < 9223372036854775808) (ha : a = (c.toNat : Int) := by rfl) :
 ∃ j, bi n a s i b = some (s, j, b || !(ay c r).1) ∧ At s (ay c r).2 j := by
 obtain ⟨j, h1, h2⟩ := BR n a c h b hs ha
 refine ⟨j, ?_, h2⟩
 unfold bi gP
 rw [h1]
 cases he : (ay c r).1 <;> cases b <;> simp [he]
theorem Rw (p : UInt8 → Bool) (r : Str) : kw p r.length r = r.takeWhile p := by simp [kw]
theorem Qj (p : UInt8 → Bool) (k : Nat) (r : Str) : kw p k r ++ r.drop (kw p k r).length = r := by
 conv => rhs; rw [← List.take_append_drop (kw p k r).length r]
 rw [KR]
theorem Rx (n : Nat) (s : Str) (b : Bool) (hs : s.length < 9223372036854775808) : ∀ (m : Nat) (r : Str) (i : Int), r.length < m → At s r i →
 bG n m s i b = some (s, i + ((r.takeWhile xc).length : Int), b)
 | 0, r, i, hm, _ => by omega
 | m + 1, r, i, hm, h => by
  rw [bG, eX, jF, eU]
  cases r with
  | nil =>
   have := h.nil
   rw [ah (by omega)]
   simp
  | cons c r =>
   obtain ⟨k, rfl, h1, h2, h3⟩ := h.cons
   simp only [List.length_cons] at hm
   rw [aa (by omega), aa (by omega), Int.toNat_natCast, h2]
   have e : ((c.toNat : Int) != 62) = xc c := Kq c 62
   simp only [Option.bind_some, e]
   cases hc : xc c with
   | false => rw [List.takeWhile_cons_of_neg (by simp [hc])]; simp
   | true =>
    rw [List.takeWhile_cons_of_pos (by simp [hc]), cond_true, wG k (by omega), Rx n s b hs m r _ (by omega) h3]
    refine congrArg some (Prod.ext rfl (Prod.ext ?_ rfl))
    simp only [List.length_cons]
    omega
theorem OI (n : Nat) (s : Str) (b : Bool) (hs : s.length < 9223372036854775808) : ∀ (m : Nat) (r : Str) (i : Int), r.length < m → At s r i →
 bH n m s i b = some (s, i + ((r.takeWhile jH).length : Int), b)
 | 0, r, i, hm, _ => by omega
 | m + 1, r, i, hm, h => by
  rw [bH, eZ, Nq n h]
  cases r with
  | nil =>
   simp only [Option.bind_some, Np]
   rw [show iG n 0 = some false from Ku n 0]
   simp
  | cons c r =>
   obtain ⟨k, rfl, h1, h2, h3⟩ := h.cons
   simp only [List.length_cons] at hm
   simp only [Option.bind_some, Np, Ku]
   cases hc : jH c with
   | false => rw [List.takeWhile_cons_of_neg (by simp [hc])]; simp
   | true =>
    rw [List.takeWhile_cons_of_pos (by simp [hc]), cond_true, wG k (by omega), OI n s b hs m r _ (by omega) h3]
    refine congrArg some (Prod.ext rfl (Prod.ext ?_ rfl))
    simp only [List.length_cons]
    omega
theorem II (n : Nat) {s r : Str} {i : Int} (h : At s r i) (b : Bool) (hs : s.length < 9223372036854775808) (hn : s.length < n) :
 ∃ j, gU n s i b = some ((aB r).1, s, j, b || (aB r).2.2) ∧ At s (aB r).2.1 j := by
 obtain ⟨j, h1, h2⟩ := BR n 60 60 h b hs
 have hle := h.le
 have hl := iY 60 r
 unfold gU gT aB
 rw [h1]
 simp only [Option.bind_some]
 cases he : (ay 60 r).1 with
 | true =>
  simp only [cond_true, if_true]
  have hr := xR xc (ay 60 r).2.length (ay 60 r).2
  rw [Rx n s b hs n _ _ (by omega) h2]
  rw [← Rw]
  generalize hw : kw xc (ay 60 r).2.length (ay 60 r).2 = w at *
  have h3 := h2.drop w.length (by omega)
  have b2 := h2.le2
  have b3 := h3.le2
  simp only [Option.bind_some]
  rw [aa (by omega), aa (by omega), aa (by omega), aa (by omega)]
  obtain ⟨q, h4, h5⟩ := IG n 62 62 h3 b hs
  rw [h4]
  simp only [Option.bind_some]
  have hsp : w ++ (ay 60 r).2.drop w.length = (ay 60 r).2 := by rw [← hw]; exact Qj _ _ _
  rw [At.part (by rw [hsp]; exact h2) h3]
  rw [jG, eY, Ji n w (by omega) (by omega)]
  refine ⟨q, ?_, h5⟩
  cases b <;> cases (ay 62 ((ay 60 r).2.drop w.length)).1 <;> rfl
 | false =>
  have hz : (ay 60 r).2 = r ∧ j = i := by
   have hr : (ay 60 r).2 = r := by
    cases r with
    | nil => rfl
    | cons x r => by_cases hx : x = 60 <;> simp_all [ay]
   rw [hr] at h2
   exact ⟨hr, by rw [h2.2, h.2]⟩
  obtain ⟨hz1, rfl⟩ := hz
  simp only [cond_false, Bool.false_eq_true, if_false, hz1]
  have hr := xR jH r.length r
  rw [OI n s b hs n _ _ (by omega) h]
  rw [← Rw]
  generalize hw : kw jH r.length r = w at *
  have h3 := h.drop w.length (by omega)
  have b2 := h.le2
  have b3 := h3.le2
  simp only [Option.bind_some]
  rw [aa (by omega), aa (by omega), aa (by omega), aa (by omega)]
  have hsp : w ++ r.drop w.length = r := by rw [← hw]; exact Qj _ _ _
  rw [At.part (by rw [hsp]; exact h) h3, Ji n w (by omega) (by omega)]
  refine ⟨_, ?_, h3⟩
  cases b <;> rfl
end Go.Proofs.YtiegmpnagcdgoaaGreatDoor.H
namespace Go.Proofs.YtiegmpnagcdgoaaGreatDoor.H
open Go.Sh Go.RowKit
set_option linter.unusedSimpArgs false
set_option linter.unusedVariables false
theorem Ry (n : Nat) (s : Str) (b : Bool) (most : Nat) (hm3 : most ≤ 3) (hs : s.length < 9223372036854775808) : ∀ (m : Nat) (r d : Str) (i : Int), most - d.length < m → d.length ≤ most → d.all fK = true → At s r i →
 ∃ j, aQ n m (most : Int) (K6 d : Int) (d.length : Int) s i b = some (((K6 (d ++ kw fK (most - d.length) r) : Nat) : Int), (((d ++ kw fK (most - d.length) r).length : Nat) : Int), s, j, b) ∧ At s (r.drop (kw fK (most - d.length) r).length) j
 | 0, r, d, i, hm, _, _, _ => by omega
 | m + 1, r, d, i, hm, hl, hd, h => by
  rw [aQ, dI, iH, dH]
  by_cases hx : d.length < most
  ·rw [aa (by omega), Nq n h]
   simp only [Option.bind_some]
   obtain ⟨k, hk⟩ : ∃ k, most - d.length = k + 1 := ⟨most - d.length - 1, by omega⟩
   cases r with
   | nil =>
    rw [show gJ n (Np []) = some false from Me n 0]
    refine ⟨i, ?_, by simpa [kw] using h⟩
    simp [kw]
   | cons c r =>
    obtain ⟨q, rfl, h1, h2, h3⟩ := h.cons
    rw [show gJ n (Np (c :: r)) = some (fK c) from Me n c]
    simp only [Option.bind_some]
    cases hc : fK c with
    | false =>
     have hr : kw fK (most - d.length) (c :: r) = [] := by rw [hk, kw, List.take_succ_cons, List.takeWhile_cons_of_neg (by simp [hc])]
     rw [hr]
     refine ⟨_, ?_, by simpa using h⟩
     simp
    | true =>
     have hr : kw fK (most - d.length) (c :: r) = c :: kw fK k r := by rw [hk, kw, List.take_succ_cons, List.takeWhile_cons_of_pos (by simp [hc])]; rfl
     rw [hr, cond_true, Nq n h]
     simp only [Option.bind_some, Np]
     have hv := SK d (by omega) hd
     have hv3 : (10 : Nat) ^ d.length ≤ 10 ^ 3 := Nat.pow_le_pow_right (by omega) (by omega)
     have hcd := (Md c).1 hc
     have e1 : IntKind.i64.wrap (IntKind.i64.wrap (IntKind.i64.wrap (10 * (K6 d : Int)) + IntKind.i64.wrap (c.toNat : Int)) - 48) = ((K6 (d ++ [c]) : Nat) : Int) := by
      rw [wi (10 * _) (by omega) (by omega), wi (c.toNat : Int) (by omega) (by omega), wi (_ + _) (by omega) (by omega), wi (_ - _) (by omega) (by omega), XO]
      omega
     have e2 : IntKind.i64.wrap ((d.length : Int) + 1) = (((d ++ [c]).length : Nat) : Int) := by rw [wG _ (by omega), List.length_append]; rfl
     rw [e1, e2, wG q (by omega)]
     have hl2 : (d ++ [c]).length = d.length + 1 := by simp
     obtain ⟨j, h4, h5⟩ := Ry n s b most hm3 hs m r (d ++ [c]) _ (by omega) (by omega) (by simp [hd, hc]) h3
     rw [hl2, show most - (d.length + 1) = k by omega, ← hl2] at h4
     rw [hl2, show most - (d.length + 1) = k by omega] at h5
     refine ⟨j, ?_, by simpa using h5⟩
     rw [h4]
     simp
  ·rw [ah (by omega)]
   have hz : most - d.length = 0 := by omega
   refine ⟨i, ?_, by simpa [hz, kw] using h⟩
   simp [hz, kw]
theorem G6 (n a b : Nat) (ha : a ≤ 3) (hb : b ≤ 3) {s r : Str} {i : Int} (h : At s r i) (bad : Bool) (hs : s.length < 9223372036854775808) (hn : 5 < n) :
 ∃ j, ak n (a : Int) (b : Int) s i bad = some (((dD a b r).1 : Int), s, j, bad || (dD a b r).2.2) ∧ At s (dD a b r).2.1 j := by
 obtain ⟨j, h1, h2⟩ := Ry n s bad b hb hs n r [] i (by simp; omega) (by simp) (by simp) h
 unfold ak fA
 simp only [List.length_nil, Nat.sub_zero, List.nil_append] at h1 h2
 rw [show (0 : Int) = ((K6 [] : Nat) : Int) from rfl]
 change ∃ j, ((aQ n n (b : Int) ((K6 [] : Nat) : Int) ((0 : Nat) : Int) s i bad).bind _) = _ ∧ _
 rw [h1]
 refine ⟨j, ?_, h2⟩
 have hd : decide ((((kw fK b r).length : Nat) : Int) < (a : Int)) = decide ((kw fK b r).length < a) := by rw [decide_eq_decide]; omega
 simp only [Option.bind_some, dD, hd]
 cases bad <;> rfl
theorem XR (n : Nat) {s r : Str} {i : Int} (h : At s r i) (b : Bool) (hs : s.length < 9223372036854775808) :
 ∃ j, fB n 1 s i b = some ((uU r).1, s, j, b) ∧ At s (uU r).2 j := by
 unfold fB dS uU
 obtain ⟨j, h1, h2⟩ := BR n 45 45 h b hs
 rw [h1]
 simp only [Option.bind_some]
 cases he : (ay 45 r).1 with
 | true => exact ⟨j, rfl, h2⟩
 | false =>
  obtain ⟨q, h3, h4⟩ := BR n 43 43 h2 b hs
  simp only [cond_false]
  rw [h3]
  exact ⟨q, rfl, h4⟩
theorem Mf (n most : Nat) {s r : Str} {i : Int} (h : At s r i) (b : Bool) (hs : s.length < 9223372036854775808) (hn : 5 < n) :
 ∃ j, aJ n (most : Int) s i b = some ((dO most r).1, s, j, b || (dO most r).2.2) ∧ At s (dO most r).2.1 j := by
 unfold aJ fT dO
 obtain ⟨j1, h1, a1⟩ := XR n h b hs
 rw [h1]
 simp only [Option.bind_some]
 obtain ⟨j2, h2, a2⟩ := G6 n 1 3 (by omega) (by omega) a1 b hs hn
 rw [show ak n (1 : Int) (3 : Int) s j1 b = _ from h2]
 simp only [Option.bind_some]
 have l2 := EP 1 3 (uU r).2 (by omega)
 generalize dD 1 3 (uU r).2 = hh at *
 rw [jb, dU]
 unfold minS
 obtain ⟨j3, h3, a3⟩ := BR n 58 58 a2 (b || hh.2.2) hs
 rw [h3]
 simp only [Option.bind_some]
 have sg := Qg r
 have fin : ∀ (m sc : Nat) (bad : Bool) (j : Int), m < 1000 → sc < 1000 →
  ((fC n (most : Int) (hh.1 : Int) (m : Int) (sc : Int) s j bad).bind fun o127 => some (IntKind.i64.wrap ((uU r).1 * (IntKind.i64.wrap ((IntKind.i64.wrap ((IntKind.i64.wrap ((3600 : Int) * (hh.1 : Int))) + (IntKind.i64.wrap ((60 : Int) * (m : Int))))) + (sc : Int)))), o127.1, o127.2.1, o127.2.2))
  = some ((uU r).1 * (3600 * (hh.1 : Int) + (60 * (m : Int) + (sc : Int))), s, j, bad || decide (most < hh.1) || decide (60 ≤ m) || decide (60 ≤ sc)) := by
  intro m sc bad j hm hsc
  rw [fC, dV]
  have e1 : decide ((hh.1 : Int) > (most : Int)) = decide (most < hh.1) := by rw [decide_eq_decide]; omega
  have e2 : decide ((m : Int) > (59 : Int)) = decide (60 ≤ m) := by rw [decide_eq_decide]; omega
  have e3 : decide ((sc : Int) > (59 : Int)) = decide (60 ≤ sc) := by rw [decide_eq_decide]; omega
  rw [e1, e2, e3, wi (3600 * _) (by omega) (by omega), wi (60 * _) (by omega) (by omega), wi (3600 * (hh.1 : Int) + _) (by omega) (by omega), wi (3600 * (hh.1 : Int) + _ + _) (by omega) (by omega)]
  have e4 : IntKind.i64.wrap ((uU r).1 * (3600 * (hh.1 : Int) + 60 * (m : Int) + (sc : Int))) = (uU r).1 * (3600 * (hh.1 : Int) + (60 * (m : Int) + (sc : Int))) := by
   rcases sg with g | g <;> rw [g, wi _ (by omega) (by omega)] <;> omega
  rw [e4]
  cases bad <;> cases decide (most < hh.1) <;> cases decide (60 ≤ m) <;> cases decide (60 ≤ sc) <;> rfl
 cases he : (ay 58 hh.2.1).1 with
 | false =>
  simp only [cond_false, Bool.false_eq_true, if_false, Option.bind_some]
  refine ⟨j3, ?_, a3⟩
  rw [show (0 : Int) = ((0 : Nat) : Int) from rfl, fin 0 0 _ _ (by omega) (by omega)]
  simp [Bool.or_assoc]
 | true =>
  simp only [cond_true, if_true]
  obtain ⟨j4, h4, a4⟩ := G6 n 2 2 (by omega) (by omega) a3 (b || hh.2.2) hs hn
  rw [show ak n (2 : Int) (2 : Int) s j3 (b || hh.2.2) = _ from h4]
  simp only [Option.bind_some]
  have l4 := EP 2 2 (ay 58 hh.2.1).2 (by omega)
  generalize dD 2 2 (ay 58 hh.2.1).2 = mm at *
  obtain ⟨j5, h5, a5⟩ := BR n 58 58 a4 (b || hh.2.2 || mm.2.2) hs
  rw [h5]
  simp only [Option.bind_some]
  cases hf : (ay 58 mm.2.1).1 with
  | false =>
   simp only [cond_false, Bool.false_eq_true, if_false, Option.bind_some]
   refine ⟨j5, ?_, a5⟩
   rw [show (0 : Int) = ((0 : Nat) : Int) from rfl, fin mm.1 0 _ _ l4 (by omega)]
   cases b <;> cases hh.2.2 <;> cases mm.2.2 <;> cases decide (most < hh.1) <;> cases decide (60 ≤ mm.1) <;> simp
  | true =>
   simp only [cond_true, if_true]
   obtain ⟨j6, h6, a6⟩ := G6 n 2 2 (by omega) (by omega) a5 (b || hh.2.2 || mm.2.2) hs hn
   rw [show ak n (2 : Int) (2 : Int) s j5 (b || hh.2.2 || mm.2.2) = _ from h6]
   simp only [Option.bind_some]
   have l6 := EP 2 2 (ay 58 mm.2.1).2 (by omega)
   generalize dD 2 2 (ay 58 mm.2.1).2 = ss at *
   refine ⟨j6, ?_, a6⟩
   rw [fin mm.1 ss.1 _ _ l4 l6]
   cases b <;> cases hh.2.2 <;> cases mm.2.2 <;> cases ss.2.2 <;> cases decide (most < hh.1) <;> cases decide (60 ≤ mm.1) <;> cases decide (60 ≤ ss.1) <;> rfl
theorem Uq (n : Nat) {s r : Str} {i : Int} (h : At s r i) (b : Bool) (hs : s.length < 9223372036854775808) (hn : 5 < n) :
 ∃ j, iB n s i b = some ((yA r).1.k, (yA r).1.m, (yA r).1.w, (yA r).1.d, (yA r).1.t, s, j, b || (yA r).2.2 || !qV (yA r).1) ∧ At s (yA r).2.1 j := by
 have num : ∀ {r : Str} {i : Int} (h : At s r i) (bad : Bool), ∃ j, ak n (1 : Int) (3 : Int) s i bad = some (((dD 1 3 r).1 : Int), s, j, bad || (dD 1 3 r).2.2) ∧ At s (dD 1 3 r).2.1 j := fun h bad => G6 n 1 3 (by omega) (by omega) h bad hs hn
 have tail : ∀ (k m w : Int) (r : Str) (d : Nat) (i : Int) (bad bad0 : Bool) (dd : Nat × Str × Bool), dd = dD 1 3 r → At s dd.2.1 i →
  ∃ j, ((gV n s i (b || bad || dd.2.2) 0 0 0 0 0 k m w dd.1 7200).bind fun o147 => cond o147.2.2.1 (some (o147.2.2.2.2.2.2.2.2.1, o147.2.2.2.2.2.2.2.2.2.1, o147.2.2.2.2.2.2.2.2.2.2.1, o147.2.2.2.2.2.2.2.2.2.2.2.1, o147.2.2.2.2.2.2.2.2.2.2.2.2, o147.1, o147.2.1, true)) ((iM n o147.2.2.2.2.2.2.2.2.1 o147.2.2.2.2.2.2.2.2.2.1 o147.2.2.2.2.2.2.2.2.2.2.1 o147.2.2.2.2.2.2.2.2.2.2.2.1 o147.2.2.2.2.2.2.2.2.2.2.2.2).bind fun o149 => some (o147.2.2.2.2.2.2.2.2.1, o147.2.2.2.2.2.2.2.2.2.1, o147.2.2.2.2.2.2.2.2.2.2.1, o147.2.2.2.2.2.2.2.2.2.2.2.1, o147.2.2.2.2.2.2.2.2.2.2.2.2, o147.1, o147.2.1, !o149)))
  = some ((nu k m w r bad).1.k, (nu k m w r bad).1.m, (nu k m w r bad).1.w, (nu k m w r bad).1.d, (nu k m w r bad).1.t, s, j, b || (nu k m w r bad).2.2 || !qV (nu k m w r bad).1) ∧ At s (nu k m w r bad).2.1 j := by
  intro k m w r d i bad bad0 dd hdd a
  subst hdd
  unfold nu
  rw [gV, fE]
  obtain ⟨j1, h1, a1⟩ := BR n 47 47 a (b || bad || (dD 1 3 r).2.2) hs
  rw [h1]
  simp only [Option.bind_some]
  cases he : (ay 47 (dD 1 3 r).2.1).1 with
  | true =>
   obtain ⟨j2, h2, a2⟩ := Mf n 167 a1 (b || bad || (dD 1 3 r).2.2) hs hn
   simp only [cond_true, if_true]
   rw [show aJ n (167 : Int) s j1 (b || bad || (dD 1 3 r).2.2) = _ from h2]
   simp only [Option.bind_some, NZ]
   refine ⟨j2, ?_, a2⟩
   generalize qV _ = ok
   cases b <;> cases bad <;> cases (dD 1 3 r).2.2 <;> cases (dO 167 (ay 47 (dD 1 3 r).2.1).2).2.2 <;> cases ok <;> rfl
  | false =>
   simp only [cond_false, Bool.false_eq_true, if_false, Option.bind_some, NZ]
   refine ⟨j1, ?_, a1⟩
   generalize qV _ = ok
   cases b <;> cases bad <;> cases (dD 1 3 r).2.2 <;> cases ok <;> rfl
 unfold iB iA yA
 rw [kr, fD]
 obtain ⟨j1, h1, a1⟩ := BR n 74 74 h b hs
 rw [h1]
 simp only [Option.bind_some]
 cases he : (ay 74 r).1 with
 | true =>
  obtain ⟨j2, h2, a2⟩ := num a1 b
  simp only [cond_true, if_true]
  rw [h2]
  simp only [Option.bind_some]
  have := tail 1 0 0 _ 0 j2 false false _ rfl a2
  rw [Bool.or_false] at this
  exact this
 | false =>
  simp only [cond_false, Bool.false_eq_true, if_false]
  obtain ⟨j2, h2, a2⟩ := BR n 77 77 a1 b hs
  rw [h2]
  simp only [Option.bind_some]
  cases hf : (ay 77 (ay 74 r).2).1 with
  | false =>
   obtain ⟨j3, h3, a3⟩ := num a2 b
   simp only [cond_false, Bool.false_eq_true, if_false]
   rw [h3]
   simp only [Option.bind_some]
   have := tail 2 0 0 _ 0 j3 false false _ rfl a3
   rw [Bool.or_false] at this
   exact this
  | true =>
   simp only [cond_true, if_true]
   obtain ⟨j3, h3, a3⟩ := num a2 b
   rw [h3]
   simp only [Option.bind_some]
   obtain ⟨j4, h4, a4⟩ := IG n 46 46 a3 (b || (dD 1 3 (ay 77 (ay 74 r).2).2).2.2) hs
   rw [h4]
   simp only [Option.bind_some]
   obtain ⟨j5, h5, a5⟩ := num a4 (b || (dD 1 3 (ay 77 (ay 74 r).2).2).2.2 || !(ay 46 (dD 1 3 (ay 77 (ay 74 r).2).2).2.1).1)
   rw [h5]
   simp only [Option.bind_some]
   obtain ⟨j6, h6, a6⟩ := IG n 46 46 a5 (b || (dD 1 3 (ay 77 (ay 74 r).2).2).2.2 || !(ay 46 (dD 1 3 (ay 77 (ay 74 r).2).2).2.1).1 || (dD 1 3 (ay 46 (dD 1 3 (ay 77 (ay 74 r).2).2).2.1).2).2.2) hs
   rw [h6]
   simp only [Option.bind_some]
   obtain ⟨j7, h7, a7⟩ := num a6 (b || (dD 1 3 (ay 77 (ay 74 r).2).2).2.2 || !(ay 46 (dD 1 3 (ay 77 (ay 74 r).2).2).2.1).1 || (dD 1 3 (ay 46 (dD 1 3 (ay 77 (ay 74 r).2).2).2.1).2).2.2 || !(ay 46 (dD 1 3 (ay 46 (dD 1 3 (ay 77 (ay 74 r).2).2).2.1).2).2.1).1)
   rw [h7]
   simp only [Option.bind_some]
   have := tail 3 (dD 1 3 (ay 77 (ay 74 r).2).2).1 (dD 1 3 (ay 46 (dD 1 3 (ay 77 (ay 74 r).2).2).2.1).2).1 _ 0 j7 ((dD 1 3 (ay 77 (ay 74 r).2).2).2.2 || !(ay 46 (dD 1 3 (ay 77 (ay 74 r).2).2).2.1).1 || (dD 1 3 (ay 46 (dD 1 3 (ay 77 (ay 74 r).2).2).2.1).2).2.2 || !(ay 46 (dD 1 3 (ay 46 (dD 1 3 (ay 77 (ay 74 r).2).2).2.1).2).2.1).1) false _ rfl a7
   simp only [← Bool.or_assoc] at this ⊢
   exact this
end Go.Proofs.YtiegmpnagcdgoaaGreatDoor.H
namespace Go.Proofs.YtiegmpnagcdgoaaGreatDoor.H
open Go.Sh Go.RowKit
set_option linter.unusedSimpArgs false
set_option linter.unusedVariables false
def Ur (r : RuleV) (e : Bool) : Str × Str × Int × Int × Int × Int × Int × Int × Int × Int × Int × Int × Int × Int × Bool := (r.std, r.dst, r.off, r.doff, r.a.k, r.a.m, r.a.w, r.a.d, r.a.t, r.b.k, r.b.m, r.b.w, r.b.d, r.b.t, e)
theorem Vz (n : Nat) (s : Str) (hn : 200 < n) : qj n s = some (match JD s with | some r => Ur r true | none => Ur .zero false) := by
 unfold qj lV JD
 by_cases h100 : 100 < s.length
 ·rw [aa (by omega), if_pos h100]; rfl
 ·rw [ah (by omega), if_neg h100]
  have h1 := NW s
  have h1' := Jh s
  have h2 := Jg 24 (aB s).2.1
  have h2' := KS 24 (aB s).2.1
  obtain ⟨j1, k1, a1⟩ := II n (At.start s) false (by omega) (by omega)
  rw [k1]
  simp only [Option.bind_some, Bool.false_or]
  obtain ⟨j2, k2, a2⟩ := Mf n 24 a1 (aB s).2.2 (by omega) (by omega)
  rw [show aJ n (24 : Int) s j1 (aB s).2.2 = _ from k2]
  simp only [Option.bind_some]
  rw [wi (0 - (dO 24 (aB s).2.1).1) (by omega) (by omega), Int.zero_sub]
  have fin : ∀ (r : RuleV) (t : Str) (i : Int) (bad bad' : Bool), At s t i → r.std.length ≤ 200 → r.dst.length ≤ 200 → (bad = false → bad' = true → gL r = false) → (bad = true → bad' = true) →
   cond bad' (some (Ur .zero false)) (cond (i != (s.length : Int)) (some (Ur .zero false)) ((jd n r.std r.dst r.off r.doff r.a.k r.a.m r.a.w r.a.d r.a.t r.b.k r.b.m r.b.w r.b.d r.b.t).bind fun o80 => cond (!o80) (some (Ur .zero false)) (some (Ur r true))))
   = some (match (if bad = false ∧ t = [] ∧ gL r = true then some r else none) with | some r => Ur r true | none => Ur .zero false) := by
   intro r t i bad bad' a g1 g2 g3 g4
   rw [rright_val n _ _ _ _ _ _ _ _ _ _ _ _ _ _ (by omega) (by omega) (by omega) (by omega)]
   have hi : (i != (s.length : Int)) = !decide (t = []) := by
    have hnum := a.num
    cases t with
    | nil => simp at hnum; simp [hnum]
    | cons c t =>
     have : ¬ i = (s.length : Int) := by simp only [List.length_cons] at hnum; omega
     simp [this]
   rw [hi]
   cases bad with
   | true => rw [g4 rfl]; simp
   | false =>
    cases bad' with
    | true => rw [g3 rfl rfl]; simp
    | false =>
     cases t with
     | cons c t => simp
     | nil => cases h : gL r <;> simp [h]
  by_cases he : (dO 24 (aB s).2.1).2.1 = []
  ·have hr : Nn s = (⟨(aB s).1, [], -(dO 24 (aB s).2.1).1, 0, .zero, .zero⟩, [], (aB s).2.2 || (dO 24 (aB s).2.1).2.2) := by unfold Nn; dsimp only; rw [if_pos he]
   rw [he] at a2
   have hj := a2.nil
   rw [kH, gG, kG, gF, ah (by omega)]
   simp only [Option.bind_some, cond_false]
   rw [hr]
   exact fin ⟨(aB s).1, [], -(dO 24 (aB s).2.1).1, 0, .zero, .zero⟩ [] j2 _ _ a2 (by show (aB s).1.length ≤ 200; omega) (by simp) (fun h h' => by cases h.symm.trans h') (fun h => h)
  ·have hr : Nn s = JC (aB s).1 (-(dO 24 (aB s).2.1).1) (dO 24 (aB s).2.1).2.1 ((aB s).2.2 || (dO 24 (aB s).2.1).2.2) := by unfold Nn; dsimp only; rw [if_neg he]
   have hlt : j2 < (s.length : Int) := by
    have hnum := a2.num
    have : 0 < (dO 24 (aB s).2.1).2.1.length := List.length_pos_iff.2 he
    omega
   rw [kH, gG, kG, gF, aa hlt]
   simp only [Option.bind_some]
   rw [hr]
   have hoff : -5000000 < -(dO 24 (aB s).2.1).1 ∧ -(dO 24 (aB s).2.1).1 < 5000000 := by omega
   generalize ((aB s).2.2 || (dO 24 (aB s).2.1).2.2) = bad at *
   generalize -(dO 24 (aB s).2.1).1 = off at *
   generalize (dO 24 (aB s).2.1).2.1 = r at *
   cases bad with
   | true =>
    simp only [Bool.not_true, cond_false, Option.bind_some, cond_true]
    unfold JC
    simp
    rfl
   | false =>
    simp only [Bool.not_false, cond_true]
    obtain ⟨j3, k3, a3⟩ := II n a2 false (by omega) (by omega)
    have l3 := Jh r
    rw [k3]
    simp only [Option.bind_some, Bool.false_or]
    rw [pE, jy, Nq n a3]
    simp only [Option.bind_some]
    have hhd : (Np (aB r).2.1 != 44) = !decide ((aB r).2.1.head? = some 44) := by
     cases (aB r).2.1 with
     | nil => rfl
     | cons c q =>
      rw [show (Np (c :: q) != 44) = (c != 44) from Kq c 44, List.head?_cons]
      by_cases h : c = 44 <;> simp [h]
    have ho : ∀ (K : Int → Str → Int → Bool → Option (Str × Str × Int × Int × Int × Int × Int × Int × Int × Int × Int × Int × Int × Int × Str × Int × Bool × Str × Str × Int × Int × Int × Int × Int × Int × Int × Int × Int × Int × Int × Int)) (b' : Bool),
     ∃ j, cond (Np (aB r).2.1 != 44) ((aJ n (24 : Int) s j3 b').bind fun o49 => K (IntKind.i64.wrap (0 - o49.1)) o49.2.1 o49.2.2.1 o49.2.2.2) (K (IntKind.i64.wrap (off + 3600)) s j3 b')
      = K (y9 off (aB r).2.1).1 s j (b' || (y9 off (aB r).2.1).2.2) ∧ At s (y9 off (aB r).2.1).2.1 j := by
     intro K b'
     unfold y9
     rw [hhd]
     have hl := KS 24 (aB r).2.1
     by_cases hc : (aB r).2.1.head? = some 44
     ·rw [decide_eq_true hc, if_pos hc, wi (off + 3600) (by omega) (by omega)]
      exact ⟨j3, by simp, a3⟩
     ·rw [decide_eq_false hc, if_neg hc]
      obtain ⟨q, g1, g2⟩ := Mf n 24 a3 b' (by omega) (by omega)
      refine ⟨q, ?_, g2⟩
      rw [show aJ n (24 : Int) s j3 b' = _ from g1]
      simp only [Option.bind_some, Bool.not_false, cond_true]
      rw [wi _ (by omega) (by omega), Int.zero_sub]
    obtain ⟨j4, k4, a4⟩ := ho (fun x t i b => some (([] : Str), ([] : Str), 0, 0, 0, 0, 0, 0, 0, 0, 0, 0, 0, 0, t, i, b, (aB s).1, (aB r).1, off, x, 0, 0, 0, 0, 0, 0, 0, 0, 0, 0)) (aB r).2.2
    rw [k4]
    simp only [Option.bind_some]
    obtain ⟨j5, k5, a5⟩ := IG n 44 44 a4 ((aB r).2.2 || (y9 off (aB r).2.1).2.2) (by omega)
    rw [k5]
    simp only [Option.bind_some]
    obtain ⟨j6, k6, a6⟩ := Uq n a5 ((aB r).2.2 || (y9 off (aB r).2.1).2.2 || !(ay 44 (y9 off (aB r).2.1).2.1).1) (by omega) (by omega)
    rw [k6]
    simp only [Option.bind_some]
    obtain ⟨j7, k7, a7⟩ := IG n 44 44 a6 ((aB r).2.2 || (y9 off (aB r).2.1).2.2 || !(ay 44 (y9 off (aB r).2.1).2.1).1 || (yA (ay 44 (y9 off (aB r).2.1).2.1).2).2.2 || !qV (yA (ay 44 (y9 off (aB r).2.1).2.1).2).1) (by omega)
    rw [k7]
    simp only [Option.bind_some]
    obtain ⟨j8, k8, a8⟩ := Uq n a7 ((aB r).2.2 || (y9 off (aB r).2.1).2.2 || !(ay 44 (y9 off (aB r).2.1).2.1).1 || (yA (ay 44 (y9 off (aB r).2.1).2.1).2).2.2 || !qV (yA (ay 44 (y9 off (aB r).2.1).2.1).2).1 || !(ay 44 (yA (ay 44 (y9 off (aB r).2.1).2.1).2).2.1).1) (by omega) (by omega)
    rw [k8]
    simp only [Option.bind_some]
    refine fin (JC (aB s).1 off r false).1 (JC (aB s).1 off r false).2.1 j8 (JC (aB s).1 off r false).2.2 _ a8 (by show (aB s).1.length ≤ 200; omega) (by show (aB r).1.length ≤ 200; have := a2.le; omega) ?_ ?_
    ·unfold JC
     dsimp only
     intro g1 g2
     unfold gL
     dsimp only
     have hne : ¬ (aB r).1 = [] := by
      intro hz
      simp only [Bool.or_eq_false_iff, Bool.false_or] at g1
      have := XQ r g1.1.1.1.1.1
      rw [hz, Vy] at this
      cases this
     rw [if_neg hne]
     revert g1 g2
     cases qV (yA (ay 44 (y9 off (aB r).2.1).2.1).2).1 <;> cases qV (yA (ay 44 (yA (ay 44 (y9 off (aB r).2.1).2.1).2).2.1).2).1 <;> simp
     intro q1 q2 q3 q4 q5 q6
     simp_all
    ·unfold JC
     dsimp only
     intro g1
     revert g1
     generalize (aB r).2.2 = v1
     generalize (y9 off (aB r).2.1).2.2 = v2
     generalize (ay 44 (y9 off (aB r).2.1).2.1).1 = v3
     generalize (ay 44 (yA (ay 44 (y9 off (aB r).2.1).2.1).2).2.1).1 = v4
     generalize yA (ay 44 (y9 off (aB r).2.1).2.1).2 = v5
     generalize yA (ay 44 v5.2.1).2 = v6
     cases v1 <;> cases v2 <;> cases v3 <;> cases v4 <;> cases v5.2.2 <;> cases v6.2.2 <;> simp
end Go.Proofs.YtiegmpnagcdgoaaGreatDoor.H
namespace Go.Proofs.YtiegmpnagcdgoaaGreatDoor.H
open Go.Sh Go.RowKit
set_option linter.unusedSimpArgs false
set_option linter.unusedVariables false
theorem KT {d : DayV} (h : qV d = true) : -604799 ≤ d.t ∧ d.t ≤ 604799 ∧ 0 ≤ d.d ∧ d.d ≤ 365 ∧ 0 ≤ d.m ∧ d.m ≤ 12 ∧ 0 ≤ d.w ∧ d.w ≤ 5 ∧ (d.k = 1 ∨ d.k = 2 ∨ d.k = 3 ∧ 1 ≤ d.m ∧ 1 ≤ d.w ∧ d.d ≤ 6) ∧ (d.k = 1 → 1 ≤ d.d) := by
 unfold qV Gl at h
 simp only [Bool.and_eq_true, decide_eq_true_eq] at h
 obtain ⟨⟨h1, h2⟩, h⟩ := h
 split at h
 ·simp only [Bool.and_eq_true, decide_eq_true_eq] at h; omega
 ·split at h
  ·simp only [Bool.and_eq_true, decide_eq_true_eq] at h; omega
  ·split at h
   ·simp only [Bool.and_eq_true, decide_eq_true_eq] at h; omega
   ·cases h
def Ai (y : Int) : Bool := decide (y % 4 = 0) && (decide (y % 100 ≠ 0) || decide (y % 400 = 0))
def za (y m : Int) : Int := if m = 2 then (if Ai y = true then 29 else 28) else if m = 4 ∨ m = 6 ∨ m = 9 ∨ m = 11 then 30 else 31
def pG (y m d : Int) : Int :=
 (if m ≤ 2 then y - 1 else y) / 400 * 146097 + ((if m ≤ 2 then y - 1 else y) % 400 * 365 + (if m ≤ 2 then y - 1 else y) % 400 / 4 - (if m ≤ 2 then y - 1 else y) % 400 / 100) + (153 * ((m + 9) % 12) + 2) / 5 + d - 1 - 719468
theorem Rz (y : Int) : Ai y = true ↔ y % 4 = 0 ∧ (y % 100 ≠ 0 ∨ y % 400 = 0) := by
 unfold Ai
 simp only [Bool.and_eq_true, Bool.or_eq_true, decide_eq_true_eq]
theorem ZJ (n : Nat) (y : Int) (h : 0 ≤ y) : EL n y = some (Ai y) := by
 unfold EL BF Ai
 rw [Int.tmod_eq_emod_of_nonneg h, Int.tmod_eq_emod_of_nonneg h, Int.tmod_eq_emod_of_nonneg h, bne, K7, K7, K7]
 by_cases h1 : y % 4 = 0 <;> by_cases h2 : y % 100 = 0 <;> by_cases h3 : y % 400 = 0 <;> simp [h1, h2, h3]
theorem abI (n : Nat) (y m : Int) (hy : 1 ≤ y ∧ y ≤ 9999) (hm : 1 ≤ m ∧ m ≤ 12) : tV n y m = some false := by
 rw [tV, si, ah (by omega), ah (by omega), ah (by omega), decide_eq_false (by omega)]
theorem Nr (n : Nat) (y m : Int) (hy : 1 ≤ y ∧ y ≤ 9999) (hm : 1 ≤ m ∧ m ≤ 12) : sJ n y m = some (za y m) := by
 unfold sJ yf za
 rw [abI n y m hy hm, ZJ n y (by omega)]
 have : m = 1 ∨ m = 2 ∨ m = 3 ∨ m = 4 ∨ m = 5 ∨ m = 6 ∨ m = 7 ∨ m = 8 ∨ m = 9 ∨ m = 10 ∨ m = 11 ∨ m = 12 := by omega
 rcases this with h | h | h | h | h | h | h | h | h | h | h | h <;> subst h
 case inr.inl => cases Ai y <;> rfl
 all_goals rfl
theorem Gm (y m : Int) : 28 ≤ za y m ∧ za y m ≤ 31 := by
 unfold za
 split
 ·split <;> omega
 ·split <;> omega
theorem td0 {a b : Int} (h : 0 ≤ a) : a.tdiv b = a / b := Int.tdiv_eq_ediv_of_nonneg h
theorem tm0 {a b : Int} (h : 0 ≤ a) : a.tmod b = a % b := Int.tmod_eq_emod_of_nonneg h
theorem Kv (n : Nat) (y m d : Int) (hy : 1 ≤ y ∧ y ≤ 9999) (hm : 1 ≤ m ∧ m ≤ 12) (hd : 1 ≤ d ∧ d ≤ 31) : vG n y m d = some (pG y m d) := by
 unfold vG BC FW xG pG
 rw [CY, wy]
 by_cases h : m ≤ 2
 ·rw [aa h]
  simp only [Option.bind_some, if_pos h]
  simp (disch := omega) only [wi, td0, tm0]
 ·rw [ah h]
  simp only [Option.bind_some, if_neg h]
  simp (disch := omega) only [wi, td0, tm0]
theorem Qk (n : Nat) (y m : Int) (hy : 1 ≤ y ∧ y ≤ 9999) (hm : 1 ≤ m ∧ m ≤ 12) : tX n y m 1 = some true := by
 unfold tX wK
 have := Gm y m
 rw [aa (by omega), Nr n y m hy hm]
 simp only [Option.bind_some]
 rw [decide_eq_true (by omega)]
theorem Us (n : Nat) (y m : Int) (hy : 1 ≤ y ∧ y ≤ 9999) (hm : 1 ≤ m ∧ m ≤ 12) : vH n y m 1 = some (pG y m 1, 0) := by
 unfold vH yg
 rw [Qk n y m hy hm, Kv n y m 1 hy hm (by omega)]
 rfl
theorem RA (n : Nat) (x : Int) (h : -9223372036854775808 ≤ x ∧ x ≤ 9223372036854775807) : BB n x = some (if x < 0 then 1 else 0) := by
 unfold BB BA
 by_cases hx : x < 0
 ·rw [if_pos hx]
  have : IntKind.u64.wrap x = x + 18446744073709551616 := by simp [IntKind.wrap, IntKind.bits, IntKind.signed]; omega
  rw [this, show ((2 : Int) ^ 63) = 9223372036854775808 from rfl, Int.fdiv_eq_ediv_of_nonneg _ (by omega)]
  congr 1
  omega
 ·rw [if_neg hx]
  have : IntKind.u64.wrap x = x := by simp [IntKind.wrap, IntKind.bits, IntKind.signed]; omega
  rw [this, show ((2 : Int) ^ 63) = 9223372036854775808 from rfl, Int.fdiv_eq_ediv_of_nonneg _ (by omega)]
  congr 1
  omega
theorem aaS (n : Nat) (a : Int) (h : -1000000000000 ≤ a ∧ a ≤ 1000000000000) : FV n a 7 = some (a / 7, a % 7, true) := by
 unfold FV FU
 rw [GN, yS]
 rw [show ((7 : Int) == 0) = false from rfl, show ((7 : Int) == -1) = false from rfl]
 simp only [cond_false, Option.bind_some]
 have htm : -7 < Int.tmod a 7 ∧ Int.tmod a 7 < 7 := by
  by_cases ha : 0 ≤ a
  ·rw [tm0 ha]; omega
  ·obtain ⟨b, rfl⟩ : ∃ b : Int, a = -b := ⟨-a, by omega⟩
   rw [Int.neg_tmod, tm0 (by omega)]; omega
 rw [GQ, yT, RA n _ (by omega), RA n 7 (by omega)]
 simp only [Option.bind_some]
 by_cases ha : 0 ≤ a
 ·rw [tm0 ha, td0 ha]
  rw [if_neg (by omega), if_neg (by omega)]
  simp (disch := omega) only [wi]
  rw [show ((0 : Int) != 0) = false from rfl]
  cases (a % 7 != 0) <;> rfl
 ·obtain ⟨b, rfl⟩ : ∃ b : Int, a = -b := ⟨-a, by omega⟩
  rw [Int.neg_tmod, Int.neg_tdiv, tm0 (by omega), td0 (by omega)]
  by_cases hz : b % 7 = 0
  ·rw [show (-(b % 7) != 0) = false by simp [hz]]
   simp only [cond_false, Option.bind_some]
   simp (disch := omega) only [wi]
   congr 2
   ·omega
   ·congr 1
    omega
  ·rw [show (-(b % 7) != 0) = true by simp [hz]]
   rw [if_pos (by omega), if_neg (by omega)]
   rw [show ((1 : Int) != 0) = true from rfl]
   simp only [cond_true, Option.bind_some]
   simp (disch := omega) only [wi]
   congr 2
   ·omega
   ·congr 1
    omega
theorem DF (y m : Int) (hy : 1 ≤ y ∧ y ≤ 9999) (hm : 1 ≤ m ∧ m ≤ 12) : -800000 ≤ pG y m 1 ∧ pG y m 1 ≤ 3000000 := by
 unfold pG
 by_cases h : m ≤ 2
 ·simp only [if_pos h]; omega
 ·simp only [if_neg h]; omega
theorem Ut (n : Nat) (y m : Int) (hy : 1 ≤ y ∧ y ≤ 9999) (hm : 1 ≤ m ∧ m ≤ 12) : zn n y m 1 = some ((pG y m 1 + 3) % 7 + 1) := by
 have hb := DF y m hy hm
 unfold zn wB
 rw [Qk n y m hy hm, Kv n y m 1 hy hm (by omega)]
 simp only [Option.bind_some, Bool.not_true, cond_false]
 rw [wi (pG y m 1 + 3) (by omega) (by omega), aaS n _ (by omega)]
 simp only [Option.bind_some]
 rw [wi _ (by omega) (by omega)]
def SL (y : Int) (d : DayV) : Int :=
 let a := (d.d + 7 - ((pG y d.m 1 + 3) % 7 + 1) % 7) % 7 + 7 * (d.w - 1)
 if za y d.m ≤ a then a - 7 else a
def Lt (d : DayV) (y : Int) : Int :=
 if d.k = 2 then pG y 1 1 + d.d
 else if d.k = 1 then (if Ai y = true ∧ 59 < d.d then pG y 1 1 + d.d else pG y 1 1 + d.d - 1)
 else pG y d.m 1 + SL y d
def om (d : DayV) (y : Int) : Int := Lt d y * 86400 + d.t
theorem VA (n m : Nat) (a l : Int) (hl : 28 ≤ l) (ha : 0 ≤ a ∧ a < 35) : iN n (m + 2) a l = some (if l ≤ a then a - 7 else a) := by
 rw [iN, kM]
 by_cases h : l ≤ a
 ·rw [aa (by omega), if_pos h, wi (a - 7) (by omega) (by omega), iN, kM, ah (by omega)]
 ·rw [ah (by omega), if_neg h]
theorem Uu (n : Nat) (d : DayV) (y : Int) (hn : 5 < n) (h : qV d = true) (hy : 1 ≤ y ∧ y ≤ 9999) : wY n d.k d.m d.w d.d d.t y = some (Lt d y) := by
 have hb := DF y 1 hy (by omega)
 unfold wY sK Lt
 rw [Us n y 1 hy (by omega), Nr n y 2 hy (by omega)]
 simp only [Option.bind_some, K7]
 have hok := h
 unfold qV Gl at hok
 simp only [Bool.and_eq_true, decide_eq_true_eq] at hok
 obtain ⟨⟨t1, t2⟩, hok⟩ := hok
 by_cases h2 : d.k = 2
 ·rw [aa h2, if_pos h2]
  rw [if_neg (by omega), if_pos h2] at hok
  simp only [Bool.and_eq_true, decide_eq_true_eq] at hok
  rw [wi _ (by omega) (by omega)]
 ·rw [ah h2, if_neg h2]
  by_cases h1 : d.k = 1
  ·rw [aa h1, if_pos h1]
   rw [if_pos h1] at hok
   simp only [Bool.and_eq_true, decide_eq_true_eq] at hok
   rw [vI, oI]
   have hl : decide (za y 2 = 29) = Ai y := by
    unfold za
    rw [if_pos rfl]
    cases Ai y <;> rfl
   rw [hl]
   cases Ai y with
   | false =>
    simp only [cond_false, Option.bind_some]
    simp (disch := omega) only [wi]
    simp
   | true =>
    simp only [cond_true, Option.bind_some]
    simp (disch := omega) only [wi]
    by_cases h59 : d.d > 59
    ·rw [aa h59]; simp [h59]
    ·rw [ah h59]; simp [h59]
  ·rw [ah h1, if_neg h1]
   rw [if_neg h1, if_neg h2] at hok
   split at hok
   ·simp only [Bool.and_eq_true, decide_eq_true_eq] at hok
    have hm : 1 ≤ d.m ∧ d.m ≤ 12 := by omega
    have hlong := Gm y d.m
    have hdb := DF y d.m hy hm
    rw [Ut n y d.m hy hm, Nr n y d.m hy hm]
    simp only [Option.bind_some]
    simp (disch := omega) only [wi, tm0]
    obtain ⟨k, hk⟩ : ∃ k, n = k + 2 := ⟨n - 2, by omega⟩
    have hl := VA n k ((d.d + 7 - ((pG y d.m 1 + 3) % 7 + 1) % 7) % 7 + 7 * (d.w - 1)) (za y d.m) (by omega) (by omega)
    rw [← hk] at hl
    rw [hl, Us n y d.m hy hm]
    simp only [Option.bind_some]
    unfold SL
    dsimp only
    split <;> rw [wi _ (by omega) (by omega)]
   ·cases hok
theorem Ql (d : DayV) (y : Int) (h : qV d = true) (hy : 1 ≤ y ∧ y ≤ 9999) : -900000 ≤ Lt d y ∧ Lt d y ≤ 3100000 := by
 have hb := DF y 1 hy (by omega)
 have ho := KT h
 unfold Lt
 split
 ·omega
 ·split
  ·split <;> omega
  ·have hdb := DF y d.m hy (by omega)
   have hlong := Gm y d.m
   unfold SL
   dsimp only
   split <;> omega
theorem Qm (n : Nat) (d : DayV) (y : Int) (hn : 5 < n) : wD n d.k d.m d.w d.d d.t y =
 some (if qV d = true then (if 2 ≤ y ∧ y ≤ 9998 then (om d y, 0) else (0, 30)) else (0, 2)) := by
 unfold wD wC
 rw [Nl, show qV ⟨d.k, d.m, d.w, d.d, d.t⟩ = qV d from rfl]
 simp only [Option.bind_some]
 cases h : qV d with
 | false => rfl
 | true =>
  simp only [Bool.not_true, cond_false, if_true]
  rw [yh, qG]
  by_cases h1 : y < 2
  ·rw [aa h1, if_neg (by omega)]; rfl
  ·rw [ah h1]
   by_cases h2 : y > 9998
   ·rw [decide_eq_true h2, if_neg (by omega)]; rfl
   ·rw [decide_eq_false h2, if_pos (by omega)]
    simp only [Option.bind_some, cond_false]
    rw [Uu n d y hn h (by omega)]
    have hb := Ql d y h (by omega)
    have ho := KT h
    simp only [Option.bind_some]
    unfold om
    simp (disch := omega) only [wi]
end Go.Proofs.YtiegmpnagcdgoaaGreatDoor.H
namespace Go.Proofs.YtiegmpnagcdgoaaGreatDoor.H
open Go.Sh Go.RowKit
set_option linter.unusedSimpArgs false
set_option linter.unusedVariables false
def oU (y : Int) : Int := pG y 1 1
theorem O5 (y : Int) : oU y = (y - 1) / 400 * 146097 + ((y - 1) % 400 * 365 + (y - 1) % 400 / 4 - (y - 1) % 400 / 100) + 306 - 719468 := by
 unfold oU pG
 simp only [if_pos (show (1 : Int) ≤ 2 by omega)]
 omega
theorem KU (y : Int) (hy : 1 ≤ y) : oU (y + 1) = oU y + 365 + (if Ai y = true then 1 else 0) := by
 have hl := Rz y
 rw [O5, O5]
 by_cases h : Ai y = true
 ·rw [if_pos h]
  rw [h] at hl
  have := hl.1 rfl
  omega
 ·rw [if_neg h]
  have h' : ¬ (y % 4 = 0 ∧ (y % 100 ≠ 0 ∨ y % 400 = 0)) := fun q => h (hl.2 q)
  omega
theorem KV (y : Int) (hy : 1 ≤ y ∧ y ≤ 10001) : -800000 ≤ oU y ∧ oU y ≤ 3000000 := by
 rw [O5]
 omega
theorem N7 : oU 1970 = 0 := by decide +kernel
theorem IJ : ∀ (k : Nat) (y : Int), 1 ≤ y → oU y + 365 * (k : Int) ≤ oU (y + k) ∧ oU (y + k) ≤ oU y + 366 * (k : Int)
 | 0, y, _ => by simp
 | k + 1, y, h => by
  have h1 := IJ k y h
  have h2 := KU (y + k) (by omega)
  rw [show y + ((k + 1 : Nat) : Int) = y + (k : Int) + 1 by omega]
  split at h2 <;> omega
theorem Jj {a b : Int} (ha : 1 ≤ a) (h : a ≤ b) : oU a ≤ oU b := by
 obtain ⟨k, hk⟩ : ∃ k : Nat, b = a + k := ⟨(b - a).toNat, by omega⟩
 have := (IJ k a ha).1
 rw [hk]
 omega
def InYear (y n : Int) : Prop := oU y ≤ n ∧ n < oU (y + 1)
theorem InYear.one {a b n : Int} (ha : 1 ≤ a) (hb : 1 ≤ b) (h1 : InYear a n) (h2 : InYear b n) : a = b := by
 by_cases h : a < b
 ·have := Jj (a := a + 1) (b := b) (by omega) (by omega)
  have := h1.2
  have := h2.1
  omega
 ·by_cases h' : b < a
  ·have := Jj (a := b + 1) (b := a) (by omega) (by omega)
   have := h2.2
   have := h1.1
   omega
  ·omega
end Go.Proofs.YtiegmpnagcdgoaaGreatDoor.H
namespace Go.Proofs.YtiegmpnagcdgoaaGreatDoor.H
open Go.Sh Go.RowKit
set_option linter.unusedSimpArgs false
set_option linter.unusedVariables false
theorem KW (n : Nat) (y : Int) (h : 0 ≤ y) : il n y = some (Ai y) := by
 unfold il nK Ai
 rw [Int.tmod_eq_emod_of_nonneg h, Int.tmod_eq_emod_of_nonneg h, Int.tmod_eq_emod_of_nonneg h, bne, K7, K7, K7]
 by_cases h1 : y % 4 = 0 <;> by_cases h2 : y % 100 = 0 <;> by_cases h3 : y % 400 = 0 <;> simp [h1, h2, h3]
theorem RB (n : Nat) (y : Int) (hy : 1970 ≤ y ∧ y ≤ 10000) : ∀ (m : Nat) (k : Int), (y - k).toNat < m → 1970 ≤ k ∧ k ≤ y → bE n m y (oU k) k = some (oU y)
 | 0, k, h, _ => by omega
 | m + 1, k, h, hk => by
  rw [bE, fF]
  by_cases hlt : k < y
  ·have hb := KV k (by omega)
   have hn := KU k (by omega)
   rw [aa hlt, nX, iO, KW n k (by omega)]
   simp only [Option.bind_some]
   have hnext := RB n y hy m (k + 1) (by omega) (by omega)
   cases hl : Ai k with
   | true =>
    rw [hl, if_pos rfl] at hn
    simp only [cond_true, Option.bind_some]
    simp (disch := omega) only [wi]
    rw [← hn]
    exact hnext
   | false =>
    rw [hl, if_neg (by simp)] at hn
    simp only [cond_false, Option.bind_some]
    simp (disch := omega) only [wi]
    rw [show oU k + 365 = oU (k + 1) by omega]
    exact hnext
  ·rw [ah hlt, show k = y by omega]
theorem OJ (n : Nat) (y : Int) (hy : 1 ≤ y ∧ y ≤ 1970) : ∀ (m : Nat) (k : Int), (1970 - k).toNat < m → y ≤ k ∧ k ≤ 1970 → cO n m (oU y - oU k) k = some (oU y)
 | 0, k, h, _ => by omega
 | m + 1, k, h, hk => by
  rw [cO, fG]
  by_cases hlt : k < 1970
  ·have hb := KV k (by omega)
   have hb2 := KV y (by omega)
   have hn := KU k (by omega)
   rw [aa hlt, nY, iP, KW n k (by omega)]
   simp only [Option.bind_some]
   have hnext := OJ n y hy m (k + 1) (by omega) (by omega)
   cases hl : Ai k with
   | true =>
    rw [hl, if_pos rfl] at hn
    simp only [cond_true, Option.bind_some]
    simp (disch := omega) only [wi]
    rw [show oU y - oU k - 365 - 1 = oU y - oU (k + 1) by omega]
    exact hnext
   | false =>
    rw [hl, if_neg (by simp)] at hn
    simp only [cond_false, Option.bind_some]
    simp (disch := omega) only [wi]
    rw [show oU y - oU k - 365 = oU y - oU (k + 1) by omega]
    exact hnext
  ·rw [ah hlt, show k = 1970 by omega, N7, Int.sub_zero]
theorem Mg (n : Nat) (y : Int) (hn : 10000 < n) (hy : 1 ≤ y ∧ y ≤ 10000) : dB n y = some (oU y) := by
 unfold dB kQ
 obtain ⟨k, hk⟩ : ∃ k, n = k + 1 := ⟨n - 1, by omega⟩
 by_cases h : 1970 ≤ y
 ·have h1 := RB n y (by omega) n 1970 (by omega) (by omega)
  rw [N7] at h1
  rw [h1]
  simp only [Option.bind_some]
  conv => lhs; arg 1; arg 2; rw [hk]
  rw [cO, fG, ah (by omega)]
  rfl
 ·have h1 : bE n n y 0 1970 = some 0 := by
   conv => lhs; arg 2; rw [hk]
   rw [bE, fF, ah (by omega)]
  have h2 := OJ n y (by omega) n y (by omega) (by omega)
  rw [Int.sub_self] at h2
  rw [h1]
  simp only [Option.bind_some]
  rw [h2]
  rfl
theorem RD (n : Nat) (y m : Int) (hy : 0 ≤ y) (hm : 1 ≤ m ∧ m ≤ 12) : nM n y m = some (za y m) := by
 unfold nM nL za
 rw [KW n y hy]
 have : m = 1 ∨ m = 2 ∨ m = 3 ∨ m = 4 ∨ m = 5 ∨ m = 6 ∨ m = 7 ∨ m = 8 ∨ m = 9 ∨ m = 10 ∨ m = 11 ∨ m = 12 := by omega
 rcases this with h | h | h | h | h | h | h | h | h | h | h | h <;> subst h
 case inr.inl => cases Ai y <;> rfl
 all_goals rfl
theorem VB (y m : Int) (hy : 1 ≤ y) (hm : 1 ≤ m ∧ m ≤ 11) : pG y (m + 1) 1 = pG y m 1 + za y m := by
 have : m = 1 ∨ m = 2 ∨ m = 3 ∨ m = 4 ∨ m = 5 ∨ m = 6 ∨ m = 7 ∨ m = 8 ∨ m = 9 ∨ m = 10 ∨ m = 11 := by omega
 unfold za
 have hl := Rz y
 rcases this with h | h | h | h | h | h | h | h | h | h | h <;> subst h
 case inr.inl =>
  rw [if_pos rfl]
  unfold pG
  simp only [if_neg (show ¬ ((2 : Int) + 1 ≤ 2) by omega), if_pos (show (2 : Int) ≤ 2 by omega)]
  by_cases h : Ai y = true
  ·rw [if_pos h]
   rw [h] at hl
   have := hl.1 rfl
   omega
  ·rw [if_neg h]
   have h' : ¬ (y % 4 = 0 ∧ (y % 100 ≠ 0 ∨ y % 400 = 0)) := fun q => h (hl.2 q)
   omega
 all_goals (unfold pG; simp; try omega)
theorem Qn (n : Nat) (d : DayV) (y : Int) (hy : 1 ≤ y ∧ y ≤ 9999) (hd : 1 ≤ d.m ∧ d.m ≤ 12) : ∀ (q : Nat) (m : Int), (d.m - m).toNat < q → 1 ≤ m ∧ m ≤ d.m →
 eP n q y (pG y m 1) m d.k d.m d.w d.d d.t = some (pG y d.m 1, d.k, d.m, d.w, d.d, d.t)
 | 0, m, h, _ => by omega
 | q + 1, m, h, hm => by
  rw [eP, iU]
  by_cases hlt : m < d.m
  ·have hb := DF y m hy (by omega)
   have hl := Gm y m
   rw [aa hlt, RD n y m (by omega) (by omega)]
   simp only [Option.bind_some]
   simp (disch := omega) only [wi]
   rw [← VB y m hy.1 (by omega)]
   exact Qn n d y hy hd q (m + 1) (by omega) (by omega)
  ·rw [ah hlt, show m = d.m by omega]
def vo (r w k : Int) : Int := if k ≤ r then 0 else if (k - 1 - r) / 7 + 1 ≤ w then (k - 1 - r) / 7 + 1 else w
theorem acz (x : Int) (h : -1000000000 ≤ x ∧ x ≤ 1000000000) : Int.tmod (IntKind.i64.wrap (Int.tmod x 7 + 7)) 7 = x % 7 := by
 by_cases hx : 0 ≤ x
 ·rw [tm0 hx, wi _ (by omega) (by omega), tm0 (by omega)]
  omega
 ·obtain ⟨b, rfl⟩ : ∃ b : Int, x = -b := ⟨-x, by omega⟩
  rw [Int.neg_tmod, tm0 (show (0 : Int) ≤ b by omega), wi _ (by omega) (by omega), tm0 (by omega)]
  omega
theorem RF (n : Nat) (d : DayV) (y f r : Int) (hy : 1 ≤ y ∧ y ≤ 9999) (hm : 1 ≤ d.m ∧ d.m ≤ 12) (hw : 1 ≤ d.w ∧ d.w ≤ 5) (hd : 0 ≤ d.d ∧ d.d ≤ 6) (hf : -800000 ≤ f ∧ f ≤ 3000000) (hr : r = (d.d - (f + 4)) % 7) :
 ∀ (q : Nat) (k : Int), (za y d.m - k).toNat < q → 0 ≤ k ∧ k ≤ za y d.m →
 eQ n q y f (if vo r d.w k = 0 then -1 else f + r + 7 * (vo r d.w k - 1)) (vo r d.w k) k d.k d.m d.w d.d d.t
  = some (f + r + 7 * (vo r d.w (za y d.m) - 1), d.k, d.m, d.w, d.d, d.t)
 | 0, k, h, _ => by omega
 | q + 1, k, h, hk => by
  have hl := Gm y d.m
  rw [eQ, iX, RD n y d.m (by omega) hm]
  simp only [Option.bind_some]
  by_cases hlt : k < za y d.m
  ·rw [aa hlt, ol, iW]
   rw [wi (f + k) (by omega) (by omega), wi (f + k + 4) (by omega) (by omega), acz _ (by omega)]
   rw [oh, iV, K7]
   have hnext := RF n d y f r hy hm hw hd hf hr q (k + 1) (by omega) (by omega)
   have hs0 : 0 ≤ vo r d.w k ∧ vo r d.w k ≤ 5 := by unfold vo; split <;> (try split) <;> omega
   rw [wi (k + 1) (by omega) (by omega)]
   by_cases hday : (f + k + 4) % 7 = d.d
   ·rw [aa hday]
    simp only [Option.bind_some]
    by_cases hsn : vo r d.w k < d.w
    ·have e1 : vo r d.w (k + 1) = vo r d.w k + 1 := by
      revert hsn
      unfold vo
      split <;> split <;> (try split) <;> (try split) <;> omega
     have e2 : f + k = f + r + 7 * (vo r d.w (k + 1) - 1) := by
      revert hsn
      unfold vo
      split <;> split <;> (try split) <;> (try split) <;> omega
     rw [decide_eq_true hsn]
     simp only [cond_true, Option.bind_some]
     rw [wi (vo r d.w k + 1) (by omega) (by omega), ← e1]
     rw [if_neg (by omega), ← e2] at hnext
     exact hnext
    ·have e1 : vo r d.w (k + 1) = vo r d.w k := by
      revert hsn
      unfold vo
      split <;> split <;> (try split) <;> (try split) <;> omega
     rw [decide_eq_false hsn]
     simp only [cond_false, Option.bind_some]
     rw [e1] at hnext
     exact hnext
   ·have e1 : vo r d.w (k + 1) = vo r d.w k := by
     unfold vo
     split <;> split <;> (try split) <;> (try split) <;> omega
    rw [ah hday]
    simp only [Option.bind_some, cond_false]
    rw [e1] at hnext
    exact hnext
  ·rw [ah hlt]
   have hkl : k = za y d.m := by omega
   subst hkl
   have : vo r d.w (za y d.m) ≠ 0 := by
    unfold vo
    split <;> (try split) <;> omega
   rw [if_neg this]
theorem OL (n : Nat) (d : DayV) (y : Int) (hn : 10000 < n) (h : qV d = true) (hy : 1 ≤ y ∧ y ≤ 9999) : kV n d.k d.m d.w d.d d.t y = some (om d y) := by
 have ho := KT h
 have hb := KV y (by omega)
 have h2b := Ql d y h hy
 unfold kV kU om
 rw [Mg n y hn (by omega)]
 simp only [Option.bind_some, K7]
 by_cases h1 : d.k = 1
 ·rw [aa h1, og, iT, KW n y (by omega)]
  unfold Lt
  rw [if_neg (show ¬ d.k = 2 by omega), if_pos h1]
  change _ = some ((if Ai y = true ∧ 59 < d.d then oU y + d.d else oU y + d.d - 1) * 86400 + d.t)
  cases hl : Ai y with
  | false =>
   simp only [Option.bind_some, cond_false]
   simp (disch := omega) only [wi]
   simp
  | true =>
   simp only [Option.bind_some, cond_true]
   by_cases h59 : d.d > 59
   ·rw [decide_eq_true h59, cond_true, if_pos ⟨trivial, h59⟩]
    simp (disch := omega) only [wi]
    rw [show oU y + d.d - 1 + 1 = oU y + d.d by omega]
   ·rw [decide_eq_false h59, cond_false, if_neg (by rintro ⟨_, q⟩; exact h59 q)]
    simp (disch := omega) only [wi]
 ·rw [ah h1]
  by_cases h2 : d.k = 2
  ·rw [aa h2]
   unfold Lt
   rw [if_pos h2]
   change _ = some ((oU y + d.d) * 86400 + d.t)
   simp (disch := omega) only [wi]
  ·have h3 : d.k = 3 := by omega
   rw [ah h2, aa h3]
   have hm : 1 ≤ d.m ∧ d.m ≤ 12 := by omega
   have hw : 1 ≤ d.w ∧ d.w ≤ 5 := by omega
   have hfb := DF y d.m hy hm
   have hl := Gm y d.m
   rw [show oU y = pG y 1 1 from rfl, Qn n d y hy hm n 1 (by omega) (by omega)]
   simp only [Option.bind_some]
   have hk := RF n d y (pG y d.m 1) _ hy hm hw (by omega) hfb rfl n 0 (by omega) (by omega)
   generalize hr : (d.d - (pG y d.m 1 + 4)) % 7 = r at hk
   have hr' : 0 ≤ r ∧ r < 7 := by omega
   have hs0 : vo r d.w 0 = 0 := by unfold vo; rw [if_pos (by omega)]
   rw [hs0, if_pos rfl] at hk
   rw [hk]
   have e : Lt d y = pG y d.m 1 + r + 7 * (vo r d.w (za y d.m) - 1) := by
    unfold Lt
    rw [if_neg h2, if_neg h1]
    unfold SL vo
    dsimp only
    rw [if_neg (show ¬ za y d.m ≤ r by omega)]
    have e1 : (d.d + 7 - ((pG y d.m 1 + 3) % 7 + 1) % 7) % 7 = r := by omega
    rw [e1]
    split <;> split <;> omega
   simp only [Option.bind_some]
   rw [← e]
   simp (disch := omega) only [wi]
end Go.Proofs.YtiegmpnagcdgoaaGreatDoor.H
namespace Go.Proofs.YtiegmpnagcdgoaaGreatDoor.H
open Go.Sh Go.RowKit
set_option linter.unusedSimpArgs false
set_option linter.unusedVariables false
theorem XT (n : Nat) (a : Int) (h : -1000000000000 ≤ a ∧ a ≤ 1000000000000) : xL n a 86400 = some (a / 86400) := by
 unfold xL xK
 rw [show ((86400 : Int) == 0) = false from rfl]
 simp only [cond_false]
 by_cases ha : 0 ≤ a
 ·rw [tm0 ha, td0 ha, ah (by omega), wi _ (by omega) (by omega)]
 ·obtain ⟨b, rfl⟩ : ∃ b : Int, a = -b := ⟨-a, by omega⟩
  rw [Int.neg_tmod, Int.neg_tdiv, tm0 (by omega), td0 (by omega)]
  by_cases hz : b % 86400 = 0
  ·rw [ah (by omega), wi _ (by omega) (by omega)]
   congr 1
   omega
  ·rw [aa (by omega)]
   simp (disch := omega) only [wi]
   congr 1
   omega
def DI (k : Nat) : Nat := k - k / 1460 + k / 36524 - k / 146096
def yB (y : Nat) : Nat := 365 * y + y / 4 - y / 100
theorem XU : ((List.range 400).all fun y => decide (365 * y ≤ DI (yB y)) && (y == 0 || decide (DI (yB y - 1) < 365 * y))) = true := by decide +kernel
theorem WB (y : Nat) (h : y < 400) : 365 * y ≤ DI (yB y) ∧ (1 ≤ y → DI (yB y - 1) < 365 * y) := by
 have := List.all_eq_true.1 XU y (List.mem_range.2 h)
 simp only [Bool.and_eq_true, Bool.or_eq_true, decide_eq_true_eq, beq_iff_eq] at this
 exact ⟨this.1, fun hy => this.2.resolve_left (by omega)⟩
theorem Uv (a b : Nat) (h : a ≤ b) (hb : b < 146096) : DI a ≤ DI b := by
 unfold DI
 omega
theorem ZK (k : Nat) (h : k < 146097) : DI k / 365 ≤ 399 ∧ yB (DI k / 365) ≤ k ∧ (DI k / 365 < 399 → k < yB (DI k / 365 + 1)) := by
 by_cases hk : k = 146096
 ·subst hk
  decide +kernel
 ·have hF : DI k ≤ 145999 := by unfold DI; omega
  have hY : DI k / 365 ≤ 399 := by omega
  refine ⟨hY, ?_, ?_⟩
  ·have hr := WB (DI k / 365) (by omega)
   by_cases hlt : k < yB (DI k / 365)
   ·have h1 : 1 ≤ DI k / 365 := by
     by_cases h0 : DI k / 365 = 0
     ·rw [h0] at hlt
      simp [yB] at hlt
     ·omega
    have h2 := hr.2 h1
    have hS : yB (DI k / 365) ≤ 146000 := by unfold yB; omega
    have h3 := Uv k (yB (DI k / 365) - 1) (by omega) (by omega)
    omega
   ·omega
  ·intro hlt
   have hr := WB (DI k / 365 + 1) (by omega)
   by_cases hge : yB (DI k / 365 + 1) ≤ k
   ·have h3 := Uv (yB (DI k / 365 + 1)) k hge (by omega)
    omega
   ·omega
theorem VC : pG 9999 12 31 = 2932896 := by decide +kernel
theorem Uw : pG 1 1 1 = -719162 := by decide +kernel
theorem abJ (n : Nat) (a : Int) (h : -700000 ≤ a ∧ a ≤ 2900000) : ∃ y m d, CE n a = some (y, m, d, 0) ∧ InYear y a ∧ 1 ≤ y := by
 unfold CE FX
 rw [GR, yV, Kv n 1 1 1 (by omega) (by omega) (by omega), Kv n 9999 12 31 (by omega) (by omega) (by omega), Uw, VC]
 simp only [Option.bind_some]
 rw [ah (by omega), decide_eq_false (by omega)]
 simp only [Option.bind_some, cond_false]
 rw [wi (a + 719468) (by omega) (by omega), tm0 (show (0 : Int) ≤ a + 719468 by omega), td0 (show (0 : Int) ≤ a + 719468 by omega)]
 obtain ⟨k, hk⟩ : ∃ k : Nat, (a + 719468) % 146097 = (k : Int) := ⟨((a + 719468) % 146097).toNat, by omega⟩
 obtain ⟨q, hq⟩ : ∃ q : Nat, (a + 719468) / 146097 = (q : Int) := ⟨((a + 719468) / 146097).toNat, by omega⟩
 have hkq : a + 719468 = 146097 * (q : Int) + (k : Int) := by omega
 have hkl : k < 146097 := by omega
 have hql : q < 30 := by omega
 rw [hk, hq]
 obtain ⟨y1, y2, y3⟩ := ZK k hkl
 have hY : IntKind.i64.wrap (Int.tdiv (IntKind.i64.wrap (IntKind.i64.wrap (IntKind.i64.wrap ((k : Int) - IntKind.i64.wrap (Int.tdiv (k : Int) 1460)) + IntKind.i64.wrap (Int.tdiv (k : Int) 36524)) - IntKind.i64.wrap (Int.tdiv (k : Int) 146096))) 365) = ((DI k / 365 : Nat) : Int) := by
  simp (disch := omega) only [wi, td0]
  unfold DI
  omega
 rw [hY]
 generalize DI k / 365 = Y at *
 have hR : IntKind.i64.wrap ((k : Int) - IntKind.i64.wrap (IntKind.i64.wrap (IntKind.i64.wrap (365 * (Y : Int)) + IntKind.i64.wrap (Int.tdiv (Y : Int) 4)) - IntKind.i64.wrap (Int.tdiv (Y : Int) 100))) = (k : Int) - ((yB Y : Nat) : Int) := by
  simp (disch := omega) only [wi, td0]
  unfold yB
  omega
 rw [hR]
 have hYS : ∀ Z : Nat, Z ≤ 400 → oU (400 * (q : Int) + (Z : Int) + 1) = 146097 * (q : Int) + ((yB Z : Nat) : Int) + (if Z = 400 then 1 else 0) + 306 - 719468 := by
  intro Z hZ
  rw [O5]
  unfold yB
  split <;> omega
 have hpos : 1 ≤ 400 * (q : Int) + (Y : Int) := by
  by_cases h0 : Y = 0
  ·by_cases hq0 : q = 0
   ·have h1 := y3 (by omega)
    rw [h0] at h1
    have : yB (0 + 1) = 365 := by decide +kernel
    omega
   ·omega
  ·omega
 have hb0 := hYS Y (by omega)
 rw [if_neg (by omega)] at hb0
 have hmon : IntKind.i64.wrap (Int.tdiv (IntKind.i64.wrap (IntKind.i64.wrap (5 * ((k : Int) - ((yB Y : Nat) : Int))) + 2)) 153) = (5 * ((k : Int) - ((yB Y : Nat) : Int)) + 2) / 153 := by
  have hup : (k : Int) - ((yB Y : Nat) : Int) ≤ 400 := by
   by_cases h9 : Y < 399
   ·have := y3 h9
    have : yB (Y + 1) ≤ yB Y + 366 := by unfold yB; omega
    omega
   ·have : Y = 399 := by omega
    subst this
    have : yB 399 = 145731 := by decide +kernel
    omega
  simp (disch := omega) only [wi, td0]
 rw [hmon]
 have hR0 : 0 ≤ (k : Int) - ((yB Y : Nat) : Int) := by omega
 have hnext : Y < 399 → oU (400 * (q : Int) + (Y : Int) + 2) > a := by
  intro h9
  have h1 := y3 h9
  have h2 := hYS (Y + 1) (by omega)
  rw [if_neg (by omega)] at h2
  rw [show 400 * (q : Int) + (Y : Int) + 2 = 400 * (q : Int) + ((Y + 1 : Nat) : Int) + 1 by omega, h2]
  omega
 have hlast : Y = 399 → oU (400 * (q : Int) + (Y : Int) + 2) > a := by
  intro h9
  subst h9
  have h2 := hYS 400 (by omega)
  rw [if_pos rfl] at h2
  have : yB 400 = 146096 := by decide +kernel
  rw [show 400 * (q : Int) + ((399 : Nat) : Int) + 2 = 400 * (q : Int) + ((400 : Nat) : Int) + 1 by omega, h2]
  omega
 have hR366 : (k : Int) - ((yB Y : Nat) : Int) ≤ 366 := by
  by_cases h9 : Y < 399
  ·have := y3 h9
   have : yB (Y + 1) ≤ yB Y + 366 := by unfold yB; omega
   omega
  ·have : Y = 399 := by omega
   subst this
   have : yB 399 = 145731 := by decide +kernel
   omega
 generalize hRR : (k : Int) - ((yB Y : Nat) : Int) = R at *
 have hyear : IntKind.i64.wrap (IntKind.i64.wrap ((q : Int) * 400) + (Y : Int)) = 400 * (q : Int) + (Y : Int) := by
  simp (disch := omega) only [wi]
  omega
 rw [wi (q : Int) (by omega) (by omega), hyear]
 rw [wi ((5 * R + 2) / 153 + 2) (by omega) (by omega), tm0 (show (0 : Int) ≤ (5 * R + 2) / 153 + 2 by omega), wi (((5 * R + 2) / 153 + 2) % 12 + 1) (by omega) (by omega)]
 have hM : 0 ≤ (5 * R + 2) / 153 ∧ (5 * R + 2) / 153 ≤ 11 ∧ (R ≤ 305 → (5 * R + 2) / 153 ≤ 9) ∧ (306 ≤ R → 10 ≤ (5 * R + 2) / 153) := by omega
 generalize (5 * R + 2) / 153 = M at *
 by_cases h306 : 306 ≤ R
 ·have hMM : M = 10 ∨ M = 11 := by omega
  have hm : (M + 2) % 12 + 1 ≤ 2 := by rcases hMM with h | h <;> rw [h] <;> decide
  rw [aa hm, wi (400 * (q : Int) + (Y : Int) + 1) (by omega) (by omega)]
  refine ⟨_, _, _, rfl, ⟨?_, ?_⟩, by omega⟩
  ·rw [hb0]; omega
  ·rw [show 400 * (q : Int) + (Y : Int) + 1 + 1 = 400 * (q : Int) + (Y : Int) + 2 by omega]
   by_cases h9 : Y < 399
   ·exact hnext h9
   ·exact hlast (by omega)
 ·have hm : ¬ ((M + 2) % 12 + 1 ≤ 2) := by rw [Int.emod_eq_of_lt (by omega) (by omega)]; omega
  rw [ah hm]
  have hprev : oU (400 * (q : Int) + (Y : Int)) ≤ oU (400 * (q : Int) + (Y : Int) + 1) - 365 := by
   have := KU (400 * (q : Int) + (Y : Int)) hpos
   split at this <;> omega
  refine ⟨_, _, _, rfl, ⟨?_, ?_⟩, by omega⟩
  ·omega
  ·rw [hb0]; omega
end Go.Proofs.YtiegmpnagcdgoaaGreatDoor.H
namespace Go.Proofs.YtiegmpnagcdgoaaGreatDoor.H
open Go.Sh Go.RowKit
set_option linter.unusedSimpArgs false
set_option linter.unusedVariables false
def Qo (t at' : Int) (is : Bool) (s : Bool × Int × Bool) : Bool × Int × Bool := if at' ≤ t ∧ (s.1 = false ∨ s.2.1 < at' ∨ at' = s.2.1 ∧ is = false) then (true, at', is) else s
def kX (r : RuleV) (t y : Int) (s : Bool × Int × Bool) : Bool × Int × Bool := Qo t (om r.b y - r.doff) false (Qo t (om r.a y - r.off) true s)
def VD (r : RuleV) (t y : Int) : Bool × Int × Bool := kX r t (y + 1) (kX r t y (kX r t (y - 1) (kX r t (y - 2) (false, 0, false))))
theorem WC (n : Nat) (t at' : Int) (is : Bool) (s : Bool × Int × Bool) : y5 n at' is t s.1 s.2.1 s.2.2 = some (t, Qo t at' is s) := by
 obtain ⟨met, latest, summer⟩ := s
 unfold y5 yZ Qo
 dsimp only
 rw [K7]
 by_cases h1 : at' ≤ t
 ·rw [aa h1]
  cases met with
  | false => simp [h1]
  | true =>
   simp only [Bool.not_true, cond_false]
   by_cases h2 : at' > latest
   ·rw [aa h2, if_pos ⟨h1, .inr (.inl h2)⟩]
   ·rw [ah h2]
    by_cases h3 : at' = latest
    ·rw [aa h3]
     cases is with
     | false => rw [if_pos ⟨h1, .inr (.inr ⟨h3, rfl⟩)⟩]; rfl
     | true =>
      rw [if_neg (by rintro ⟨_, h | h | h⟩; · cases h
                     ·exact h2 h
                     ·cases h.2)]
      rfl
    ·rw [ah h3, if_neg (by rintro ⟨_, h | h | h⟩; · cases h
                           ·exact h2 h
                           ·exact h3 h.1)]
 ·rw [ah h1, if_neg (by rintro ⟨h, _⟩; exact h1 h)]
theorem Jk (d : DayV) (y : Int) (h : qV d = true) (hy : 1 ≤ y ∧ y ≤ 9999) : -100000000000 ≤ om d y ∧ om d y ≤ 300000000000 := by
 have h1 := Ql d y h hy
 have h2 := KT h
 unfold om
 omega
theorem aaT (n m : Nat) (hn : 5 < n) (r : RuleV) (ha : qV r.a = true) (hb : qV r.b = true) (h1 : -89999 ≤ r.off ∧ r.off ≤ 89999) (h2 : -89999 ≤ r.doff ∧ r.doff ≤ 89999)
 (t y Y mm dd : Int) (hy : 2 ≤ y ∧ y ≤ 9998) (hY : 2 ≤ Y ∧ Y ≤ 9996) (hlt : y < Y + 2) (s : Bool × Int × Bool) :
 nW n (m + 1) y r.std r.dst r.off r.doff r.a.k r.a.m r.a.w r.a.d r.a.t r.b.k r.b.m r.b.w r.b.d r.b.t t Y mm dd s.2.1 s.2.2 s.1
 = nW n m (y + 1) r.std r.dst r.off r.doff r.a.k r.a.m r.a.w r.a.d r.a.t r.b.k r.b.m r.b.w r.b.d r.b.t t Y mm dd (kX r t y s).2.1 (kX r t y s).2.2 (kX r t y s).1 := by
 have b1 := Jk r.a y ha (by omega)
 have b2 := Jk r.b y hb (by omega)
 rw [nW, uN, wi (Y + 2) (by omega) (by omega), aa hlt, Qm n r.a y hn, Qm n r.b y hn]
 simp only [Option.bind_some]
 rw [if_pos ha, if_pos hb, if_pos hy, if_pos hy]
 simp only
 rw [wi (om r.a y - r.off) (by omega) (by omega), wi (om r.b y - r.doff) (by omega) (by omega), WC]
 simp only [Option.bind_some]
 rw [WC]
 simp only [Option.bind_some]
 rw [wi (y + 1) (by omega) (by omega)]
 rfl
def jY (s : Int) : Int := if (-10000000000 : Int) < (if s < (100000000000 : Int) then s else (100000000000 : Int)) then (if s < (100000000000 : Int) then s else (100000000000 : Int)) else (-10000000000 : Int)
theorem RG (s : Int) : -10000000000 ≤ jY s ∧ jY s ≤ 100000000000 := by
 unfold jY
 split <;> (try split) <;> omega
theorem RH : oU 1600 = -135140 := by decide +kernel
theorem N8 : oU 5200 = 1179733 := by decide +kernel
theorem WE {y n : Int} (hy : 1 ≤ y) (h : InYear y n) (hn : -130000 ≤ n ∧ n ≤ 1170000) : 1600 ≤ y ∧ y ≤ 5200 := by
 have e1 := RH
 have e2 := N8
 constructor
 ·by_cases hlt : y < 1600
  ·have := Jj (a := y + 1) (b := 1600) (by omega) (by omega)
   have := h.2
   omega
  ·omega
 ·by_cases hgt : 5200 < y
  ·have := Jj (a := 5200) (b := y) (by omega) (by omega)
   have := h.1
   omega
  ·omega
theorem CP {r : RuleV} (h : gL r = true) : ui r.std = true ∧ -89999 ≤ r.off ∧ r.off ≤ 89999 ∧
 (r.dst = [] ∧ r.doff = 0 ∨ ui r.dst = true ∧ r.dst ≠ [] ∧ -89999 ≤ r.doff ∧ r.doff ≤ 89999 ∧ qV r.a = true ∧ qV r.b = true) := by
 unfold gL at h
 simp only [Bool.and_eq_true, Gl, decide_eq_true_eq] at h
 obtain ⟨⟨h1, h2⟩, h⟩ := h
 refine ⟨h1, h2.1, h2.2, ?_⟩
 split at h
 ·rename_i hd
  simp only [Bool.and_eq_true, beq_iff_eq] at h
  exact .inl ⟨hd, h.1.1⟩
 ·rename_i hd
  simp only [Bool.and_eq_true, decide_eq_true_eq] at h
  exact .inr ⟨h.1.1.1, hd, h.1.1.2.1, h.1.1.2.2, h.1.2, h.2⟩
def Mh (r : RuleV) (t y : Int) : Int × Bool := if (VD r t y).2.2 = true then (r.doff, true) else (r.off, false)
theorem at_val (n : Nat) (r : RuleV) (s : Int) (hn : 200 < n) (h : gL r = true) (hd : r.dst ≠ []) :
 ∃ y, InYear y ((jY s + r.off) / 86400) ∧ 1600 ≤ y ∧ y ≤ 5200 ∧ sM n r.std r.dst r.off r.doff r.a.k r.a.m r.a.w r.a.d r.a.t r.b.k r.b.m r.b.w r.b.d r.b.t s = some (Mh r (jY s) y) := by
 obtain ⟨h1, h2, h3, h4⟩ := CP h
 obtain ⟨h4, _, h5, h6, h7, h8⟩ := h4.resolve_left (fun q => hd q.1)
 have l1 : r.std.length ≤ 10 := by unfold ui at h1; simp only [Bool.and_eq_true, decide_eq_true_eq] at h1; exact h1.1.2
 have l2 : r.dst.length ≤ 10 := by unfold ui at h4; simp only [Bool.and_eq_true, decide_eq_true_eq] at h4; exact h4.1.2
 have hc := RG s
 obtain ⟨y, mm, dd, k1, k2, k3⟩ := abJ n ((jY s + r.off) / 86400) (by omega)
 have hy := WE k3 k2 (by omega)
 refine ⟨y, k2, hy.1, hy.2, ?_⟩
 unfold sM xO
 rw [right_val n _ _ _ _ _ _ _ _ _ _ _ _ _ _ (by omega) (by omega) (by omega) (by omega)]
 rw [show gL ⟨r.std, r.dst, r.off, r.doff, ⟨r.a.k, r.a.m, r.a.w, r.a.d, r.a.t⟩, ⟨r.b.k, r.b.m, r.b.w, r.b.d, r.b.t⟩⟩ = true from h]
 simp only [Option.bind_some, Bool.not_true, cond_false]
 rw [show (r.dst == ([] : Str)) = false by simpa using hd, cond_false]
 change ((xL n (IntKind.i64.wrap (jY s + r.off)) 86400).bind fun o304 => (CE n o304).bind fun o308 => (nW n n (IntKind.i64.wrap (o308.1 - 2)) r.std r.dst r.off r.doff r.a.k r.a.m r.a.w r.a.d r.a.t r.b.k r.b.m r.b.w r.b.d r.b.t (jY s) o308.1 o308.2.1 o308.2.2.1 0 false false).bind _) = _
 rw [wi (jY s + r.off) (by omega) (by omega), XT n _ (by omega)]
 simp only [Option.bind_some]
 rw [k1]
 simp only [Option.bind_some]
 rw [wi (y - 2) (by omega) (by omega)]
 obtain ⟨k, hk⟩ : ∃ k, n = k + 1 + 1 + 1 + 1 + 1 := ⟨n - 5, by omega⟩
 have st := fun m (z : Int) (hz : y - 2 ≤ z ∧ z < y + 2) s' => aaT n m (by omega) r h7 h8 (by omega) (by omega) (jY s) z y mm dd (by omega) (by omega) hz.2 s'
 conv => lhs; arg 1; arg 2; rw [hk]
 rw [st _ (y - 2) (by omega) (false, 0, false), st _ (y - 2 + 1) (by omega), st _ (y - 2 + 1 + 1) (by omega), st _ (y - 2 + 1 + 1 + 1) (by omega)]
 rw [nW, uN, wi (y + 2) (by omega) (by omega), ah (by omega)]
 simp only [Option.bind_some]
 unfold Mh VD
 rw [show y - 2 + 1 = y - 1 by omega, show y - 1 + 1 = y by omega]
 cases (kX r (jY s) (y + 1) (kX r (jY s) y (kX r (jY s) (y - 1) (kX r (jY s) (y - 2) (false, 0, false))))).2.2 <;> rfl
theorem ZL (n : Nat) (r : RuleV) (s : Int) (hn : 200 < n) (h : gL r = true) (hd : r.dst = []) :
 sM n r.std r.dst r.off r.doff r.a.k r.a.m r.a.w r.a.d r.a.t r.b.k r.b.m r.b.w r.b.d r.b.t s = some (r.off, false) := by
 obtain ⟨h1, _⟩ := CP h
 have l1 : r.std.length ≤ 10 := by unfold ui at h1; simp only [Bool.and_eq_true, decide_eq_true_eq] at h1; exact h1.1.2
 unfold sM xO
 rw [right_val n _ _ _ _ _ _ _ _ _ _ _ _ _ _ (by omega) (by omega) (by rw [hd]; simp) (by rw [hd]; simp; omega)]
 rw [show gL ⟨r.std, r.dst, r.off, r.doff, ⟨r.a.k, r.a.m, r.a.w, r.a.d, r.a.t⟩, ⟨r.b.k, r.b.m, r.b.w, r.b.d, r.b.t⟩⟩ = true from h, hd]
 rfl
theorem abK (n : Nat) (r : RuleV) (s : Int) (h : gL r = false) (hs : r.std.length < 9223372036854775808) (hn : r.std.length < n) (hs' : r.dst.length < 9223372036854775808) (hn' : r.dst.length < n) :
 sM n r.std r.dst r.off r.doff r.a.k r.a.m r.a.w r.a.d r.a.t r.b.k r.b.m r.b.w r.b.d r.b.t s = some (0, false) := by
 unfold sM xO
 rw [right_val n _ _ _ _ _ _ _ _ _ _ _ _ _ _ hs hn hs' hn']
 rw [show gL ⟨r.std, r.dst, r.off, r.doff, ⟨r.a.k, r.a.m, r.a.w, r.a.d, r.a.t⟩, ⟨r.b.k, r.b.m, r.b.w, r.b.d, r.b.t⟩⟩ = false from h]
 rfl
end Go.Proofs.YtiegmpnagcdgoaaGreatDoor.H
namespace Go.Proofs.YtiegmpnagcdgoaaGreatDoor.H
open Go.Sh Go.RowKit
set_option linter.unusedSimpArgs false
set_option linter.unusedVariables false
theorem VE (n : Nat) (a : Int) (h : -1000000000000 ≤ a ∧ a ≤ 1000000000000) : mg n a 86400 = some (a / 86400) := by
 unfold mg mf
 rw [show ((86400 : Int) == 0) = false from rfl]
 simp only [cond_false]
 by_cases ha : 0 ≤ a
 ·rw [tm0 ha, td0 ha, ah (by omega), wi _ (by omega) (by omega)]
 ·obtain ⟨b, rfl⟩ : ∃ b : Int, a = -b := ⟨-a, by omega⟩
  rw [Int.neg_tmod, Int.neg_tdiv, tm0 (by omega), td0 (by omega)]
  by_cases hz : b % 86400 = 0
  ·rw [ah (by omega), wi _ (by omega) (by omega)]
   congr 1
   omega
  ·rw [aa (by omega)]
   simp (disch := omega) only [wi]
   congr 1
   omega
theorem RI (n : Nat) (hn : 10000 < n) (d : Int) (hd : -130000 ≤ d ∧ d ≤ 1170000) : ∀ (m : Nat) (y : Int), y.toNat < m → 1600 ≤ y ∧ y ≤ 1970 → ∃ y', eH n m d y = some y' ∧ oU y' ≤ d ∧ 1600 ≤ y' ∧ y' ≤ 1970
 | 0, y, h, _ => by omega
 | m + 1, y, h, hy => by
  have hb := KV y (by omega)
  rw [eH, iQ, Mg n y hn (by omega)]
  simp only [Option.bind_some]
  by_cases hlt : d < oU y
  ·rw [aa hlt]
   simp (disch := omega) only [wi, td0]
   have e1 := RH
   have h0 := Jj (a := y) (b := 1970) (by omega) (by omega)
   rw [N7] at h0
   obtain ⟨k, hk⟩ : ∃ k : Nat, (oU y - d) / 366 = (k : Int) := ⟨((oU y - d) / 366).toNat, by omega⟩
   rw [hk]
   have hm := (IJ (k + 1) (y - 1 - k) (by omega)).2
   rw [show y - 1 - (k : Int) + ((k + 1 : Nat) : Int) = y by omega] at hm
   have hlow : 1600 ≤ y - 1 - (k : Int) := by
    by_cases hq : y - 1 - (k : Int) < 1600
    ·have hm2 := (IJ (1600 - (y - 1 - (k : Int))).toNat (y - 1 - k) (by omega)).1
     rw [show y - 1 - (k : Int) + (((1600 - (y - 1 - (k : Int))).toNat : Nat) : Int) = 1600 by omega] at hm2
     omega
    ·omega
   exact RI n hn d hd m (y - 1 - k) (by omega) (by omega)
  ·rw [ah hlt]
   exact ⟨y, rfl, by omega, hy.1, hy.2⟩
theorem WF (n : Nat) (hn : 10000 < n) (d : Int) (hd : -130000 ≤ d ∧ d ≤ 1170000) : ∀ (m : Nat) (y : Int), (6000 - y).toNat < m → 1600 ≤ y → oU y ≤ d → ∃ y', eO n m d y = some y' ∧ InYear y' d ∧ 1600 ≤ y'
 | 0, y, h, hy, hb => by
  have h1 := N8
  by_cases hq : 5200 < y
  ·have := Jj (a := 5200) (b := y) (by omega) (by omega)
   omega
  ·omega
 | m + 1, y, h, hy, hb => by
  have h1 := N8
  have hyu : y ≤ 5200 := by
   by_cases hq : 5200 < y
   ·have := Jj (a := 5200) (b := y) (by omega) (by omega)
    omega
   ·omega
  have hbb := KV (y + 1) (by omega)
  rw [eO, iR, wi (y + 1) (by omega) (by omega), Mg n (y + 1) hn (by omega)]
  simp only [Option.bind_some]
  by_cases hge : d ≥ oU (y + 1)
  ·rw [aa hge]
   simp (disch := omega) only [wi, td0]
   obtain ⟨k, hk⟩ : ∃ k : Nat, (d - oU (y + 1)) / 366 = (k : Int) := ⟨((d - oU (y + 1)) / 366).toNat, by omega⟩
   rw [hk]
   have hm := (IJ k (y + 1) (by omega)).2
   exact WF n hn d hd m (y + 1 + k) (by omega) (by omega) (by omega)
  ·rw [ah hge]
   exact ⟨y, rfl, ⟨hb, by omega⟩, hy⟩
theorem VF (n : Nat) (hn : 20000 < n) (d : Int) (hd : -130000 ≤ d ∧ d ≤ 1170000) : ∃ y, kT n d = some y ∧ InYear y d ∧ 1600 ≤ y := by
 obtain ⟨y1, h1, h2, h3, _⟩ := RI n (by omega) d hd n 1970 (by omega) (by omega)
 obtain ⟨y2, h4, h5, h6⟩ := WF n (by omega) d hd n y1 (by omega) h3 h2
 refine ⟨y2, ?_, h5, h6⟩
 unfold kT kR
 rw [h1]
 simp only [Option.bind_some]
 rw [h4]
 rfl
theorem ZM (n m : Nat) (hn : 10000 < n) (r : RuleV) (ha : qV r.a = true) (hb : qV r.b = true) (h1 : -89999 ≤ r.off ∧ r.off ≤ 89999) (h2 : -89999 ≤ r.doff ∧ r.doff ≤ 89999)
 (t y Y : Int) (hy : 2 ≤ y ∧ y ≤ 9998) (hY : 2 ≤ Y ∧ Y ≤ 9996) (hle : y ≤ Y + 1) (s : Bool × Int × Bool) :
 cZ n (m + 1) t Y s.2.1 s.2.2 s.1 y r.std r.dst r.off r.doff r.a.k r.a.m r.a.w r.a.d r.a.t r.b.k r.b.m r.b.w r.b.d r.b.t
 = cZ n m t Y (kX r t y s).2.1 (kX r t y s).2.2 (kX r t y s).1 (y + 1) r.std r.dst r.off r.doff r.a.k r.a.m r.a.w r.a.d r.a.t r.b.k r.b.m r.b.w r.b.d r.b.t := by
 have b1 := Jk r.a y ha (by omega)
 have b2 := Jk r.b y hb (by omega)
 obtain ⟨met, latest, summer⟩ := s
 rw [cZ, jh, wi (Y + 1) (by omega) (by omega), aa hle, sQ, mE, OL n r.a y hn ha (by omega), OL n r.b y hn hb (by omega)]
 simp only [Option.bind_some]
 rw [wi (om r.a y - r.off) (by omega) (by omega), wi (om r.b y - r.doff) (by omega) (by omega)]
 have hj2 : oQ n t latest summer met (om r.a y - r.off) = some ((Qo t (om r.a y - r.off) true (met, latest, summer)).2.1, (Qo t (om r.a y - r.off) true (met, latest, summer)).2.2, (Qo t (om r.a y - r.off) true (met, latest, summer)).1) := by
  rw [oQ, mr, sO, mq]
  unfold Qo
  dsimp only
  generalize om r.a y - r.off = u
  by_cases q1 : u ≤ t
  ·rw [aa q1]
   cases met with
   | false => simp [q1]
   | true =>
    by_cases q2 : latest < u
    ·simp [q1, q2]
    ·simp [q1, q2]
  ·rw [ah q1]
   simp [q1]
 rw [hj2]
 simp only [Option.bind_some]
 generalize hs2 : Qo t (om r.a y - r.off) true (met, latest, summer) = s2
 obtain ⟨met2, latest2, summer2⟩ := s2
 have hstep : kX r t y (met, latest, summer) = Qo t (om r.b y - r.doff) false (met2, latest2, summer2) := by unfold kX; rw [hs2]
 rw [hstep]
 rw [sP, mD]
 unfold Qo
 dsimp only
 rw [wi (y + 1) (by omega) (by omega)]
 generalize om r.b y - r.doff = u
 by_cases q1 : u ≤ t
 ·rw [aa q1]
  cases met2 with
  | false => simp [q1]
  | true =>
   by_cases q2 : latest2 ≤ u
   ·have q3 : latest2 < u ∨ u = latest2 := by omega
    simp [q1, q2, q3]
   ·have q3 : ¬ (latest2 < u ∨ u = latest2) := by omega
    simp [q1, q2, q3]
 ·rw [ah q1]
  simp [q1]
theorem rat_val (n : Nat) (r : RuleV) (s : Int) (hn : 20000 < n) (h : gL r = true) (hd : r.dst ≠ []) :
 ∃ y, InYear y ((jY s + r.off) / 86400) ∧ 1600 ≤ y ∧ y ≤ 5200 ∧ dE n r.std r.dst r.off r.doff r.a.k r.a.m r.a.w r.a.d r.a.t r.b.k r.b.m r.b.w r.b.d r.b.t s = some (Mh r (jY s) y) := by
 obtain ⟨h1, h2, h3, h4⟩ := CP h
 obtain ⟨h4, _, h5, h6, h7, h8⟩ := h4.resolve_left (fun q => hd q.1)
 have l1 : r.std.length ≤ 10 := by unfold ui at h1; simp only [Bool.and_eq_true, decide_eq_true_eq] at h1; exact h1.1.2
 have l2 : r.dst.length ≤ 10 := by unfold ui at h4; simp only [Bool.and_eq_true, decide_eq_true_eq] at h4; exact h4.1.2
 have hc := RG s
 obtain ⟨y, k1, k2, k3⟩ := VF n hn ((jY s + r.off) / 86400) (by omega)
 have hy := WE (by omega) k2 (by omega)
 refine ⟨y, k2, hy.1, hy.2, ?_⟩
 unfold dE jD
 rw [rright_val n _ _ _ _ _ _ _ _ _ _ _ _ _ _ (by omega) (by omega) (by omega) (by omega)]
 rw [show gL ⟨r.std, r.dst, r.off, r.doff, ⟨r.a.k, r.a.m, r.a.w, r.a.d, r.a.t⟩, ⟨r.b.k, r.b.m, r.b.w, r.b.d, r.b.t⟩⟩ = true from h]
 simp only [Option.bind_some, Bool.not_true, cond_false]
 rw [show (r.dst == ([] : Str)) = false by simpa using hd, cond_false]
 change ((mg n (IntKind.i64.wrap (jY s + r.off)) 86400).bind fun o316 => (kT n o316).bind fun o329 => (cZ n n (jY s) o329 0 false false (IntKind.i64.wrap (o329 - 2)) r.std r.dst r.off r.doff r.a.k r.a.m r.a.w r.a.d r.a.t r.b.k r.b.m r.b.w r.b.d r.b.t).bind _) = _
 rw [wi (jY s + r.off) (by omega) (by omega), VE n _ (by omega)]
 simp only [Option.bind_some]
 rw [k1]
 simp only [Option.bind_some]
 rw [wi (y - 2) (by omega) (by omega)]
 obtain ⟨k, hk⟩ : ∃ k, n = k + 1 + 1 + 1 + 1 + 1 := ⟨n - 5, by omega⟩
 have st := fun m (z : Int) (hz : y - 2 ≤ z ∧ z ≤ y + 1) s' => ZM n m (by omega) r h7 h8 (by omega) (by omega) (jY s) z y (by omega) (by omega) hz.2 s'
 conv => lhs; arg 1; arg 2; rw [hk]
 rw [st _ (y - 2) (by omega) (false, 0, false), st _ (y - 2 + 1) (by omega), st _ (y - 2 + 1 + 1) (by omega), st _ (y - 2 + 1 + 1 + 1) (by omega)]
 rw [cZ, jh, wi (y + 1) (by omega) (by omega), ah (by omega)]
 simp only [Option.bind_some]
 unfold Mh VD
 rw [show y - 2 + 1 = y - 1 by omega, show y - 1 + 1 = y by omega]
 cases (kX r (jY s) (y + 1) (kX r (jY s) y (kX r (jY s) (y - 1) (kX r (jY s) (y - 2) (false, 0, false))))).2.2 <;> rfl
theorem RJ (n : Nat) (r : RuleV) (s : Int) (h : gL r = true) (hd : r.dst = []) (hs : r.std.length < 9223372036854775808) (hn : r.std.length < n) :
 dE n r.std r.dst r.off r.doff r.a.k r.a.m r.a.w r.a.d r.a.t r.b.k r.b.m r.b.w r.b.d r.b.t s = some (r.off, false) := by
 unfold dE jD
 rw [rright_val n _ _ _ _ _ _ _ _ _ _ _ _ _ _ hs hn (by rw [hd]; simp) (by rw [hd]; simp; omega)]
 rw [show gL ⟨r.std, r.dst, r.off, r.doff, ⟨r.a.k, r.a.m, r.a.w, r.a.d, r.a.t⟩, ⟨r.b.k, r.b.m, r.b.w, r.b.d, r.b.t⟩⟩ = true from h, hd]
 rfl
theorem aaU (n : Nat) (r : RuleV) (s : Int) (h : gL r = false) (hs : r.std.length < 9223372036854775808) (hn : r.std.length < n) (hs' : r.dst.length < 9223372036854775808) (hn' : r.dst.length < n) :
 dE n r.std r.dst r.off r.doff r.a.k r.a.m r.a.w r.a.d r.a.t r.b.k r.b.m r.b.w r.b.d r.b.t s = some (0, false) := by
 unfold dE jD
 rw [rright_val n _ _ _ _ _ _ _ _ _ _ _ _ _ _ hs hn hs' hn']
 rw [show gL ⟨r.std, r.dst, r.off, r.doff, ⟨r.a.k, r.a.m, r.a.w, r.a.d, r.a.t⟩, ⟨r.b.k, r.b.m, r.b.w, r.b.d, r.b.t⟩⟩ = false from h]
 rfl
theorem aaV (n : Nat) (r : RuleV) (s : Int) (hn : 20000 < n) (hs : r.std.length < 9223372036854775808) (h1 : r.std.length < n) (hs' : r.dst.length < 9223372036854775808) (h1' : r.dst.length < n) :
 ∃ o, sM n r.std r.dst r.off r.doff r.a.k r.a.m r.a.w r.a.d r.a.t r.b.k r.b.m r.b.w r.b.d r.b.t s = some o ∧ dE n r.std r.dst r.off r.doff r.a.k r.a.m r.a.w r.a.d r.a.t r.b.k r.b.m r.b.w r.b.d r.b.t s = some o := by
 cases h : gL r with
 | false => exact ⟨_, abK n r s h hs h1 hs' h1', aaU n r s h hs h1 hs' h1'⟩
 | true =>
  by_cases hd : r.dst = []
  ·exact ⟨_, ZL n r s (by omega) h hd, RJ n r s h hd hs h1⟩
  ·obtain ⟨y, a1, a2, a3, a4⟩ := at_val n r s (by omega) h hd
   obtain ⟨z, b1, b2, b3, b4⟩ := rat_val n r s hn h hd
   have := InYear.one (by omega) (by omega) a1 b1
   subst this
   exact ⟨_, a4, b4⟩
end Go.Proofs.YtiegmpnagcdgoaaGreatDoor.H
namespace Go.Proofs.YtiegmpnagcdgoaaGreatDoor.H.Z
open Go.Sh Go.RowKit
set_option linter.unusedSimpArgs false
set_option linter.unusedVariables false
abbrev Ty := Int × Bool × Str
def cT (t : Ty) : List AV := [.int .i64 t.1, .bool t.2.1, .str t.2.2]
theorem wi (x : Int) (h : -9223372036854775808 ≤ x) (h2 : x ≤ 9223372036854775807) : IntKind.i64.wrap x = x := IntWalk.i64_in _ (by omega)
def okC (low : Int) (c : UInt8) : Bool := !decide ((c.toNat : Int) < low) && !decide ((c.toNat : Int) > 126)
def textS (s : Str) (many low : Int) : Bool := decide ((s.length : Int) ≤ many) && s.all (okC low)
theorem ZN (s : Str) (i : Nat) : (pJ s)[i]? = (s[i]?).map fun c => (c.toNat : Int) := by simp [pJ]
theorem Qp (n : Nat) (low : Int) (s : Str) (hs : s.length < 4000000000000000000) : ∀ (r : Str) (i m : Nat), s.drop i = r → r.length < m →
 (r.all (okC low) = true → aH n m (pJ s) (s.length : Int) (i : Int) low = some (Sum.inr low)) ∧
 (r.all (okC low) = false → ∃ j : Int, 0 ≤ j ∧ aH n m (pJ s) (s.length : Int) (i : Int) low = some (Sum.inl (j, low)))
 | [], i, m + 1, h, _ => by
  have hi := drop_nil h
  refine ⟨fun _ => ?_, fun h => by simp at h⟩
  simp only [aH, bV]
  rw [ah (by omega)]
 | c :: r, i, m + 1, h, hm => by
  obtain ⟨h1, h2, h3⟩ := kW h
  obtain ⟨ih1, ih2⟩ := Qp n low s hs r (i + 1) m h2 (by simpa using hm)
  have e : aH n (m + 1) (pJ s) (s.length : Int) (i : Int) low = cond (!okC low c) (some (Sum.inl ((i : Int), low))) (aH n m (pJ s) (s.length : Int) ((i + 1 : Nat) : Int) low) := by
   simp only [aH, bV]
   rw [aa (by omega), aa (by omega), Int.toNat_natCast, ZN, h1, wG _ (by omega)]
   simp only [Option.map_some, Option.bind_some, He, yH, okC]
   by_cases hl : (c.toNat : Int) < low
   ·simp [hl]
   ·by_cases hh : (c.toNat : Int) > 126 <;> simp [hl, hh]
  rw [e]
  cases hc : okC low c with
  | true =>
   simp only [List.all_cons, hc, Bool.true_and, Bool.not_true, cond_false]
   exact ⟨ih1, ih2⟩
  | false => simp [hc]
theorem Ux (n : Nat) (s : Str) (many low : Int) (hm : many < 4000000000000000000) (hn : (s.length : Int) ≤ many → s.length < n) : Dj n s many low = some (textS s many low) := by
 unfold Dj Di textS
 by_cases h : (s.length : Int) ≤ many
 ·rw [aa h, decide_eq_true h, Bool.true_and]
  have hn' := hn h
  obtain ⟨h1, h2⟩ := Qp n low s (by omega) s 0 n (by simp) hn'
  simp only [mR, eT, pM, gN, Ls]
  cases hc : s.all (okC low) with
  | true =>
   have := h1 hc
   simp only [Int.natCast_zero] at this
   rw [this]
   simp
  | false =>
   obtain ⟨j, hj, this⟩ := h2 hc
   simp only [Int.natCast_zero] at this
   rw [this]
   simp [hj]
 ·rw [ah h, decide_eq_false h, Bool.false_and]
def okT (t : Ty) : Bool := !decide (t.1 < -89999) && !decide (t.1 > 93599) && !(t.2.2 == []) && textS t.2.2 15 33
def Qq : List Ty → Nat
 | [] => 0
 | t :: r => t.2.2.length + 1 + Qq r
theorem ZO (n : Nat) (hn : 16 ≤ n) (h0 : List (List AV)) (h1 h2 : List Int) (h3 : Str) (t : Ty) : yJ n h0 h1 h2 h3 t.1 t.2.1 t.2.2 = some (!okT t, h0, h1, h2, h3, t.1, t.2.1, t.2.2) := by
 unfold yJ vX okT
 rw [Ux n t.2.2 15 33 (by omega) (fun h => by omega)]
 by_cases c1 : t.1 < -89999
 ·simp [c1]
 ·by_cases c2 : t.1 > 93599
  ·simp [c1, c2]
  ·cases c3 : t.2.2 == [] <;> simp [c1, c2, c3]
theorem okT_len {t : Ty} (h : okT t = true) : t.2.2.length ≤ 15 := by
 simp only [okT, textS, Bool.and_eq_true, decide_eq_true_eq] at h
 omega
theorem Uy (n : Nat) (hn : 16 ≤ n) (ts : List Ty) (h0 : List (List AV)) (h1 h2 : List Int) (h3 : Str) (hts : ts.length ≤ 255) : ∀ (r : List Ty) (i m x : Nat), ts.drop i = r → r.length < m → x ≤ 16 * i →
 qw n m (x : Int) (ts.map cT) (ts.length : Int) (i : Int) h0 h1 h2 h3 = some (if r.all okT then Sum.inr (((x + Qq r : Nat) : Int), h0, h1, h2, h3) else Sum.inl ())
 | [], i, m + 1, x, h, _, _ => by
  have hi := drop_nil h
  simp only [qw, rZ]
  rw [ah (by omega)]
  simp [Qq]
 | t :: r, i, m + 1, x, h, hm, hx => by
  obtain ⟨k1, k2, k3⟩ := kW h
  simp only [qw, rZ]
  rw [aa (by omega), aa (by omega), Int.toNat_natCast, List.getElem?_map, k1, wG _ (by omega)]
  simp only [Option.map_some, Option.bind_some, cT, unc, xS, yC, yD, unn, ZO n hn]
  cases hc : okT t with
  | false => simp [hc]
  | true =>
   have hl := okT_len hc
   simp only [hc, Bool.not_true, cond_false]
   have e : IntKind.i64.wrap ((x : Int) + IntKind.i64.wrap ((t.2.2.length : Int) + 1)) = ((x + (t.2.2.length + 1) : Nat) : Int) := by
    rw [wi ((t.2.2.length : Int) + 1) (by omega) (by omega), wi _ (by omega) (by omega)]; omega
   rw [e, Uy n hn ts h0 h1 h2 h3 hts r (i + 1) m _ k2 (by simpa using hm) (by omega)]
   simp only [List.all_cons, hc, Bool.true_and, Qq, Nat.add_assoc, decide_true, cond_true]
def okAt (ti ix : List Int) (len k : Nat) : Bool := decide (0 ≤ ix.getD k 0) && decide (ix.getD k 0 < len) && (k == 0 || decide (ti.getD (k - 1) 0 < ti.getD k 0))
theorem aaW {l : List Int} {i : Nat} {v : Int} (h : l[i]? = some v) : l.getD i 0 = v := by rw [List.getD_eq_getElem?_getD, h]; rfl
theorem get_of {l : List Int} {i : Nat} (h : i < l.length) : l[i]? = some (l.getD i 0) := by rw [List.getD_eq_getElem?_getD, List.getElem?_eq_getElem h]; rfl
theorem ZP (n : Nat) (h0 : List (List AV)) (ti ix : List Int) (h3 : Str) (i : Nat) (v : Int) (hv : ix[i]? = some v) (hi : i < ti.length) (hb : ti.length ≤ 4000) : yK n (i : Int) v h0 ti ix h3 = some (!okAt ti ix h0.length i, h0, ti, ix, h3) := by
 unfold yK vY okAt
 rw [aaW hv]
 by_cases c1 : v < 0
 ·rw [aa c1]; simp [show ¬ (0 ≤ v) by omega]
 ·rw [ah c1, decide_eq_true (show 0 ≤ v by omega)]
  by_cases c2 : v ≥ (h0.length : Int)
  ·rw [aa c2]; simp [show ¬ (v < (h0.length : Int)) by omega]
  ·rw [ah c2, decide_eq_true (show v < (h0.length : Int) by omega)]
   by_cases c3 : (i : Int) > 0
   ·rw [aa c3, aa (by omega), Int.toNat_natCast, get_of hi, Option.bind_some, wi _ (by omega) (by omega), aa (by omega), show ((i : Int) - 1).toNat = i - 1 by omega, get_of (show i - 1 < ti.length by omega), Option.bind_some]
    have : (i == 0) = false := by simp; omega
    rw [this]
    by_cases c4 : ti.getD i 0 ≤ ti.getD (i - 1) 0
    ·rw [decide_eq_true c4, decide_eq_false (show ¬ (ti.getD (i - 1) 0 < ti.getD i 0) by omega)]; rfl
    ·rw [decide_eq_false c4, decide_eq_true (show ti.getD (i - 1) 0 < ti.getD i 0 by omega)]; rfl
   ·rw [ah c3]
    have : i = 0 := by omega
    subst this
    simp
theorem Uz (n : Nat) (h0 : List (List AV)) (ti ix : List Int) (h3 : Str) (hl : ti.length = ix.length) (hb : ti.length ≤ 4000) : ∀ (k i m : Nat), i + k = ix.length → k < m →
 qx n m ix (ix.length : Int) (i : Int) h0 ti ix h3 = some (if (List.range' i k).all (okAt ti ix h0.length) then Sum.inr (h0, ti, ix, h3) else Sum.inl (h0, ti, ix, h3))
 | 0, i, m + 1, h, _ => by
  simp only [qx, r9]
  rw [ah (by omega)]
  simp
 | k + 1, i, m + 1, h, hm => by
  simp only [qx, r9]
  have hi : i < ix.length := by omega
  rw [aa (by omega), aa (by omega), Int.toNat_natCast, get_of hi, wG _ (by omega)]
  simp only [Option.bind_some, ZP n h0 ti ix h3 i _ (get_of hi) (by omega) hb, List.range'_succ, List.all_cons]
  cases hc : okAt ti ix h0.length i with
  | false => simp
  | true =>
   simp only [Bool.not_true, cond_false, Bool.true_and]
   exact Uz n h0 ti ix h3 hl hb k (i + 1) m (by omega) (by omega)
def RightS (ts : List Ty) (ti ix : List Int) (foot : Str) : Bool :=
 decide (1 ≤ ts.length) && decide (ts.length ≤ 255) && decide (ti.length ≤ 4000) && decide (ti.length = ix.length) && textS foot 100 32 && ts.all okT && (List.range' 0 ix.length).all (okAt ti ix ts.length) && decide (Qq ts ≤ 256)
theorem right_val (n : Nat) (hn : 4001 ≤ n) (ts : List Ty) (ti ix : List Int) (foot : Str) : AR n (ts.map cT) ti ix foot = some (RightS ts ti ix foot) := by
 unfold AR AQ CX vW RightS
 simp only [List.length_map]
 by_cases c1 : (ts.length : Int) < 1
 ·rw [aa c1]; simp [show ¬ (1 ≤ ts.length) by omega]
 rw [ah c1, decide_eq_true (show 1 ≤ ts.length by omega)]
 by_cases c2 : (ts.length : Int) > 255
 ·rw [aa c2]; simp [show ¬ (ts.length ≤ 255) by omega]
 rw [ah c2, decide_eq_true (show ts.length ≤ 255 by omega)]
 by_cases c3 : (ti.length : Int) > 4000
 ·rw [aa c3]; simp [show ¬ (ti.length ≤ 4000) by omega]
 rw [ah c3, decide_eq_true (show ti.length ≤ 4000 by omega)]
 by_cases c4 : ti.length = ix.length
 case neg =>
  have : ((ti.length : Int) != (ix.length : Int)) = true := by simp; omega
  rw [this]; simp [c4]
 have : ((ti.length : Int) != (ix.length : Int)) = false := by simp; omega
 rw [this, decide_eq_true c4, Ux n foot 100 32 (by omega) (fun h => by omega)]
 simp only [cond_false, Option.bind_some, Bool.true_and]
 cases c5 : textS foot 100 32 with
 | false => simp
 | true =>
  have e1 := Uy n (by omega) ts (ts.map cT) ti ix foot (by omega) ts 0 n 0 (by simp) (by omega) (by omega)
  simp only [Int.natCast_zero, Nat.zero_add] at e1
  simp only [Bool.not_true, cond_false, List.length_map, e1, Option.bind_some]
  cases c6 : ts.all okT with
  | false => simp
  | true =>
   have e2 := Uz n (ts.map cT) ti ix foot c4 (by omega) ix.length 0 n (by omega) (by omega)
   simp only [Int.natCast_zero, List.length_map] at e2
   simp only [if_true, Sum.elim_inr, e2, Option.bind_some]
   cases c7 : (List.range' 0 ix.length).all (okAt ti ix ts.length) with
   | false => simp
   | true =>
    simp only [if_true, Sum.elim_inr, Bool.true_and]
    congr 1
    rw [decide_eq_decide]; omega
end Go.Proofs.YtiegmpnagcdgoaaGreatDoor.H.Z
namespace Go.Sh
open Go.RowKit
set_option linter.unusedSimpArgs false
set_option linter.unusedVariables false
def Mi (W : World) (b : Nat) : Nat := match W.heap[b]? with
 | some (.cells c _ _) => c.size
 | _ => 0
def gW (W : World) : Gh := ⟨[], Mi W⟩
theorem RL {W : World} {a : Addr} {v : Value} (h : W.cell? a = some v) : a.spot = none ∧ a.off < Mi W a.block := by
 unfold World.cell? at h
 unfold Mi
 split at h
 ·rename_i c t f hb
  simp only [hb]
  split at h
  ·cases h
  ·rename_i hs
   refine ⟨by simpa using hs, ?_⟩
   obtain ⟨h1, _⟩ := Array.getElem?_eq_some_iff.1 h
   exact h1
 ·cases h
theorem XV {W : World} {b : Nat} (h : 0 < Mi W b) : b < W.heap.size := by
 unfold Mi at h
 split at h
 ·rename_i hb
  obtain ⟨h1, _⟩ := Array.getElem?_eq_some_iff.1 hb
  exact h1
 ·omega
inductive LD where
 | int (k : IntKind)
 | bool
 | str
 | ints (k : IntKind)
 | strs
 | sl (es : List LD)
mutual
def LD.sat : LD → AV → Prop
 | .int k, a => ∃ n, a = .int k n ∧ (Lit.int k n).wf = true
 | .bool, a => ∃ b, a = .bool b
 | .str, a => ∃ s, a = .str s ∧ s.length ≤ 9223372036854775807
 | .ints k, a => ∃ l, a = .ints false k l ∧ ∀ n ∈ l, (Lit.int k n).wf = true
 | .strs, a => ∃ l, a = .strs false l
 | .sl es, a => ∃ els, a = .sl false es.length els ∧ ∀ e ∈ els, LD.rz es e
def LD.rz : List LD → List AV → Prop
 | [], az => az = []
 | d :: ds, az => ∃ a bs, az = a :: bs ∧ LD.sat d a ∧ LD.rz ds bs
end
theorem Kw : ∀ {ds es : List LD} {az bs : List AV}, LD.rz ds az → LD.rz es bs → LD.rz (ds ++ es) (az ++ bs)
 | [], _, _, _, h, k => by simp only [LD.rz] at h; subst h; exact k
 | d :: ds, _, _, _, h, k => by
  simp only [LD.rz] at h
  obtain ⟨a, bs, rfl, h1, h2⟩ := h
  simp only [List.cons_append, LD.rz]
  exact ⟨a, _, rfl, h1, Kw h2 k⟩
theorem OM : ∀ {ds : List LD} {az : List AV}, LD.rz ds az → az.length = ds.length
 | [], _, h => by simp only [LD.rz] at h; subst h; rfl
 | d :: ds, _, h => by
  simp only [LD.rz] at h
  obtain ⟨a, bs, rfl, h1, h2⟩ := h
  simp [OM h2]
theorem Mj {g : Gh} {w : World} : ∀ {az bs : List AV} {vs us : List Value}, VRs g w az vs → VRs g w bs us → VRs g w (az ++ bs) (vs ++ us)
 | [], _, _, _, h, k => by simp only [VRs] at h; subst h; exact k
 | a :: az, _, _, _, h, k => by
  simp only [VRs] at h
  obtain ⟨v, us, rfl, h1, h2⟩ := h
  simp only [List.cons_append, VRs]
  exact ⟨v, _, rfl, h1, Mj h2 k⟩
theorem UA {d : LD} {a : AV} {v : Value} (h : LD.sat d a) : owns a v = [] := by
 cases d <;> simp only [LD.sat] at h
 ·obtain ⟨n, rfl, _⟩ := h; cases v <;> rfl
 ·obtain ⟨n, rfl⟩ := h; cases v <;> rfl
 ·obtain ⟨n, rfl, _⟩ := h; cases v <;> rfl
 ·obtain ⟨n, rfl, _⟩ := h; cases v <;> rfl
 ·obtain ⟨n, rfl⟩ := h; cases v <;> rfl
 ·obtain ⟨n, rfl, _⟩ := h; cases v <;> rfl
theorem RN : ∀ {ds : List LD} {az : List AV} (vs : List Value), LD.rz ds az → aD az vs = []
 | [], _, vs, h => by simp only [LD.rz] at h; subst h; cases vs <;> rfl
 | d :: ds, _, vs, h => by
  simp only [LD.rz] at h
  obtain ⟨a, bs, rfl, h1, h2⟩ := h
  cases vs with
  | nil => rfl
  | cons v vs => simp only [aD, UA h1, RN vs h2, List.nil_append]
theorem XW {d : LD} {a : AV} (h : LD.sat d a) : xe a = true := by
 cases d <;> simp only [LD.sat] at h
 ·obtain ⟨n, rfl, _⟩ := h; rfl
 ·obtain ⟨n, rfl⟩ := h; rfl
 ·obtain ⟨n, rfl, _⟩ := h; rfl
 ·obtain ⟨n, rfl, _⟩ := h; rfl
 ·obtain ⟨n, rfl⟩ := h; rfl
 ·obtain ⟨n, rfl, _⟩ := h; rfl
theorem Qr : ∀ {ds : List LD} {az : List AV}, LD.rz ds az → nO az = true
 | [], _, h => by simp only [LD.rz] at h; subst h; rfl
 | d :: ds, _, h => by
  simp only [LD.rz] at h
  obtain ⟨a, bs, rfl, h1, h2⟩ := h
  simp only [nO, XW h1, Qr h2, Bool.and_self]
theorem UB {g : Gh} {w : World} {d : LD} {a : AV} {v : Value} (h : LD.sat d a) (hv : VR g w a v) : v.oneCell' = true := by
 cases d <;> simp only [LD.sat] at h
 ·obtain ⟨n, rfl, _⟩ := h; simp only [VR] at hv; subst hv; rfl
 ·obtain ⟨n, rfl⟩ := h; simp only [VR] at hv; subst hv; rfl
 ·obtain ⟨n, rfl, _⟩ := h; simp only [VR] at hv; obtain ⟨s, rfl, _⟩ := hv; rfl
 ·obtain ⟨n, rfl, _⟩ := h; simp only [VR] at hv; obtain ⟨a, n, c, rfl, _⟩ := hv; rfl
 ·obtain ⟨n, rfl⟩ := h; simp only [VR] at hv; obtain ⟨a, n, c, rfl, _⟩ := hv; rfl
 ·obtain ⟨n, rfl, _⟩ := h; simp only [VR] at hv; obtain ⟨a, n, c, vs, rfl, _⟩ := hv; rfl
theorem Ns {g : Gh} {w : World} : ∀ {ds : List LD} {az : List AV} {vs : List Value}, LD.rz ds az → VRs g w az vs → ∀ u ∈ vs, u.oneCell' = true
 | [], _, _, h, k => by simp only [LD.rz] at h; subst h; simp only [VRs] at k; subst k; intro u hu; cases hu
 | d :: ds, _, _, h, k => by
  simp only [LD.rz] at h
  obtain ⟨a, bs, rfl, h1, h2⟩ := h
  simp only [VRs] at k
  obtain ⟨v, us, rfl, k1, k2⟩ := k
  intro u hu
  rcases List.mem_cons.1 hu with rfl | hu
  ·exact UB h1 k1
  ·exact Ns h2 k2 u hu
def SN : List LD → LD
 | [.int k] => .ints k
 | [.str] => .strs
 | es => .sl es
def ZQ (P : Program) (g : TypeId → Option (List LD)) : Nat → List Field → Option (List LD)
 | _, [] => some []
 | off, f :: fs => match g f.type with
  | some l => if f.offset = off ∧ l.length = P.cellsOf f.type then (ZQ P g (off + l.length) fs).map (l ++ ·) else none
  | none => none
def UC (P : Program) : Nat → TypeId → Option (List LD)
 | 0, _ => none
 | n + 1, t => match P.underlying t with
  | some .bool => some [.bool]
  | some (.int k) => some [.int k]
  | some .string => some [.str]
  | some (.slice e) => match UC P n e with
   | some es => if es.length = P.cellsOf e ∧ 0 < es.length then some [SN es] else none
   | none => none
  | some (.struct fs) => match ZQ P (UC P n) 0 fs.toList with
   | some l => if l.length = P.cellsOf t then some l else none
   | none => none
  | some (.array k e) => match UC P n e with
   | some es => if es.length = P.cellsOf e ∧ k * es.length = P.cellsOf t then some (List.replicate k es).flatten else none
   | none => none
  | _ => none
variable {H : Type} {enc : TypeId × Value → H} {P : Program} {W : World}
theorem XX {a : Addr} {n : Nat} {cs : List Value} (h : W.cells? 0 a n = some cs) : cs.length = n ∧ ∀ i, i < n → W.cell? (a.add i) = cs[i]? := by
 unfold World.cells? at h
 rw [if_pos (Nat.zero_le _)] at h
 have h1 := mapM_some_length h
 simp only [List.length_range] at h1
 exact ⟨h1, fun i hi => mapM_some_get h i i (by simp [hi])⟩
theorem add_add (a : Addr) (i j : Nat) : (a.add i).add j = a.add (i + j) := by
 unfold Addr.add
 by_cases hi : i = 0
 ·subst hi; simp
 ·by_cases hj : j = 0
  ·subst hj; simp [hi]
  ·simp only [if_neg hi, if_neg hj, if_neg (show ¬ i + j = 0 by omega)]
   simp [Nat.add_assoc]
theorem UD {a : Addr} {q : Nat} {v : Value} (h : W.cell? (a.add q) = some v) (hs : a.spot = none) : a.off + q < Mi W a.block ∧ W.cell? ⟨a.block, a.off + q, none⟩ = some v := by
 have h2 : a.add q = ⟨a.block, a.off + q, none⟩ := by
  unfold Addr.add
  split
  ·rename_i h0
   subst h0
   cases a
   simp only at hs
   subst hs
   simp
  ·rfl
 rw [h2] at h
 exact ⟨(RL h).2, h⟩
theorem elems {n : Nat} {e : TypeId} {es : List LD} (hsz : es.length = P.cellsOf e) (hpos : 0 < es.length) (a : Addr) (len : Nat)
 (hel : ∀ i, i < len → ∃ az cs', W.cells? 0 (a.add (i * P.cellsOf e)) (P.cellsOf e) = some cs' ∧ VRs (gW W) W az cs' ∧ LD.rz es az) :
 ∃ els vs, els.length = len ∧ vs.length = len * es.length ∧ VRss (gW W) W els vs ∧ (∀ x ∈ els, LD.rz es x) ∧ (∀ q, q < vs.length → W.cell? (a.add q) = vs[q]?) ∧ ∀ u ∈ vs, u.oneCell' = true := by
 induction len with
 | zero => exact ⟨[], [], rfl, by simp, by simp [VRss], by simp, by simp, by simp⟩
 | succ len ih =>
  obtain ⟨els, vs, h1, h2, h3, h4, h5, h6⟩ := ih fun i hi => hel i (by omega)
  obtain ⟨az, cs', k1, k2, k3⟩ := hel len (by omega)
  obtain ⟨c1, c2⟩ := XX k1
  refine ⟨els ++ [az], vs ++ cs', by simp [h1], by simp [h2, c1, hsz, Nat.add_mul], VRss.append h3 (by simp only [VRss]; exact ⟨cs', [], by simp, k2, rfl⟩), ?_, ?_, ?_⟩
  ·intro x hx
   rcases List.mem_append.1 hx with hx | hx
   ·exact h4 x hx
   ·simp at hx; subst hx; exact k3
  ·intro q hq
   by_cases hlt : q < vs.length
   ·rw [List.getElem?_append_left hlt]; exact h5 q hlt
   ·rw [List.getElem?_append_right (by omega)]
    have hq' : q - vs.length < P.cellsOf e := by simp only [List.length_append] at hq; omega
    have := c2 (q - vs.length) hq'
    rw [add_add] at this
    rw [← this, ← hsz, ← h2]
    congr 2
    omega
  ·intro u hu
   rcases List.mem_append.1 hu with hu | hu
   ·exact h6 u hu
   ·exact Ns k3 k2 u hu
theorem WG {k : IntKind} : ∀ {els : List (List AV)} {vs : List Value}, VRss (gW W) W els vs → (∀ x ∈ els, LD.rz [.int k] x) → ∃ l : List Int, vs = l.map (Value.int k) ∧ l.length = els.length ∧ ∀ n ∈ l, (Lit.int k n).wf = true
 | [], vs, h, _ => by simp only [VRss] at h; subst h; exact ⟨[], rfl, rfl, by simp⟩
 | e :: els, vs, h, hs => by
  simp only [VRss] at h
  obtain ⟨p, q, rfl, h1, h2⟩ := h
  obtain ⟨l, rfl, hl, hw⟩ := WG h2 fun x hx => hs x (by simp [hx])
  have he := hs e (by simp)
  simp only [LD.rz] at he
  obtain ⟨a, bs, rfl, ha, rfl⟩ := he
  simp only [LD.sat] at ha
  obtain ⟨n, rfl, hn⟩ := ha
  simp only [VRs, VR] at h1
  obtain ⟨v, us, rfl, rfl, rfl⟩ := h1
  exact ⟨n :: l, rfl, by simp [hl], by intro m hm; rcases List.mem_cons.1 hm with rfl | hm; exact hn; exact hw m hm⟩
theorem WH : ∀ {els : List (List AV)} {vs : List Value}, VRss (gW W) W els vs → (∀ x ∈ els, LD.rz [.str] x) → ∃ l : List Str, vs = l.map (fun s => Value.string ⟨s.toArray⟩) ∧ l.length = els.length
 | [], vs, h, _ => by simp only [VRss] at h; subst h; exact ⟨[], rfl, rfl⟩
 | e :: els, vs, h, hs => by
  simp only [VRss] at h
  obtain ⟨p, q, rfl, h1, h2⟩ := h
  obtain ⟨l, rfl, hl⟩ := WH h2 fun x hx => hs x (by simp [hx])
  have he := hs e (by simp)
  simp only [LD.rz] at he
  obtain ⟨a, bs, rfl, ha, rfl⟩ := he
  simp only [LD.sat] at ha
  obtain ⟨s, rfl, _⟩ := ha
  simp only [VRs, VR] at h1
  obtain ⟨v, us, rfl, ⟨z, rfl, rfl⟩, rfl⟩ := h1
  exact ⟨z.data.toList :: l, by simp, by simp [hl]⟩
theorem RO {es : List LD} (hpos : 0 < es.length) {a : Option Addr} {len cap : Nat} {els : List (List AV)} {vs : List Value} (hlc : len ≤ cap) (h1 : els.length = len) (h2 : vs.length = len * es.length) (h3 : VRss (gW W) W els vs) (h4 : ∀ x ∈ els, LD.rz es x)
 (h5 : 0 < vs.length → ∃ ad, a = some ad ∧ ∀ q, q < vs.length → W.cell? (ad.add q) = vs[q]?) (h6 : ∀ u ∈ vs, u.oneCell' = true) (h7 : a = none → len = 0 ∧ cap = 0) :
 ∃ av, VR (gW W) W av (.slice a len cap) ∧ LD.sat (SN es) av := by
 have hrow : Row (gW W) W false a len cap es.length vs := by
  refine ⟨h2, hlc, Nat.zero_le _, fun hp => ?_, (fun h => by cases h), h7, h6⟩
  obtain ⟨ad, rfl, k5⟩ := h5 hp
  refine ⟨ad, rfl, ?_⟩
  have hs : ad.spot = none := by
   have h0 := k5 0 hp
   rw [List.getElem?_eq_getElem hp] at h0
   exact (RL (a := ad.add 0) h0).1
  have hl := k5 (vs.length - 1) (by omega)
  rw [List.getElem?_eq_getElem (by omega)] at hl
  refine ⟨hs, ?_, fun j hj => ?_⟩
  ·have := (UD hl hs).1
   show ad.off + vs.length ≤ Mi W ad.block
   omega
  ·have hj' := k5 j hj
   rw [List.getElem?_eq_getElem hj] at hj' ⊢
   exact (UD hj' hs).2
 have gen : ∃ av, VR (gW W) W av (.slice a len cap) ∧ LD.sat (.sl es) av := by
  refine ⟨.sl false es.length els, ?_, ?_⟩
  ·simp only [VR]
   exact ⟨a, len, cap, vs, rfl, hrow, h1, fun e he => ⟨OM (h4 e he), Qr (h4 e he)⟩, h3⟩
  ·simp only [LD.sat]
   exact ⟨els, rfl, h4⟩
 unfold SN
 split
 ·rename_i k
  obtain ⟨l, rfl, hl, hw⟩ := WG h3 h4
  refine ⟨.ints false k l, ?_, ?_⟩
  ·simp only [VR]
   exact ⟨a, len, cap, rfl, hrow⟩
  ·simp only [LD.sat]
   exact ⟨l, rfl, hw⟩
 ·obtain ⟨l, rfl, hl⟩ := WH h3 h4
  refine ⟨.strs false l, ?_, ?_⟩
  ·simp only [VR]
   exact ⟨a, len, cap, rfl, hrow⟩
  ·simp only [LD.sat]
   exact ⟨l, rfl⟩
 ·exact gen
theorem OO {sp : Nat → Bool} {held : Bool} {g : TypeId → Option (List LD)} {m : Nat} (hg : ∀ t lds, g t = some lds → ∀ (cs : List Value) x, DataW.trod enc P W 0 sp held m t cs = some x → ∃ az, VRs (gW W) W az cs ∧ LD.rz lds az) :
 ∀ (fs : List Field) (off : Nat) (l : List LD) (cs : List Value), ZQ P g off fs = some l → off + l.length = cs.length → (∀ f ∈ fs, ∃ x, DataW.trod enc P W 0 sp held m f.type ((cs.drop f.offset).take (P.cellsOf f.type)) = some x) → ∃ az, VRs (gW W) W az (cs.drop off) ∧ LD.rz l az
 | [], off, l, cs, h, hl, _ => by
  simp only [ZQ, Option.some.injEq] at h
  subst h
  simp only [List.length_nil, Nat.add_zero] at hl
  exact ⟨[], by simp [VRs]; omega, by simp [LD.rz]⟩
 | f :: fs, off, l, cs, h, hl, hf => by
  simp only [ZQ] at h
  split at h
  ·rename_i d hd
   split at h
   ·rename_i hc
    obtain ⟨h1, h2⟩ := hc
    obtain ⟨l', h3, rfl⟩ := Option.map_eq_some_iff.1 h
    simp only [List.length_append] at hl
    obtain ⟨az', k1, k2⟩ := OO hg fs _ l' cs h3 (by omega) fun f' hf' => hf f' (by simp [hf'])
    obtain ⟨x, hx⟩ := hf f (by simp)
    obtain ⟨az, k3, k4⟩ := hg _ _ hd _ x hx
    refine ⟨az ++ az', ?_, Kw k4 k2⟩
    have e : cs.drop off = (cs.drop off).take d.length ++ cs.drop (off + d.length) := by
     rw [← List.drop_drop, List.take_append_drop]
    rw [e]
    rw [h1, ← h2] at k3
    exact Mj k3 k1
   ·cases h
  ·cases h
theorem opened {sp : Nat → Bool} {held : Bool} : ∀ (n : Nat) (t : TypeId) (lds : List LD), UC P n t = some lds → ∀ (m : Nat) (cs : List Value) (x : DataW H × List MemPlace), DataW.trod enc P W 0 sp held m t cs = some x → ∃ az, VRs (gW W) W az cs ∧ LD.rz lds az := by
 intro n
 induction n with
 | zero => intro t lds h; cases h
 | succ n ih =>
  intro t lds h m cs x hx
  unfold UC at h
  split at h
  ·rename_i hu
   injection h with h; subst h
   obtain ⟨b, rfl, _⟩ := DataW.trod_bool hu hx
   exact ⟨[.bool b], by simp [VRs, VR], by simp [LD.rz, LD.sat]⟩
  ·rename_i k hu
   injection h with h; subst h
   obtain ⟨b, rfl, _, hw⟩ := DataW.trod_int hu hx
   exact ⟨[.int k b], by simp [VRs, VR], by simp [LD.rz, LD.sat, hw]⟩
  ·rename_i hu
   injection h with h; subst h
   obtain ⟨s, rfl, _, hsz⟩ := DataW.trod_string hu hx
   exact ⟨[.str s.data.toList], by simp only [VRs, VR]; exact ⟨_, _, rfl, ⟨s, rfl, rfl⟩, rfl⟩, by simp only [LD.rz, LD.sat]; exact ⟨_, _, rfl, ⟨_, rfl, by simpa [maxLen] using hsz⟩, rfl⟩⟩
  ·rename_i e hu
   split at h
   ·rename_i es hes
    split at h
    ·rename_i hc
     injection h with h; subst h
     rcases Deep.open_slice hu hx with ⟨rfl, _⟩ | ⟨a, len, cap, m', n', D, Pl, rfl, _, hl, _, hm, _, hel⟩
     ·obtain ⟨av, h1, h2⟩ := RO (W := W) (es := es) hc.2 (a := none) (len := 0) (cap := 0) (els := []) (vs := []) (Nat.le_refl _) rfl (by simp) (by simp [VRss]) (by simp) (by simp) (by simp) (fun _ => ⟨rfl, rfl⟩)
      exact ⟨[av], by simp only [VRs]; exact ⟨_, _, rfl, h1, rfl⟩, by simp [LD.rz, h2]⟩
     ·have hlm : len ≤ m' := by rw [hm]; split <;> omega
      obtain ⟨els, vs, h1, h2, h3, h4, h5, h6⟩ := elems (n := n') (W := W) hc.1 hc.2 a len (fun i hi => by
       obtain ⟨cs', k1, k2⟩ := hel i (by omega)
       obtain ⟨az, k3, k4⟩ := ih e es hes _ _ _ k2
       exact ⟨az, cs', k1, k3, k4⟩)
      obtain ⟨av, k1, k2⟩ := RO (W := W) (es := es) hc.2 (a := some a) (cap := cap) hl h1 h2 h3 h4 (fun _ => ⟨a, rfl, h5⟩) h6 (fun h => by cases h)
      exact ⟨[av], by simp only [VRs]; exact ⟨_, _, rfl, k1, rfl⟩, by simp [LD.rz, k2]⟩
    ·cases h
   ·cases h
  ·rename_i fs hu
   split at h
   ·rename_i l hl
    split at h
    ·rename_i hc
     injection h with h; subst h
     obtain ⟨xs, m', rfl, _, hlen, hxl, hf⟩ := DataW.trod_struct hu hx
     obtain ⟨az, h1, h2⟩ := OO (sp := sp) (held := held) (enc := enc) (g := UC P n) (m := m') (fun t lds h cs x hx => ih t lds h m' cs x hx) fs.toList 0 l cs hl (by omega) (fun f hfm => by
      obtain ⟨i, hi, he⟩ := List.mem_iff_getElem.1 hfm
      have hi' : i < fs.size := by simpa using hi
      have := hf i f (by rw [Array.getElem?_eq_getElem hi']; congr)
      rw [this, List.getElem?_eq_getElem (by omega)]
      exact ⟨_, rfl⟩)
     exact ⟨az, by simpa using h1, h2⟩
    ·cases h
   ·cases h
  ·rename_i k e hu
   split at h
   ·rename_i es hes
    split at h
    ·rename_i hc
     injection h with h; subst h
     obtain ⟨xs, m', rfl, _, hlen, hxl, hf⟩ := DataW.trod_array hu hx
     have hk : ∀ j, j ≤ k → ∃ az, VRs (gW W) W az (cs.take (j * es.length)) ∧ LD.rz (List.replicate j es).flatten az := by
      intro j
      induction j with
      | zero => intro _; exact ⟨[], by simp [VRs], by simp [LD.rz]⟩
      | succ j ihj =>
       intro hj
       obtain ⟨az, h1, h2⟩ := ihj (by omega)
       have h3 := hf j (by omega)
       rw [List.getElem?_eq_getElem (by omega)] at h3
       obtain ⟨bs, h4, h5⟩ := ih e es hes _ _ _ h3
       refine ⟨az ++ bs, ?_, ?_⟩
       ·have e1 : cs.take ((j + 1) * es.length) = cs.take (j * es.length) ++ (cs.drop (j * es.length)).take es.length := by
         rw [Nat.add_mul, Nat.one_mul, List.take_add]
        rw [e1]
        rw [← hc.1] at h4
        exact Mj h1 h4
       ·rw [List.replicate_succ', List.flatten_append]
        simpa using Kw h2 h5
     obtain ⟨az, h1, h2⟩ := hk k (Nat.le_refl _)
     rw [List.take_of_length_le (by omega)] at h1
     exact ⟨az, h1, h2⟩
    ·cases h
   ·cases h
  ·cases h
theorem ZR {sp : Nat → Bool} {held : Bool} {n : Nat} {t : TypeId} {d : LD} {v : Value} {x : DataW H} {ps : List MemPlace} (hl : UC P n t = some [d]) (hv : v.cells = #[v]) (h : DataW.Trod enc P W 0 sp held t v x ps) : ∃ a, VR (gW W) W a v ∧ LD.sat d a := by
 obtain ⟨fuel, hf⟩ := h
 obtain ⟨az, h1, h2⟩ := opened n t _ hl _ _ _ hf
 simp only [LD.rz] at h2
 obtain ⟨a, bs, rfl, h3, rfl⟩ := h2
 rw [hv] at h1
 simp only [VRs] at h1
 obtain ⟨u, us, he, h4, h5⟩ := h1
 simp only [List.cons.injEq] at he
 obtain ⟨rfl, rfl⟩ := he
 exact ⟨a, h4, h3⟩
theorem UE {sp : Nat → Bool} {held : Bool} {n : Nat} {t : TypeId} {ds : List LD} {vs : Array Value} {x : DataW H} {ps : List MemPlace} (hl : UC P n t = some ds) (h : DataW.Trod enc P W 0 sp held t (.agg vs) x ps) : ∃ az, VR (gW W) W (.agg az) (.agg vs) ∧ LD.rz ds az := by
 obtain ⟨fuel, hf⟩ := h
 obtain ⟨az, h1, h2⟩ := opened n t _ hl _ _ _ hf
 refine ⟨az, ?_, h2⟩
 simp only [VR]
 exact ⟨vs, rfl, h1⟩
theorem UF {ds : List LD} {az : List AV} {vs : Array Value} (h : LD.rz ds az) : owns (.agg az) (.agg vs) = [] := by simp only [owns, RN _ h]
theorem ZT {f : FuncId} {sp : FSpec} (h : FSound P f sp) {args : List AV} {H0 : List AObj} (vs : List Value) (hvs : VRs (gW W) W args vs) (hown : aD args vs = []) (hgood : GdH W.heap)
 (hsp : sp args [] (AV × List AObj) (fun v H => some (v, H)) = some (.bool true, H0)) : Calls P f vs.toArray W fun e W' => e = .returned (.bool true) ∧ Below W.heap.size W W' :=
 Vp h W vs (gW W) rfl hvs hown (fun b hb => XV hb) hgood hsp
theorem wf_i64 {n : Int} (h : (Lit.int .i64 n).wf = true) : -9223372036854775808 ≤ n ∧ n ≤ 9223372036854775807 := by
 simp only [Lit.wf, Bool.and_eq_true, decide_eq_true_eq] at h
 exact h
end Go.Sh
namespace Go.Proofs.YtiegmpnagcdgoaaGreatDoor.H.Z
open Go.Sh Go.RowKit
set_option linter.unusedSimpArgs false
set_option linter.unusedVariables false
def come (ti : List Int) (sec : Int) : Nat := ti.countP fun x => decide (x ≤ sec)
theorem aaX (i j : Nat) (hj : i + j ≤ 8000) : IntKind.i64.wrap (Int.fdiv (IntKind.u64.wrap (IntKind.i64.wrap ((i : Int) + (j : Int)))) (2 ^ 1)) = (((i + j) / 2 : Nat) : Int) := by
 rw [wi ((i : Int) + (j : Int)) (by omega) (by omega), IntWalk.u64_in _ (by omega), show ((2 : Int) ^ 1) = 2 from rfl, Int.fdiv_eq_ediv_of_nonneg _ (by omega), wi _ (by omega) (by omega)]
 omega
theorem Ky (n : Nat) (h0 : List (List AV)) (ti ix : List Int) (h3 : Str) (sec : Int) (hb : ti.length ≤ 4000) : ∀ (d i j m : Nat), j - i ≤ d → i ≤ j → j ≤ ti.length → d < m → (0 < i → ti.getD (i - 1) 0 ≤ sec) → (j < ti.length → sec < ti.getD j 0) →
 ∃ k : Nat, lZ n m (i : Int) (j : Int) h0 ti ix h3 sec = some ((k : Int), h0, ti, ix, h3, sec) ∧ k ≤ ti.length ∧ (0 < k → ti.getD (k - 1) 0 ≤ sec) ∧ (k < ti.length → sec < ti.getD k 0)
 | d, i, j, 0, _, _, _, hm, _, _ => absurd hm (by omega)
 | 0, i, j, m + 1, hd, hij, hj, hm, h1, h2 => by
  refine ⟨i, ?_, by omega, h1, (show j = i by omega) ▸ h2⟩
  simp only [lZ, nV]
  rw [ah (by omega)]
 | d + 1, i, j, m + 1, hd, hij, hj, hm, h1, h2 => by
  by_cases hlt : i < j
  ·have hh : (i + j) / 2 < ti.length := by omega
   simp only [lZ, nV]
   rw [aa (by omega), aaX i j (by omega)]
   simp only [Kl, Dt]
   rw [aa (by omega), Int.toNat_natCast, get_of hh]
   simp only [Option.bind_some]
   by_cases hc : ti.getD ((i + j) / 2) 0 > sec
   ·rw [decide_eq_true hc]
    simp only [Bool.not_true, cond_false]
    exact Ky n h0 ti ix h3 sec hb d i ((i + j) / 2) m (by omega) (by omega) (by omega) (by omega) h1 (fun _ => hc)
   ·rw [decide_eq_false hc]
    simp only [Bool.not_false, cond_true]
    rw [wG _ (by omega)]
    exact Ky n h0 ti ix h3 sec hb d ((i + j) / 2 + 1) j m (by omega) (by omega) (by omega) (by omega) (fun _ => by simp only [Nat.add_sub_cancel]; omega) h2
  ·refine ⟨i, ?_, by omega, h1, (show j = i by omega) ▸ h2⟩
   simp only [lZ, nV]
   rw [ah (by omega)]
theorem SQ {ti ix : List Int} {len : Nat} (hl : ti.length = ix.length) (h : (List.range' 0 ix.length).all (okAt ti ix len) = true) : ∀ (b a : Nat), a < b → b < ti.length → ti.getD a 0 < ti.getD b 0
 | 0, a, h1, _ => absurd h1 (by omega)
 | b + 1, a, h1, h2 => by
  have h3 := List.all_eq_true.1 h (b + 1) (by rw [List.mem_range'_1]; omega)
  simp only [okAt, Bool.and_eq_true, Bool.or_eq_true, decide_eq_true_eq, beq_iff_eq] at h3
  have h4 : ti.getD b 0 < ti.getD (b + 1) 0 := by
   rcases h3.2 with h | h
   ·omega
   ·simpa using h
  rcases Nat.lt_or_ge a b with h5 | h5
  ·have := SQ hl h b a h5 (by omega)
   omega
  ·have : a = b := by omega
   subst this; exact h4
theorem SS {ti : List Int} {sec : Int} {k : Nat} (hm : ∀ (b a : Nat), a < b → b < ti.length → ti.getD a 0 < ti.getD b 0) (hk : k ≤ ti.length) (h1 : 0 < k → ti.getD (k - 1) 0 ≤ sec) (h2 : k < ti.length → sec < ti.getD k 0) : come ti sec = k := by
 have e : come ti sec = (ti.take k).countP (fun x => decide (x ≤ sec)) + (ti.drop k).countP (fun x => decide (x ≤ sec)) := by
  unfold come
  conv => lhs; rw [← List.take_append_drop k ti]
  rw [List.countP_append]
 have e1 : (ti.take k).countP (fun x => decide (x ≤ sec)) = (ti.take k).length := by
  rw [List.countP_eq_length]
  intro x hx
  obtain ⟨i, hi, rfl⟩ := List.mem_iff_getElem.1 hx
  rw [List.length_take] at hi
  rw [List.getElem_take]
  have h3 : ti[i] = ti.getD i 0 := by rw [List.getD_eq_getElem?_getD, List.getElem?_eq_getElem (by omega)]; rfl
  rw [h3, decide_eq_true_eq]
  have h4 := h1 (by omega)
  rcases Nat.lt_or_ge i (k - 1) with h5 | h5
  ·have := hm (k - 1) i h5 (by omega)
   omega
  ·have : i = k - 1 := by omega
   subst this; exact h4
 have e2 : (ti.drop k).countP (fun x => decide (x ≤ sec)) = 0 := by
  rw [List.countP_eq_zero]
  intro x hx
  obtain ⟨i, hi, rfl⟩ := List.mem_iff_getElem.1 hx
  rw [List.length_drop] at hi
  rw [List.getElem_drop]
  have h3 : ti[k + i] = ti.getD (k + i) 0 := by rw [List.getD_eq_getElem?_getD, List.getElem?_eq_getElem (by omega)]; rfl
  rw [h3, decide_eq_true_eq]
  have h4 := h2 (by omega)
  rcases Nat.eq_zero_or_pos i with h5 | h5
  ·subst h5; simp only [Nat.add_zero]; omega
  ·have := hm (k + i) k (by omega) (by omega)
   omega
 rw [e, e1, e2, List.length_take]
 omega
def stdS (ts : List Ty) : Int := match ts.findIdx? fun t => !t.2.1 with
 | some j => j
 | none => 0
theorem WI (n : Nat) (ts : List Ty) (hts : ts.length ≤ 255) : ∀ (r : List Ty) (i m : Nat), ts.drop i = r → r.length < m →
 sN n m (ts.map cT) (ts.length : Int) (i : Int) = some (match r.findIdx? fun t => !t.2.1 with | some j => Sum.inl ((i + j : Nat) : Int) | none => Sum.inr ())
 | [], i, m + 1, h, _ => by
  have hi := drop_nil h
  simp only [sN, uO]
  rw [ah (by omega)]
  simp
 | t :: r, i, m + 1, h, hm => by
  obtain ⟨k1, k2, k3⟩ := kW h
  simp only [sN, uO]
  rw [aa (by omega), aa (by omega), Int.toNat_natCast, List.getElem?_map, k1, wG _ (by omega)]
  simp only [Option.map_some, Option.bind_some, cT, unc, xS, yC, yD, unn, Kn, Du, List.findIdx?_cons]
  cases hd : t.2.1 with
  | false => simp
  | true =>
   simp only [Bool.not_true, cond_false, decide_true, cond_true, Bool.false_eq_true, if_false]
   rw [WI n ts hts r (i + 1) m k2 (by simpa using hm)]
   cases r.findIdx? (fun t => !t.2.1) with
   | none => rfl
   | some j => simp only [Option.map_some]; congr 2; omega
def AtS (ts : List Ty) (ti ix : List Int) (foot : Str) (sec : Int) : Int :=
 if RightS ts ti ix foot then (if 0 < come ti sec then ix.getD (come ti sec - 1) 0 else stdS ts) else 0
theorem right_parts {ts : List Ty} {ti ix : List Int} {foot : Str} (h : RightS ts ti ix foot = true) : 1 ≤ ts.length ∧ ts.length ≤ 255 ∧ ti.length ≤ 4000 ∧ ti.length = ix.length ∧ textS foot 100 32 = true ∧ ts.all okT = true ∧ (List.range' 0 ix.length).all (okAt ti ix ts.length) = true ∧ Qq ts ≤ 256 := by
 simp only [RightS, Bool.and_eq_true, decide_eq_true_eq] at h
 obtain ⟨⟨⟨⟨⟨⟨⟨h1, h2⟩, h3⟩, h4⟩, h5⟩, h6⟩, h7⟩, h8⟩ := h
 exact ⟨h1, h2, h3, h4, h5, h6, h7, h8⟩
theorem come_le (ti : List Int) (sec : Int) : come ti sec ≤ ti.length := List.countP_le_length
theorem at_val (n : Nat) (hn : 4001 ≤ n) (ts : List Ty) (ti ix : List Int) (foot : Str) (sec : Int) : IB n (ts.map cT) ti ix foot sec = some (AtS ts ti ix foot sec) := by
 unfold IB IA AtS
 rw [right_val n hn]
 simp only [Option.bind_some]
 cases hR : RightS ts ti ix foot with
 | false => rfl
 | true =>
  obtain ⟨h1, h2, h3, h4, h5, h6, h7, h8⟩ := right_parts hR
  obtain ⟨k, e1, e2, e3, e4⟩ := Ky n (ts.map cT) ti ix foot sec h3 ti.length 0 ti.length n (by omega) (by omega) (by omega) (by omega) (fun h => absurd h (by omega)) (fun h => absurd h (by omega))
  have hk := SS (SQ h4 h7) e2 e3 e4
  simp only [Int.natCast_zero] at e1
  simp only [Bool.not_true, cond_false, Hy, y7, e1, Option.bind_some, if_true, hk]
  by_cases hp : 0 < k
  ·rw [aa (by omega), wi _ (by omega) (by omega), aa (by omega), if_pos hp, show ((k : Int) - 1).toNat = k - 1 by omega, get_of (show k - 1 < ix.length by omega)]
   rfl
  ·rw [ah (by omega), if_neg hp]
   have e5 := WI n ts h2 ts 0 n (by simp) (by omega)
   simp only [Int.natCast_zero] at e5
   simp only [Ko, Dv, List.length_map, e5, Option.bind_some, stdS]
   cases ts.findIdx? (fun t => !t.2.1) with
   | none => rfl
   | some j =>
    simp only [Sum.elim_inl, Option.bind_some, Nat.zero_add]
    congr 1
    split <;> omega
theorem open_types : ∀ {els : List (List AV)}, (∀ e ∈ els, LD.rz [.int .i64, .bool, .str] e) → ∃ ts : List Ty, els = ts.map cT ∧ ∀ t ∈ ts, -9223372036854775808 ≤ t.1 ∧ t.1 ≤ 9223372036854775807 ∧ t.2.2.length ≤ 9223372036854775807
 | [], _ => ⟨[], rfl, by simp⟩
 | e :: els, h => by
  obtain ⟨ts, rfl, h1⟩ := open_types (els := els) fun e he => h e (by simp [he])
  have h2 := h e (by simp)
  simp only [LD.rz, LD.sat] at h2
  obtain ⟨a, l1, rfl, ⟨n, rfl, hn⟩, b, l2, rfl, ⟨d, rfl⟩, c, l3, rfl, ⟨s, rfl, hs⟩, rfl⟩ := h2
  refine ⟨(n, d, s) :: ts, rfl, fun t ht => ?_⟩
  rcases List.mem_cons.1 ht with rfl | ht
  ·have := wf_i64 hn
   exact ⟨this.1, this.2, hs⟩
  ·exact h1 t ht
end Go.Proofs.YtiegmpnagcdgoaaGreatDoor.H.Z
namespace Go.Proofs.YtiegmpnagcdgoaaGreatDoor.H.Z
open Go.Sh Go.RowKit
set_option linter.unusedSimpArgs false
set_option linter.unusedVariables false
end Go.Proofs.YtiegmpnagcdgoaaGreatDoor.H.Z
namespace Go.Proofs.YtiegmpnagcdgoaaGreatDoor.H.Z
open Go.Sh Go.RowKit
set_option linter.unusedSimpArgs false
set_option linter.unusedVariables false
theorem XY (n : Nat) (s : Str) (lo : Int) (i : Nat) (c : UInt8) (h : s[i]? = some c) : jU n s lo 126 (i : Int) = some (!okC lo c) := by
 unfold jU iL okC
 rw [aa (by omega), Int.toNat_natCast, h]
 simp only [Option.bind_some]
 by_cases hl : (c.toNat : Int) < lo
 ·rw [aa hl]; simp [hl]
 ·rw [ah hl, aa (by omega)]
  simp [hl]
theorem RP (n : Nat) (s : Str) (lo : Int) (hs : s.length ≤ 9223372036854775807) : ∀ (r : Str) (i m : Nat), s.drop i = r → r.length < m →
 cB n m s lo 126 (i : Int) = some (if r.all (okC lo) then Sum.inr () else Sum.inl ())
 | [], i, m + 1, hd, _ => by
  have hi := drop_nil hd
  simp only [cB, fq]
  rw [ah (by omega)]
  rfl
 | c :: r, i, m + 1, hd, hm => by
  obtain ⟨k1, k2, k3⟩ := kW hd
  simp only [List.length_cons] at hm
  simp only [cB, fq]
  rw [aa (by omega), XY n s lo i c k1, wG _ (by omega)]
  simp only [Option.bind_some, List.all_cons]
  by_cases hc : okC lo c = true
  ·simp only [hc, Bool.not_true, cond_false, Bool.true_and]
   exact RP n s lo hs r (i + 1) m k2 (by omega)
  ·simp [hc]
theorem CO (n : Nat) (s : Str) (a b lo : Int) (hs : s.length ≤ 9223372036854775807) (hn : s.length < n) : kC n s a b lo 126 = some (s.all (okC lo) && (decide ((s.length : Int) ≥ a) && decide ((s.length : Int) ≤ b))) := by
 unfold kC kz
 have e := RP n s lo hs s 0 n (by simp) hn
 simp only [Int.natCast_zero] at e
 rw [e]
 simp only [Option.bind_some]
 cases hc : s.all (okC lo) with
 | false => rfl
 | true =>
  simp only [if_true, Sum.elim_inr, Bool.true_and]
  by_cases h : (s.length : Int) ≥ a
  ·rw [aa h, decide_eq_true h, Bool.true_and]
  ·rw [ah h, decide_eq_false h, Bool.false_and]
theorem abL (t : Ty) : okT t = (!decide (t.1 < -89999) && !decide (t.1 > 93599) && (t.2.2.all (okC 33) && (decide ((t.2.2.length : Int) ≥ 1) && decide ((t.2.2.length : Int) ≤ 15)))) := by
 unfold okT textS
 have e : (!(t.2.2 == [])) = decide ((t.2.2.length : Int) ≥ 1) := by
  cases t.2.2 with
  | nil => rfl
  | cons c s => simp; omega
 rw [e]
 cases decide (t.1 < -89999) <;> cases decide (t.1 > 93599) <;> cases decide ((t.2.2.length : Int) ≥ 1) <;> cases decide ((t.2.2.length : Int) ≤ 15) <;> cases t.2.2.all (okC 33) <;> rfl
theorem XZ (n : Nat) (ts : List Ty) (h1 h2 : List Int) (h3 : Str) (i : Nat) (t : Ty) (ht : ts[i]? = some t) (hl : t.2.2.length ≤ 9223372036854775807) (hn : t.2.2.length < n) : kD n (i : Int) (ts.map cT) h1 h2 h3 = some (!okT t, ts.map cT, h1, h2, h3) := by
 unfold kD jq
 rw [abL, aa (by omega), Int.toNat_natCast, List.getElem?_map, ht]
 simp only [Option.map_some, Option.bind_some, cT, unc, xS, yC, yD, unn, decide_true, cond_true]
 by_cases c1 : t.1 < -89999
 ·rw [aa c1]; simp [c1]
 rw [ah c1, aa (by omega)]
 by_cases c2 : t.1 > 93599
 ·rw [aa c2]; simp [c1, c2]
 rw [ah c2, aa (by omega), CO n _ _ _ _ hl hn, decide_eq_false c1, decide_eq_false c2]
 rfl
theorem RQ (n : Nat) (ts : List Ty) (h1 h2 : List Int) (h3 : Str) (hts : ts.length ≤ 255) (hall : ∀ t ∈ ts, t.2.2.length ≤ 9223372036854775807 ∧ t.2.2.length < n) : ∀ (r : List Ty) (i m x : Nat), ts.drop i = r → r.length < m → x ≤ 16 * i →
 dz n m (x : Int) (i : Int) (ts.map cT) h1 h2 h3 = some (if r.all okT then Sum.inr (((x + Qq r : Nat) : Int), ts.map cT, h1, h2, h3) else Sum.inl (ts.map cT, h1, h2, h3))
 | [], i, m + 1, x, h, _, _ => by
  have hi := drop_nil h
  simp only [dz, gB]
  rw [ah (by rw [List.length_map]; omega)]
  simp [Qq]
 | t :: r, i, m + 1, x, h, hm, hx => by
  obtain ⟨k1, k2, k3⟩ := kW h
  obtain ⟨q1, q2⟩ := hall t (List.mem_of_getElem? k1)
  simp only [List.length_cons] at hm
  simp only [dz, gB]
  rw [aa (by rw [List.length_map]; omega), aa (by omega), XZ n ts h1 h2 h3 i t k1 q1 q2, Int.toNat_natCast, List.getElem?_map, k1, wG _ (by omega)]
  simp only [Option.map_some, Option.bind_some, cT, unc, xS, yC, yD, unn, decide_true, cond_true]
  cases hc : okT t with
  | false => simp [hc]
  | true =>
   have hl := okT_len hc
   simp only [hc, Bool.not_true, cond_false]
   have e : IntKind.i64.wrap (IntKind.i64.wrap ((x : Int) + (t.2.2.length : Int)) + 1) = ((x + (t.2.2.length + 1) : Nat) : Int) := by
    rw [wi ((x : Int) + (t.2.2.length : Int)) (by omega) (by omega), wi _ (by omega) (by omega)]; omega
   rw [e]
   have := RQ n ts h1 h2 h3 hts hall r (i + 1) m _ k2 (by omega) (show x + (t.2.2.length + 1) ≤ 16 * (i + 1) by omega)
   refine this.trans ?_
   simp only [List.all_cons, hc, Bool.true_and, Qq, Nat.add_assoc]
theorem X0 (n : Nat) (x : Int) (hx : ¬ x > 256) (h0 : List (List AV)) (ti ix : List Int) (h3 : Str) (i : Nat) (hi : i < ti.length) (hl : ti.length = ix.length) (hb : ti.length ≤ 4000) : iF n x (i : Int) h0 ti ix h3 = some (!okAt ti ix h0.length i, h0, ti, ix, h3) := by
 unfold iF gD okAt
 rw [ah hx, aa (by omega), Int.toNat_natCast, get_of (show i < ix.length by omega), Option.bind_some]
 by_cases c1 : ix.getD i 0 < 0
 ·rw [aa c1]; simp only [decide_eq_false (show ¬ (0 ≤ ix.getD i 0) by omega)]; rfl
 ·rw [ah c1, decide_eq_true (show 0 ≤ ix.getD i 0 by omega), aa (by omega), Option.bind_some]
  by_cases c2 : ix.getD i 0 ≥ (h0.length : Int)
  ·rw [aa c2]; simp only [decide_eq_false (show ¬ (ix.getD i 0 < (h0.length : Int)) by omega)]; rfl
  ·rw [ah c2, decide_eq_true (show ix.getD i 0 < (h0.length : Int) by omega)]
   by_cases c3 : (i : Int) > 0
   ·rw [aa c3, aa (by omega), get_of hi, Option.bind_some, wi _ (by omega) (by omega), aa (by omega), show ((i : Int) - 1).toNat = i - 1 by omega, get_of (show i - 1 < ti.length by omega), Option.bind_some]
    have : (i == 0) = false := by simp; omega
    rw [this]
    by_cases c4 : ti.getD i 0 ≤ ti.getD (i - 1) 0
    ·rw [decide_eq_true c4, decide_eq_false (show ¬ (ti.getD (i - 1) 0 < ti.getD i 0) by omega)]; rfl
    ·rw [decide_eq_false c4, decide_eq_true (show ti.getD (i - 1) 0 < ti.getD i 0 by omega)]; rfl
   ·rw [ah c3]
    have : i = 0 := by omega
    subst this
    rfl
theorem RS (n : Nat) (x : Int) (hx : ¬ x > 256) (h0 : List (List AV)) (ti ix : List Int) (h3 : Str) (hl : ti.length = ix.length) (hb : ti.length ≤ 4000) : ∀ (k i m : Nat), i + k = ix.length → k < m →
 bL n m x (i : Int) h0 ti ix h3 = some (if (List.range' i k).all (okAt ti ix h0.length) then Sum.inr (h0, ti, ix, h3) else Sum.inl (h0, ti, ix, h3))
 | 0, i, m + 1, h, _ => by
  simp only [bL, dL]
  rw [ah (by omega)]
  simp
 | k + 1, i, m + 1, h, hm => by
  simp only [bL, dL]
  have hi : i < ix.length := by omega
  rw [aa (by omega), wG _ (by omega)]
  simp only [X0 n x hx h0 ti ix h3 i (by omega) hl hb, Option.bind_some, List.range'_succ, List.all_cons]
  cases hc : okAt ti ix h0.length i with
  | false => simp
  | true =>
   simp only [Bool.not_true, cond_false, Bool.true_and]
   exact RS n x hx h0 ti ix h3 hl hb k (i + 1) m (by omega) (by omega)
theorem rright_val (n : Nat) (hn : 4001 ≤ n) (ts : List Ty) (ti ix : List Int) (foot : Str) (hall : ∀ t ∈ ts, t.2.2.length ≤ 9223372036854775807 ∧ t.2.2.length < n) (hf : foot.length ≤ 9223372036854775807 ∧ foot.length < n) : lM n (ts.map cT) ti ix foot = some (RightS ts ti ix foot) := by
 unfold lM lL pg jo RightS
 simp only [List.length_map]
 by_cases c1 : (ts.length : Int) < 1
 ·rw [aa c1]; simp [show ¬ (1 ≤ ts.length) by omega]
 rw [ah c1, decide_eq_true (show 1 ≤ ts.length by omega)]
 by_cases c2 : (ts.length : Int) > 255
 ·rw [aa c2]; simp [show ¬ (ts.length ≤ 255) by omega]
 rw [ah c2, decide_eq_true (show ts.length ≤ 255 by omega)]
 by_cases c3 : (ti.length : Int) > 4000
 ·rw [aa c3]; simp [show ¬ (ti.length ≤ 4000) by omega]
 rw [ah c3, decide_eq_true (show ti.length ≤ 4000 by omega)]
 by_cases c4 : ti.length = ix.length
 case neg =>
  have : ((ti.length : Int) != (ix.length : Int)) = true := by simp; omega
  rw [this]; simp [c4]
 have : ((ti.length : Int) != (ix.length : Int)) = false := by simp; omega
 rw [this, decide_eq_true c4, CO n foot 0 100 32 (by omega) (by omega)]
 have e0 : (foot.all (okC 32) && (decide ((foot.length : Int) ≥ 0) && decide ((foot.length : Int) ≤ 100))) = textS foot 100 32 := by
  unfold textS
  rw [decide_eq_true (show (foot.length : Int) ≥ 0 by omega), Bool.true_and, Bool.and_comm]
 simp only [e0, cond_false, Option.bind_some, Bool.true_and]
 cases c5 : textS foot 100 32 with
 | false => simp
 | true =>
  have e1 := RQ n ts ti ix foot (by omega) hall ts 0 n 0 (by simp) (by omega) (by omega)
  simp only [Int.natCast_zero, Nat.zero_add] at e1
  simp only [Bool.not_true, cond_false, e1, Option.bind_some]
  cases c6 : ts.all okT with
  | false => simp
  | true =>
   simp only [if_true, Sum.elim_inr]
   by_cases c8 : Qq ts ≤ 256
   ·have e2 := RS n (Qq ts : Int) (by omega) (ts.map cT) ti ix foot c4 (by omega) ix.length 0 n (by omega) (by omega)
    simp only [Int.natCast_zero, List.length_map] at e2
    simp only [e2, Option.bind_some]
    cases c7 : (List.range' 0 ix.length).all (okAt ti ix ts.length) with
    | false => simp
    | true =>
     simp only [if_true, Sum.elim_inr, Bool.true_and]
     congr 1
     rw [decide_eq_decide]; omega
   ·rw [decide_eq_false c8, Bool.and_false]
    obtain ⟨m, rfl⟩ : ∃ m, n = m + 1 := ⟨n - 1, by omega⟩
    simp only [bL, dL, iF, gD]
    by_cases c9 : (0 : Int) < (ti.length : Int)
    ·rw [aa c9, aa (by omega)]
     rfl
    ·rw [ah c9]
     simp only [Option.bind_some, Sum.elim_inr]
     rw [decide_eq_false (by omega)]
end Go.Proofs.YtiegmpnagcdgoaaGreatDoor.H.Z
namespace Go.Proofs.YtiegmpnagcdgoaaGreatDoor.H.Z
open Go.Sh Go.RowKit
set_option linter.unusedSimpArgs false
set_option linter.unusedVariables false
theorem ZU (n : Nat) (h0 : List (List AV)) (ti ix : List Int) (h3 : Str) (sec : Int) (hb : ti.length ≤ 4000) (hl : ti.length = ix.length) (hm0 : ∀ (b a : Nat), a < b → b < ti.length → ti.getD a 0 < ti.getD b 0) : ∀ (k m : Nat), k ≤ ti.length → k < m → (k < ti.length → sec < ti.getD k 0) →
 gp n m sec ((k : Int) - 1) h0 ti ix h3 = some (if 0 < come ti sec then Sum.inl (ix.getD (come ti sec - 1) 0, h0, ti, ix, h3) else Sum.inr (h0, ti, ix, h3))
 | 0, m + 1, _, _, h2 => by
  simp only [gp, ji]
  have hc : come ti sec = 0 := SS hm0 (by omega) (fun h => absurd h (by omega)) h2
  rw [ah (by omega), if_neg (by omega)]
 | k + 1, m + 1, hk, hm, h2 => by
  simp only [gp, ji]
  rw [show (((k + 1 : Nat) : Int) - 1) = (k : Int) by omega, aa (by omega), aa (by omega), Int.toNat_natCast, get_of (show k < ti.length by omega), Option.bind_some]
  by_cases hc : ti.getD k 0 ≤ sec
  ·have he : come ti sec = k + 1 := SS hm0 hk (fun _ => by simpa using hc) h2
   rw [aa hc, aa (by omega), get_of (show k < ix.length by omega), Option.bind_some, he, if_pos (by omega), Nat.add_sub_cancel]
  ·rw [ah hc, wi _ (by omega) (by omega)]
   exact ZU n h0 ti ix h3 sec hb hl hm0 k m (by omega) (by omega) (fun _ => by omega)
theorem ZV (n : Nat) (ts : List Ty) (h1 h2 : List Int) (h3 : Str) (hts : ts.length ≤ 255) : ∀ (r : List Ty) (i m : Nat), ts.drop i = r → r.length < m →
 gq n m (i : Int) (ts.map cT) h1 h2 h3 = some (match r.findIdx? fun t => !t.2.1 with | some j => Sum.inl (((i + j : Nat) : Int), ts.map cT, h1, h2, h3) | none => Sum.inr (ts.map cT, h1, h2, h3))
 | [], i, m + 1, h, _ => by
  have hi := drop_nil h
  simp only [gq, jk]
  rw [ah (by rw [List.length_map]; omega)]
  simp
 | t :: r, i, m + 1, h, hm => by
  obtain ⟨k1, k2, k3⟩ := kW h
  simp only [List.length_cons] at hm
  simp only [gq, jk]
  rw [aa (by rw [List.length_map]; omega), aa (by omega), Int.toNat_natCast, List.getElem?_map, k1, wG _ (by omega)]
  simp only [Option.map_some, Option.bind_some, cT, unc, xS, yC, yD, unn, List.findIdx?_cons, decide_true, cond_true]
  cases hd : t.2.1 with
  | false => simp
  | true =>
   simp only [Bool.not_true, cond_false, Bool.false_eq_true, if_false]
   refine (ZV n ts h1 h2 h3 hts r (i + 1) m k2 (by omega)).trans ?_
   cases r.findIdx? (fun t => !t.2.1) with
   | none => rfl
   | some j => simp only [Option.map_some]; congr 3; omega
theorem rat_val (n : Nat) (hn : 4001 ≤ n) (ts : List Ty) (ti ix : List Int) (foot : Str) (sec : Int) (hall : ∀ t ∈ ts, t.2.2.length ≤ 9223372036854775807 ∧ t.2.2.length < n) (hf : foot.length ≤ 9223372036854775807 ∧ foot.length < n) : uC n (ts.map cT) ti ix foot sec = some (AtS ts ti ix foot sec) := by
 unfold uC pX AtS
 rw [rright_val n hn ts ti ix foot hall hf]
 simp only [Option.bind_some]
 cases hR : RightS ts ti ix foot with
 | false => rfl
 | true =>
  obtain ⟨h1, h2, h3, h4, h5, h6, h7, h8⟩ := right_parts hR
  have e1 := ZU n (ts.map cT) ti ix foot sec h3 h4 (SQ h4 h7) ti.length n (by omega) (by omega) (fun h => absurd h (by omega))
  simp only [Bool.not_true, cond_false, if_true]
  rw [wi _ (by omega) (by omega), e1]
  by_cases hp : 0 < come ti sec
  ·rw [if_pos hp, if_pos hp]; rfl
  ·rw [if_neg hp, if_neg hp]
   have e5 := ZV n ts ti ix foot h2 ts 0 n (by simp) (by omega)
   simp only [Int.natCast_zero] at e5
   simp only [Option.bind_some, Sum.elim_inr, e5, stdS]
   cases ts.findIdx? (fun t => !t.2.1) with
   | none => rfl
   | some j => simp only [Sum.elim_inl, Option.bind_some, Nat.zero_add]
theorem UG (n : Nat) (ts : List Ty) (ti ix : List Int) (foot : Str) (g0 : List (List AV)) (g1 g2 : List Int) (g3 : Str) (hts : ts.length ≤ 300) : ∀ (r : List Ty) (i m : Nat) (acc : List (List AV)) (h1 h2 : List Int) (h3 : Str), ts.drop i = r → r.length < m → acc.length + r.length ≤ 300 →
 dx n m (i : Int) (ts.map cT) ti ix foot g0 g1 g2 g3 acc h1 h2 h3 = some (ts.map cT, ti, ix, foot, g0, g1, g2, g3, acc ++ r.map cT, h1, h2, h3)
 | [], i, m + 1, acc, h1, h2, h3, h, _, _ => by
  have hi := drop_nil h
  simp only [dx, gz]
  rw [ah (by rw [List.length_map]; omega)]
  simp
 | t :: r, i, m + 1, acc, h1, h2, h3, h, hm, ha => by
  obtain ⟨k1, k2, k3⟩ := kW h
  simp only [List.length_cons] at hm ha
  simp only [dx, gz]
  rw [aa (by rw [List.length_map]; omega), aa (by omega), Int.toNat_natCast, List.getElem?_map, k1, wG _ (by omega)]
  simp only [Option.map_some, Option.bind_some, cT, unc, xS, yC, yD, unn, decide_true, cond_true]
  rw [aa (by simp only [List.length_cons, List.length_nil]; omega)]
  refine (UG n ts ti ix foot g0 g1 g2 g3 hts r (i + 1) m _ h1 h2 h3 k2 (by omega) (by simp only [List.length_append, List.length_cons, List.length_nil]; omega)).trans ?_
  simp [cT]
theorem plain_val (n : Nat) (hn : 301 ≤ n) (ts : List Ty) (ti ix : List Int) (foot : Str) (hts : ts.length ≤ 300) : ja n (ts.map cT) ti ix foot = some (ts.map cT, ti, ix, foot) := by
 unfold ja lK
 have e := UG n ts ti ix foot [] [] [] [] hts ts 0 n [] ti ix foot (by simp) (by omega) (by simp; omega)
 simp only [Int.natCast_zero] at e
 rw [e]
 rfl
theorem lens_bound : ∀ (ts : List Ty), ∃ n, ∀ t ∈ ts, t.2.2.length < n
 | [] => ⟨0, by simp⟩
 | t :: r => by
  obtain ⟨n, h⟩ := lens_bound r
  refine ⟨n + (t.2.2.length + 1), fun u hu => ?_⟩
  rcases List.mem_cons.1 hu with rfl | hu
  ·omega
  ·have := h u hu; omega
end Go.Proofs.YtiegmpnagcdgoaaGreatDoor.H.Z
namespace Go.Proofs.YtiegmpnagcdgoaaGreatDoor.H
open Go.Sh Go.RowKit
set_option linter.unusedSimpArgs false
set_option linter.unusedVariables false
def EQ : List Int → Int → List Int
 | [], a => [a]
 | b :: l, a => if a < b then a :: b :: l else if a = b then b :: l else b :: EQ l a
def SV (l : List Int) : Prop := l.Pairwise (· < ·)
theorem Qs : ∀ (l : List Int) (a x : Int), x ∈ EQ l a ↔ x = a ∨ x ∈ l
 | [], a, x => by simp [EQ]
 | b :: l, a, x => by
  unfold EQ
  split
  ·simp
  ·split
   ·rename_i h
    subst h
    simp
   ·rw [List.mem_cons, Qs l a x, List.mem_cons]
    constructor
    ·rintro (h | h | h) <;> simp [h]
    ·rintro (h | h | h) <;> simp [h]
theorem RU : ∀ (l : List Int) (a : Int), SV l → SV (EQ l a)
 | [], a, _ => by simp [EQ, SV]
 | b :: l, a, h => by
  obtain ⟨h1, h2⟩ := List.pairwise_cons.1 h
  unfold EQ
  split
  ·rename_i hab
   refine List.pairwise_cons.2 ⟨fun x hx => ?_, h⟩
   rcases List.mem_cons.1 hx with rfl | hx
   ·exact hab
   ·exact Int.lt_trans hab (h1 x hx)
  ·split
   ·exact h
   ·rename_i h3 h4
    refine List.pairwise_cons.2 ⟨fun x hx => ?_, RU l a h2⟩
    rcases (Qs l a x).1 hx with rfl | hx
    ·omega
    ·exact h1 x hx
def uV (l all : List Int) : List Int := all.foldl EQ l
theorem Qt : ∀ (all l : List Int), SV l → SV (uV l all)
 | [], l, h => h
 | a :: all, l, h => Qt all (EQ l a) (RU l a h)
theorem KX : ∀ (all l : List Int) (x : Int), x ∈ uV l all ↔ x ∈ l ∨ x ∈ all
 | [], l, x => by simp [uV]
 | a :: all, l, x => by
  have := KX all (EQ l a) x
  unfold uV at this ⊢
  rw [List.foldl_cons, this, Qs]
  simp only [List.mem_cons]
  constructor
  ·rintro ((h | h) | h) <;> simp [h]
  ·rintro (h | h | h) <;> simp [h]
theorem Qu {l : List Int} (h : SV l) : l.Nodup := h.imp fun {a b} h e => by omega
theorem ZW {l l' : List Int} (h : SV l) (h' : SV l') (hm : ∀ x, x ∈ l ↔ x ∈ l') : l = l' := by
 refine List.Perm.eq_of_pairwise (le := fun a b => a < b) (fun a b _ _ h1 h2 => by omega) h h' ?_
 exact (List.perm_ext_iff_of_nodup (Qu h) (Qu h')).2 hm
theorem Nt : ∀ (es : List (Int × Int)) (a b : Int), (zo es a b).map (·.1) = if a ∈ es.map (·.1) then es.map (·.1) else es.map (·.1) ++ [a]
 | [], a, b => by simp [zo]
 | (x, y) :: es, a, b => by
  unfold zo
  by_cases h : x = a
  ·subst h
   simp
  ·have hb : (x == a) = false := by simpa using h
   rw [hb, cond_false, List.map_cons, Nt es a b]
   simp only [List.map_cons, List.mem_cons]
   by_cases h2 : a ∈ es.map (·.1)
   ·rw [if_pos h2, if_pos (.inr h2)]
   ·rw [if_neg h2, if_neg (fun h3 => h3.elim (fun h3 => h h3.symm) h2)]
    rfl
theorem ZX (es : List (Int × Int)) (a b x : Int) : x ∈ (zo es a b).map (·.1) ↔ x = a ∨ x ∈ es.map (·.1) := by
 rw [Nt]
 split
 ·rename_i h
  constructor
  ·exact .inr
  ·rintro (rfl | h2)
   ·exact h
   ·exact h2
 ·simp [or_comm]
theorem VG {es : List (Int × Int)} (a b : Int) (h : (es.map (·.1)).Nodup) : ((zo es a b).map (·.1)).Nodup := by
 rw [Nt]
 split
 ·exact h
 ·rename_i h2
  refine List.nodup_append.2 ⟨h, by simp, fun x hx y hy e => ?_⟩
  simp at hy
  subst hy; subst e
  exact h2 hx
def IK (es : List (Int × Int)) (all : List Int) : List (Int × Int) := all.foldl (fun es a => zo es a 1) es
theorem Qv : ∀ (all : List Int) (es : List (Int × Int)) (x : Int), x ∈ (IK es all).map (·.1) ↔ x ∈ es.map (·.1) ∨ x ∈ all
 | [], es, x => by simp [IK]
 | a :: all, es, x => by
  have := Qv all (zo es a 1) x
  unfold IK at this ⊢
  rw [List.foldl_cons, this, ZX]
  simp only [List.mem_cons]
  constructor
  ·rintro ((h | h) | h)
   ·exact .inr (.inl h)
   ·exact .inl h
   ·exact .inr (.inr h)
  ·rintro (h | h | h)
   ·exact .inl (.inr h)
   ·exact .inl (.inl h)
   ·exact .inr h
theorem Qw : ∀ (all : List Int) (es : List (Int × Int)), (es.map (·.1)).Nodup → ((IK es all).map (·.1)).Nodup
 | [], es, h => h
 | a :: all, es, h => Qw all (zo es a 1) (VG a 1 h)
theorem UH {l : List Int} (h : l.Nodup) : SV (l.mergeSort leI) := by
 have tr : ∀ a b c : Int, leI a b = true → leI b c = true → leI a c = true := fun a b c h1 h2 => by simp only [leI, decide_eq_true_eq] at *; exact Int.le_trans h1 h2
 have to : ∀ a b : Int, (leI a b || leI b a) = true := fun a b => by simp only [leI, Bool.or_eq_true, decide_eq_true_eq]; exact Int.le_total a b
 have h1 := List.pairwise_mergeSort tr to l
 have h2 : (l.mergeSort leI).Nodup := (List.mergeSort_perm l leI).nodup_iff.2 h
 have h3 := List.Pairwise.and h1 h2
 exact h3.imp fun {a b} hh => by
  have h4 := hh.1
  have h5 := hh.2
  simp only [leI, decide_eq_true_eq] at h4
  omega
theorem Kz (all : List Int) : ((IK [] all).map (·.1)).mergeSort leI = uV [] all := by
 refine ZW (UH (Qw all [] (by simp))) (Qt all [] List.Pairwise.nil) fun x => ?_
 rw [(List.mergeSort_perm _ leI).mem_iff, Qv, KX]
 simp
theorem Nu : ∀ (all : List Int) (es : List (Int × Int)), (IK es all).length ≤ es.length + all.length
 | [], es => by simp [IK]
 | a :: all, es => by
  have h1 := Nu all (zo es a 1)
  have h2 : (zo es a 1).length ≤ es.length + 1 := by
   have := congrArg List.length (Nt es a 1)
   split at this <;> simp at this <;> omega
  unfold IK at h1 ⊢
  rw [List.foldl_cons, List.length_cons]
  omega
end Go.Proofs.YtiegmpnagcdgoaaGreatDoor.H
namespace Go.Proofs.YtiegmpnagcdgoaaGreatDoor.H
open Go.Sh Go.RowKit
set_option linter.unusedSimpArgs false
set_option linter.unusedVariables false
theorem Mk (n : Nat) (a : Int) (h : -9223372036854775808 ≤ a ∧ a ≤ 9223372036854775807) : vE n a 1000000 = some (a / 1000000) := by
 unfold vE Bw
 rw [show ((1000000 : Int) == 0) = false from rfl]
 simp only [cond_false]
 by_cases ha : 0 ≤ a
 ·rw [tm0 ha, td0 ha, ah (by omega), wi _ (by omega) (by omega)]
 ·obtain ⟨b, rfl⟩ : ∃ b : Int, a = -b := ⟨-a, by omega⟩
  rw [Int.neg_tmod, Int.neg_tdiv, tm0 (by omega), td0 (by omega)]
  by_cases hz : b % 1000000 = 0
  ·rw [ah (by omega), wi _ (by omega) (by omega)]
   congr 1
   omega
  ·rw [aa (by omega)]
   simp (disch := omega) only [wi]
   congr 1
   omega
theorem Ml (n : Nat) (a : Int) (h : -9223372036854775808 ≤ a ∧ a ≤ 9223372036854775807) : qp n a 1000000 = some (a / 1000000) := by
 unfold qp ma
 rw [show ((1000000 : Int) == 0) = false from rfl]
 simp only [cond_false]
 by_cases ha : 0 ≤ a
 ·rw [tm0 ha, td0 ha, ah (by omega), wi _ (by omega) (by omega)]
 ·obtain ⟨b, rfl⟩ : ∃ b : Int, a = -b := ⟨-a, by omega⟩
  rw [Int.neg_tmod, Int.neg_tdiv, tm0 (by omega), td0 (by omega)]
  by_cases hz : b % 1000000 = 0
  ·rw [ah (by omega), wi _ (by omega) (by omega)]
   congr 1
   omega
  ·rw [aa (by omega)]
   simp (disch := omega) only [wi]
   congr 1
   omega
theorem SX {ts : List Z.Ty} {ti ix : List Int} {foot : Str} (h : Z.RightS ts ti ix foot = true) (t : Int) : 0 ≤ Z.AtS ts ti ix foot t ∧ Z.AtS ts ti ix foot t < ts.length := by
 obtain ⟨h1, h2, h3, h4, h5, h6, h7, h8⟩ := Z.right_parts h
 unfold Z.AtS
 rw [if_pos h]
 by_cases hc : 0 < Z.come ti t
 ·rw [if_pos hc]
  have hle := Z.come_le ti t
  have hk := List.all_eq_true.1 h7 (Z.come ti t - 1) (List.mem_range'_1.2 ⟨by omega, by omega⟩)
  unfold Z.okAt at hk
  simp only [Bool.and_eq_true, decide_eq_true_eq] at hk
  exact hk.1
 ·rw [if_neg hc]
  unfold Z.stdS
  cases hf : ts.findIdx? fun t => !t.2.1 with
  | none => simp only; omega
  | some j =>
   obtain ⟨hj, _⟩ := List.findIdx?_eq_some_iff_getElem.1 hf
   simp only
   omega
def Qx (ti : List Int) (t : Int) : Bool := ti.length == 0 || decide (ti.getD (ti.length - 1) 0 ≤ t)
theorem UI {ti : List Int} (hz : ti.length ≠ 0) (hb : ti.length ≤ 4000) : ti[(IntKind.i64.wrap ((ti.length : Int) - 1)).toNat]? = some (ti.getD (ti.length - 1) 0) := by
 rw [wi _ (by omega) (by omega), show ((ti.length : Int) - 1).toNat = ti.length - 1 by omega]
 exact Z.get_of (by omega)
theorem ZY (n : Nat) (t : Int) (h1 : List (List AV)) (ti h3 : List Int) (h4 h5 h6 : Str) (h7 h8 h9 h10 h11 h12 h13 h14 h15 h16 h17 h18 : Int) (hb : ti.length ≤ 4000) :
 qm n t h1 ti h3 h4 h5 h6 h7 h8 h9 h10 h11 h12 h13 h14 h15 h16 h17 h18 = some (Qx ti t, t, h1, ti, h3, h4, h5, h6, h7, h8, h9, h10, h11, h12, h13, h14, h15, h16, h17, h18) := by
 unfold qm lY Qx
 by_cases hz : ti.length = 0
 ·rw [hz]; rfl
 ·rw [show ((ti.length : Int) == (0 : Int)) = false by simpa using hz, cond_false, aa (by rw [wi _ (by omega) (by omega)]; omega), UI hz hb, show (ti.length == 0) = false by simpa using hz]
  simp only [Option.bind_some, Bool.false_or]
theorem IL {ts : List Z.Ty} {a : Int} (h0 : 0 ≤ a) (h1 : a < ts.length) {R : Type} (K : Int → Option R) :
 ((ts.map Z.cT)[a.toNat]?).bind (fun e => unc e fun c r => xS .i64 c fun x => unc r fun c r => yC c fun y => unc r fun c r => yD c fun z => unn r (K x)) = K (ts.getD a.toNat (0, false, [])).1 := by
 have h2 : a.toNat < ts.length := by omega
 rw [List.getElem?_map, List.getElem?_eq_getElem h2, List.getD_eq_getElem?_getD, List.getElem?_eq_getElem h2]
 rfl
end Go.Proofs.YtiegmpnagcdgoaaGreatDoor.H
namespace Go.Proofs.YtiegmpnagcdgoaaGreatDoor.H
open Go.Sh Go.RowKit
set_option linter.unusedSimpArgs false
set_option linter.unusedVariables false
theorem Jl {ts : List Z.Ty} {ti ix : List Int} {foot : Str} (h : Z.RightS ts ti ix foot = true) {n : Nat} (hn : 4001 ≤ n) : ∀ t ∈ ts, t.2.2.length ≤ 9223372036854775807 ∧ t.2.2.length < n := by
 obtain ⟨_, _, _, _, _, h6, _, _⟩ := Z.right_parts h
 intro t ht
 have := Z.okT_len (List.all_eq_true.1 h6 t ht)
 omega
theorem Jm {ts : List Z.Ty} {ti ix : List Int} {foot : Str} (h : Z.RightS ts ti ix foot = true) : foot.length ≤ 100 := by
 obtain ⟨_, _, _, _, h5, _, _, _⟩ := Z.right_parts h
 unfold Z.textS at h5
 simp only [Bool.and_eq_true, decide_eq_true_eq] at h5
 omega
theorem N9 (n : Nat) (t : Int) (h0 : List (List AV)) (ti h2 : List Int) (h3 h4 h5 : Str) (h6 h7 h8 h9 h10 h11 h12 h13 h14 h15 h16 h17 : Int) (b : Bool) (hb : ti.length ≤ 4000) :
 bI n t (ti.length : Int) h0 ti h2 h3 h4 h5 h6 h7 h8 h9 h10 h11 h12 h13 h14 h15 h16 h17 true b = some (Qx ti t, h0, ti, h2, h3, h4, h5, h6, h7, h8, h9, h10, h11, h12, h13, h14, h15, h16, h17, true, b) := by
 unfold bI bq Qx
 by_cases hz : ti.length = 0
 ·rw [hz]; rfl
 ·rw [cond_true, show ((ti.length : Int) == (0 : Int)) = false by simpa using hz, cond_false, aa (by rw [wi _ (by omega) (by omega)]; omega), UI hz hb, show (ti.length == 0) = false by simpa using hz]
  simp only [Option.bind_some, Bool.false_or]
theorem Nv (n : Nat) (hn : 20000 < n) (ts : List Z.Ty) (ti ix : List Int) (foot : Str) (r : RuleV) (hR : Z.RightS ts ti ix foot = true) (hs : r.std.length ≤ 200) (hd : r.dst.length ≤ 200) (sec : Int) :
 ∃ o, oK n sec (ts.map Z.cT) ti ix foot r.std r.dst r.off r.doff r.a.k r.a.m r.a.w r.a.d r.a.t r.b.k r.b.m r.b.w r.b.d r.b.t = some (o, ts.map Z.cT, ti, ix, foot, r.std, r.dst, r.off, r.doff, r.a.k, r.a.m, r.a.w, r.a.d, r.a.t, r.b.k, r.b.m, r.b.w, r.b.d, r.b.t) ∧
  aA n (ts.map Z.cT) ti ix foot r.std r.dst r.off r.doff r.a.k r.a.m r.a.w r.a.d r.a.t r.b.k r.b.m r.b.w r.b.d r.b.t true false sec = some o := by
 obtain ⟨_, _, hb, _, _, _, _, _⟩ := Z.right_parts hR
 unfold oK oJ rq kN aA aT
 rw [ZY n _ _ ti _ _ _ _ _ _ _ _ _ _ _ _ _ _ _ _ hb, cond_false, N9 n _ _ ti _ _ _ _ _ _ _ _ _ _ _ _ _ _ _ _ _ hb]
 simp only [Option.bind_some]
 cases Qx ti (if (-10000000000 : Int) < (if sec < (100000000000 : Int) then sec else (100000000000 : Int)) then (if sec < (100000000000 : Int) then sec else (100000000000 : Int)) else (-10000000000 : Int)) with
 | true =>
  obtain ⟨o, h1, h2⟩ := aaV n r (if (-10000000000 : Int) < (if sec < (100000000000 : Int) then sec else (100000000000 : Int)) then (if sec < (100000000000 : Int) then sec else (100000000000 : Int)) else (-10000000000 : Int)) hn (by omega) (by omega) (by omega) (by omega)
  simp only [cond_true]
  rw [h1, h2]
  exact ⟨o.1, rfl, rfl⟩
 | false =>
  simp only [cond_false]
  rw [Z.at_val n (by omega), Z.rat_val n (by omega) ts ti ix foot _ (Jl hR (by omega)) (by have := Jm hR; omega)]
  obtain ⟨k1, k2⟩ := SX hR (if (-10000000000 : Int) < (if sec < (100000000000 : Int) then sec else (100000000000 : Int)) then (if sec < (100000000000 : Int) then sec else (100000000000 : Int)) else (-10000000000 : Int))
  simp only [Option.bind_some]
  rw [aa k1, aa k1, IL k1 k2, IL k1 k2]
  exact ⟨_, rfl, rfl⟩
theorem Nw (n : Nat) (hn : 20000 < n) (ts : List Z.Ty) (ti ix : List Int) (foot : Str) (a4 a5 : Str) (a6 a7 a8 a9 a10 a11 a12 a13 a14 a15 a16 a17 : Int) (hR : Z.RightS ts ti ix foot = true) (sec : Int) :
 ∃ o, oN n sec (ts.map Z.cT) ti ix foot = some (o, ts.map Z.cT, ti, ix, foot) ∧
  aA n (ts.map Z.cT) ti ix foot a4 a5 a6 a7 a8 a9 a10 a11 a12 a13 a14 a15 a16 a17 false false sec = some o := by
 unfold oN oM ry kP aA aT bI bq
 simp only [Option.bind_some, cond_false]
 rw [Z.at_val n (by omega), Z.rat_val n (by omega) ts ti ix foot _ (Jl hR (by omega)) (by have := Jm hR; omega)]
 obtain ⟨k1, k2⟩ := SX hR (if (-10000000000 : Int) < (if sec < (100000000000 : Int) then sec else (100000000000 : Int)) then (if sec < (100000000000 : Int) then sec else (100000000000 : Int)) else (-10000000000 : Int))
 simp only [Option.bind_some]
 rw [aa k1, aa k1, IL k1 k2, IL k1 k2]
 exact ⟨_, rfl, rfl⟩
end Go.Proofs.YtiegmpnagcdgoaaGreatDoor.H
namespace Go.Proofs.YtiegmpnagcdgoaaGreatDoor.H
open Go.Sh Go.RowKit
set_option linter.unusedSimpArgs false
set_option linter.unusedVariables false
end Go.Proofs.YtiegmpnagcdgoaaGreatDoor.H
namespace Go.Proofs.YtiegmpnagcdgoaaGreatDoor.H
open Go.Sh Go.RowKit
set_option linter.unusedSimpArgs false
set_option linter.unusedVariables false
theorem VH {s : Str} {r : RuleV} (h : JD s = some r) : gL r = true := by
 unfold JD at h
 split at h
 ·cases h
 ·dsimp only at h
  split at h
  ·rename_i hh
   injection h with h
   subst h
   exact hh.2.2
  ·cases h
theorem UJ {s : Str} (h : ui s = true) : s.length ≤ 10 := by
 unfold ui at h
 simp only [Bool.and_eq_true, decide_eq_true_eq] at h
 exact h.1.2
theorem G7 {r : RuleV} (h : gL r = true) : r.std.length ≤ 200 ∧ r.dst.length ≤ 200 := by
 obtain ⟨h1, _, _, h2⟩ := CP h
 have := UJ h1
 rcases h2 with ⟨h2, _⟩ | ⟨h2, _⟩
 ·rw [h2]; simp; omega
 ·have := UJ h2; omega
theorem WJ (n : Nat) (hn : 4001 ≤ n) (ts : List Z.Ty) (ti ix : List Int) (foot : Str) :
 CB n (ts.map Z.cT) ti ix foot = some (if Z.RightS ts ti ix foot = true then (if foot = [] then Sum.inr (Sum.inr (ts.map Z.cT, ti, ix, foot)) else match JD foot with
  | some r => Sum.inr (Sum.inl (ts.map Z.cT, ti, ix, foot, r.std, r.dst, r.off, r.doff, r.a.k, r.a.m, r.a.w, r.a.d, r.a.t, r.b.k, r.b.m, r.b.w, r.b.d, r.b.t))
  | none => Sum.inl (70 : Int)) else Sum.inl (2 : Int)) := by
 unfold CB FN
 rw [Z.right_val n hn]
 simp only [Option.bind_some]
 by_cases hR : Z.RightS ts ti ix foot = true
 ·obtain ⟨_, h2, h3, h4, _, _, _, _⟩ := Z.right_parts hR
  rw [hR, if_pos rfl, Bool.not_true, cond_false, aa (by rw [List.length_map]; omega), aa (by omega), aa (by omega)]
  by_cases hf : foot = []
  ·subst hf; rfl
  ·rw [show (foot == ([] : Str)) = false by simpa using hf, Bool.not_false, cond_true, XP n foot (by omega), if_neg hf]
   simp only [Option.bind_some]
   cases JD foot with
   | none => rfl
   | some r => rfl
 ·rw [if_neg hR]
  rw [Bool.not_eq_true] at hR
  rw [hR]; rfl
theorem Ny (n : Nat) (hn : 4001 ≤ n) (ts : List Z.Ty) (ti ix : List Int) (foot : Str) (hall : ∀ t ∈ ts, t.2.2.length ≤ 9223372036854775807 ∧ t.2.2.length < n) (hf : foot.length ≤ 9223372036854775807 ∧ foot.length < n) (hR : Z.RightS ts ti ix foot = true) :
 fU n (ts.map Z.cT) ti ix foot = some (if foot = [] then (ts.map Z.cT, ti, ix, foot, [], [], (0 : Int), (0 : Int), (0 : Int), (0 : Int), (0 : Int), (0 : Int), (0 : Int), (0 : Int), (0 : Int), (0 : Int), (0 : Int), (0 : Int), false, (0 : Int)) else match JD foot with
  | some r => (ts.map Z.cT, ti, ix, foot, r.std, r.dst, r.off, r.doff, r.a.k, r.a.m, r.a.w, r.a.d, r.a.t, r.b.k, r.b.m, r.b.w, r.b.d, r.b.t, true, (0 : Int))
  | none => ([], [], [], [], [], [], (0 : Int), (0 : Int), (0 : Int), (0 : Int), (0 : Int), (0 : Int), (0 : Int), (0 : Int), (0 : Int), (0 : Int), (0 : Int), (0 : Int), false, (70 : Int))) := by
 unfold fU kI
 rw [Z.rright_val n hn ts ti ix foot hall hf, hR]
 simp only [Option.bind_some, Bool.not_true, cond_false]
 by_cases hf : foot = []
 ·subst hf; rfl
 ·rw [show (foot == ([] : Str)) = false by simpa using hf, cond_false, Vz n foot (by omega), if_neg hf]
  simp only [Option.bind_some]
  cases JD foot with
  | none => rfl
  | some r => rfl
theorem VI (n : Nat) (hn : 4001 ≤ n) (ts : List Z.Ty) (ti ix : List Int) (foot : Str) (hall : ∀ t ∈ ts, t.2.2.length ≤ 9223372036854775807 ∧ t.2.2.length < n) (hf : foot.length ≤ 9223372036854775807 ∧ foot.length < n) : ∃ o, fU n (ts.map Z.cT) ti ix foot = some o := by
 by_cases hR : Z.RightS ts ti ix foot = true
 ·exact ⟨_, Ny n hn ts ti ix foot hall hf hR⟩
 ·unfold fU kI
  rw [Bool.not_eq_true] at hR
  rw [Z.rright_val n hn ts ti ix foot hall hf, hR]
  exact ⟨_, rfl⟩
theorem VJ (n : Nat) (hn : 4001 ≤ n) (ts : List Z.Ty) (ti ix : List Int) (foot : Str) (utc : Bool) (hall : ∀ t ∈ ts, t.2.2.length ≤ 9223372036854775807 ∧ t.2.2.length < n) (hf : foot.length ≤ 9223372036854775807 ∧ foot.length < n) :
 utc = true ∧ ik n (ts.map Z.cT) ti ix foot utc = some (Sum.inl ([], [], [], [], [], [], (0 : Int), (0 : Int), (0 : Int), (0 : Int), (0 : Int), (0 : Int), (0 : Int), (0 : Int), (0 : Int), (0 : Int), (0 : Int), (0 : Int), false, true, true)) ∨
 (∃ x, ik n (ts.map Z.cT) ti ix foot utc = some (Sum.inl x) ∧ x.2.2.2.2.2.2.2.2.2.2.2.2.2.2.2.2.2.2.2.2 = false) ∨
 Z.RightS ts ti ix foot = true ∧ ts.length ≤ 40 ∧ ti.length ≤ 300 ∧ (
  (∃ r : RuleV, gL r = true ∧ ik n (ts.map Z.cT) ti ix foot utc = some (Sum.inr (Sum.inl (ts.map Z.cT, ti, ix, foot, r.std, r.dst, r.off, r.doff, r.a.k, r.a.m, r.a.w, r.a.d, r.a.t, r.b.k, r.b.m, r.b.w, r.b.d, r.b.t, true, true, ts.map Z.cT, ti, ix, foot, r.std, r.dst, r.off, r.doff, r.a.k, r.a.m, r.a.w, r.a.d, r.a.t, r.b.k, r.b.m, r.b.w, r.b.d, r.b.t)))) ∨
  ik n (ts.map Z.cT) ti ix foot utc = some (Sum.inr (Sum.inr (ts.map Z.cT, ti, ix, foot, [], [], (0 : Int), (0 : Int), (0 : Int), (0 : Int), (0 : Int), (0 : Int), (0 : Int), (0 : Int), (0 : Int), (0 : Int), (0 : Int), (0 : Int), false, true, ts.map Z.cT, ti, ix, foot)))) := by
 unfold ik nJ
 cases utc with
 | true => exact .inl ⟨rfl, rfl⟩
 | false =>
  refine .inr ?_
  rw [cond_false, qo, jX]
  by_cases c1 : ((ts.map Z.cT).length : Int) > 40
  ·rw [aa c1]
   exact .inl ⟨_, rfl, rfl⟩
  rw [ah c1]
  simp only [Option.bind_some]
  by_cases c2 : (ti.length : Int) > 300
  ·rw [decide_eq_true c2]
   exact .inl ⟨_, rfl, rfl⟩
  rw [decide_eq_false c2, cond_false, WJ n hn]
  rw [List.length_map] at c1
  have hp := Z.plain_val n (by omega) ts ti ix foot (by omega)
  simp only [Option.bind_some]
  by_cases hR : Z.RightS ts ti ix foot = true
  ·rw [if_pos hR]
   by_cases hz : foot = []
   ·rw [if_pos hz]
    simp only [Sum.elim_inr]
    rw [hp]
    simp only [Option.bind_some]
    rw [Ny n hn ts ti ix foot hall hf hR, if_pos hz]
    exact .inr ⟨hR, by omega, by omega, .inr rfl⟩
   ·rw [if_neg hz]
    cases hr : JD foot with
    | none =>
     simp only [Sum.elim_inl]
     rw [hp]
     simp only [Option.bind_some]
     rw [Ny n hn ts ti ix foot hall hf hR, if_neg hz, hr]
     exact .inl ⟨_, rfl, rfl⟩
    | some r =>
     simp only [Sum.elim_inr, Sum.elim_inl]
     rw [hp]
     simp only [Option.bind_some]
     rw [Ny n hn ts ti ix foot hall hf hR, if_neg hz, hr]
     exact .inr ⟨hR, by omega, by omega, .inl ⟨r, VH hr, rfl⟩⟩
  ·rw [if_neg hR]
   obtain ⟨o, ho⟩ := VI n hn ts ti ix foot hall hf
   simp only [Sum.elim_inl]
   rw [hp]
   simp only [Option.bind_some]
   rw [ho]
   exact .inl ⟨_, rfl, rfl⟩
end Go.Proofs.YtiegmpnagcdgoaaGreatDoor.H
namespace Go.Proofs.YtiegmpnagcdgoaaGreatDoor.H
open Go.Sh Go.RowKit
set_option linter.unusedSimpArgs false
set_option linter.unusedVariables false
theorem UK : ∀ (es : List (Int × Int)) (a : Int), (∀ p ∈ es, p.2 = 1) → ∀ p ∈ zo es a 1, p.2 = 1
 | [], a, _, p, hp => by
  simp [zo] at hp
  rw [hp]
 | (x, y) :: es, a, h, p, hp => by
  unfold zo at hp
  by_cases hx : (x == a) = true
  ·rw [hx, cond_true] at hp
   rcases List.mem_cons.1 hp with rfl | hp
   ·rfl
   ·exact h p (List.mem_cons_of_mem _ hp)
  ·rw [Bool.not_eq_true] at hx
   rw [hx, cond_false] at hp
   rcases List.mem_cons.1 hp with rfl | hp
   ·exact h _ (List.mem_cons_self ..)
   ·exact UK es a (fun q hq => h q (List.mem_cons_of_mem _ hq)) p hp
theorem RX : ∀ (all : List Int) (es : List (Int × Int)), (∀ p ∈ es, p.2 = 1) → ∀ p ∈ IK es all, p.2 = 1
 | [], es, h => h
 | a :: all, es, h => RX all (zo es a 1) (UK es a h)
theorem SY (all : List Int) (h : ∀ a ∈ all, sj a = true) : ((IK [] all).all fun p => sj p.1 && sj p.2) = true := by
 rw [List.all_eq_true]
 intro p hp
 have h1 : p.1 ∈ (IK [] all).map (·.1) := List.mem_map_of_mem hp
 rw [Qv] at h1
 have h2 := RX all [] (by simp) p hp
 rw [h2, h p.1 (by simpa using h1)]
 rfl
theorem RY (n : Nat) (ts : List Z.Ty) (hts : ts.length ≤ 255) (h64 : ∀ t ∈ ts, sj t.1 = true) (h0 : List (List AV)) (h1 h2 : List Int) (h3 s1 s2 : Str) (b2 b3 b4 b5 b6 b7 b8 b9 b10 b11 b12 b13 : Int) : ∀ (q : List Z.Ty) (i m : Nat) (es : List (Int × Int)), ts.drop i = q → q.length < m →
 dW n m (ts.map Z.cT) ((ts.map Z.cT).length : Int) (i : Int) h0 h1 h2 h3 s1 s2 b2 b3 b4 b5 b6 b7 b8 b9 b10 b11 b12 b13 es = some (h0, h1, h2, h3, s1, s2, b2, b3, b4, b5, b6, b7, b8, b9, b10, b11, b12, b13, IK es (q.map (·.1)))
 | [], i, m + 1, es, h, _ => by
  have hi := drop_nil h
  simp only [dW, gY]
  rw [ah (by rw [List.length_map]; omega)]
  rfl
 | t :: q, i, m + 1, es, h, hm => by
  obtain ⟨k1, k2, k3⟩ := kW h
  simp only [List.length_cons] at hm
  have ht : t ∈ ts := List.mem_of_getElem? k1
  simp only [dW, gY]
  rw [aa (by rw [List.length_map]; omega), aa (by omega), Int.toNat_natCast, List.getElem?_map, k1, wG _ (by omega)]
  simp only [Option.map_some, Option.bind_some, Z.cT, unc, xS, yC, yD, unn, decide_true, cond_true]
  rw [h64 t ht, show sj 1 = true from rfl]
  simp only [Bool.and_self, cond_true]
  exact RY n ts hts h64 h0 h1 h2 h3 s1 s2 b2 b3 b4 b5 b6 b7 b8 b9 b10 b11 b12 b13 q (i + 1) m _ k2 (by omega)
theorem RZ (n : Nat) (ts : List Z.Ty) (hts : ts.length ≤ 255) (h64 : ∀ t ∈ ts, sj t.1 = true) (h0 : List (List AV)) (h1 h2 : List Int) (h3 : Str) : ∀ (q : List Z.Ty) (i m : Nat) (es : List (Int × Int)), ts.drop i = q → q.length < m →
 dY n m (ts.map Z.cT) ((ts.map Z.cT).length : Int) (i : Int) h0 h1 h2 h3 es = some (h0, h1, h2, h3, IK es (q.map (·.1)))
 | [], i, m + 1, es, h, _ => by
  have hi := drop_nil h
  simp only [dY, gZ]
  rw [ah (by rw [List.length_map]; omega)]
  rfl
 | t :: q, i, m + 1, es, h, hm => by
  obtain ⟨k1, k2, k3⟩ := kW h
  simp only [List.length_cons] at hm
  have ht : t ∈ ts := List.mem_of_getElem? k1
  simp only [dY, gZ]
  rw [aa (by rw [List.length_map]; omega), aa (by omega), Int.toNat_natCast, List.getElem?_map, k1, wG _ (by omega)]
  simp only [Option.map_some, Option.bind_some, Z.cT, unc, xS, yC, yD, unn, decide_true, cond_true]
  rw [h64 t ht, show sj 1 = true from rfl]
  simp only [Bool.and_self, cond_true]
  exact RZ n ts hts h64 h0 h1 h2 h3 q (i + 1) m _ k2 (by omega)
def rW (ts : List Z.Ty) (o : Option RuleV) : List Int := ts.map (·.1) ++ (match o with
 | some r => r.off :: (if r.dst = [] then [] else [r.doff])
 | none => [])
theorem ZZ {t : Z.Ty} (h : Z.okT t = true) : sj t.1 = true := by
 unfold Z.okT at h
 simp only [Bool.and_eq_true, Bool.not_eq_true', decide_eq_false_iff_not] at h
 simp only [sj, Bool.and_eq_true, decide_eq_true_eq]
 omega
theorem VK (n : Nat) (hn : 4001 ≤ n) (ts : List Z.Ty) (ti ix : List Int) (foot : Str) (hR : Z.RightS ts ti ix foot = true) :
 ru n (ts.map Z.cT) ti ix foot = some (uV [] (rW ts none), ts.map Z.cT, ti, ix, foot) := by
 obtain ⟨_, h2, _, _, _, h6, _, _⟩ := Z.right_parts hR
 have h64 : ∀ t ∈ ts, sj t.1 = true := fun t ht => ZZ (List.all_eq_true.1 h6 t ht)
 unfold ru nI
 have e := RZ n ts h2 h64 (ts.map Z.cT) ti ix foot ts 0 n [] (by simp) (by omega)
 simp only [Int.natCast_zero] at e
 rw [e]
 simp only [Option.bind_some, bX, bW]
 have hl := Nu (ts.map (·.1)) []
 simp only [List.length_nil, List.length_map] at hl
 rw [SY _ (by intro a ha; obtain ⟨t, ht, rfl⟩ := List.mem_map.1 ha; exact h64 t ht), Bool.and_true, aa (by omega), Kz]
 simp [rW]
theorem aaY {r : RuleV} (h : gL r = true) : sj r.off = true ∧ (r.dst ≠ [] → sj r.doff = true) := by
 obtain ⟨_, h1, h2, h3⟩ := CP h
 simp only [sj, Bool.and_eq_true, decide_eq_true_eq]
 refine ⟨by omega, fun hd => ?_⟩
 rcases h3 with ⟨h3, _⟩ | ⟨_, _, h4, h5, _⟩
 ·exact absurd h3 hd
 ·omega
theorem UL (es : List (Int × Int)) (l l' : List Int) : IK es (l ++ l') = IK (IK es l) l' := List.foldl_append
theorem VL (n : Nat) (hn : 4001 ≤ n) (ts : List Z.Ty) (ti ix : List Int) (foot : Str) (r : RuleV) (hR : Z.RightS ts ti ix foot = true) (hr : gL r = true) :
 rf n (ts.map Z.cT) ti ix foot r.std r.dst r.off r.doff r.a.k r.a.m r.a.w r.a.d r.a.t r.b.k r.b.m r.b.w r.b.d r.b.t = some (uV [] (rW ts (some r)), ts.map Z.cT, ti, ix, foot, r.std, r.dst, r.off, r.doff, r.a.k, r.a.m, r.a.w, r.a.d, r.a.t, r.b.k, r.b.m, r.b.w, r.b.d, r.b.t) := by
 obtain ⟨_, h2, _, _, _, h6, _, _⟩ := Z.right_parts hR
 obtain ⟨i1, i2⟩ := aaY hr
 have h64 : ∀ t ∈ ts, sj t.1 = true := fun t ht => ZZ (List.all_eq_true.1 h6 t ht)
 have hts : ∀ a ∈ ts.map (·.1), sj a = true := by intro a ha; obtain ⟨t, ht, rfl⟩ := List.mem_map.1 ha; exact h64 t ht
 unfold rf nH
 have e := RY n ts h2 h64 (ts.map Z.cT) ti ix foot r.std r.dst r.off r.doff r.a.k r.a.m r.a.w r.a.d r.a.t r.b.k r.b.m r.b.w r.b.d r.b.t ts 0 n [] (by simp) (by omega)
 simp only [Int.natCast_zero] at e
 rw [e]
 simp only [Option.bind_some, bX, bW]
 rw [i1, show sj 1 = true from rfl, Bool.and_self, cond_true]
 by_cases hd : r.dst = []
 ·rw [show (r.dst == ([] : Str)) = true by simpa using hd, Bool.not_true, cond_false]
  have ea : zo (IK [] (ts.map (·.1))) r.off 1 = IK [] (rW ts (some r)) := by
   simp only [rW, if_pos hd]
   rw [UL]
   rfl
  have hl := Nu (rW ts (some r)) []
  have hl2 : (rW ts (some r)).length = ts.length + 1 := by simp [rW, hd]
  simp only [List.length_nil] at hl
  rw [ea, SY _ (by
   intro a ha
   simp only [rW, if_pos hd] at ha
   rcases List.mem_append.1 ha with ha | ha
   ·exact hts a ha
   ·rw [List.mem_singleton.1 ha]; exact i1), Bool.and_true, aa (by omega), Kz]
 ·rw [show (r.dst == ([] : Str)) = false by simpa using hd, Bool.not_false, cond_true, i2 hd, Bool.and_true, cond_true]
  have ea : zo (zo (IK [] (ts.map (·.1))) r.off 1) r.doff 1 = IK [] (rW ts (some r)) := by
   simp only [rW, if_neg hd]
   rw [UL]
   rfl
  have hl := Nu (rW ts (some r)) []
  have hl2 : (rW ts (some r)).length = ts.length + 2 := by simp [rW, hd]
  simp only [List.length_nil] at hl
  rw [ea, SY _ (by
   intro a ha
   simp only [rW, if_neg hd] at ha
   rcases List.mem_append.1 ha with ha | ha
   ·exact hts a ha
   ·rcases List.mem_cons.1 ha with rfl | ha
    ·exact i1
    ·rw [List.mem_singleton.1 ha]; exact i2 hd), Bool.and_true, aa (by omega), Kz]
end Go.Proofs.YtiegmpnagcdgoaaGreatDoor.H
namespace Go.Proofs.YtiegmpnagcdgoaaGreatDoor.H
open Go.Sh Go.RowKit
set_option linter.unusedSimpArgs false
set_option linter.unusedVariables false
theorem Qy (n : Nat) (ts : List Z.Ty) (hts : ts.length ≤ 255) (h1 h2 : List Int) (h3 h4 h5 : Str) (h6 h7 h8 h9 h10 h11 h12 h13 h14 h15 h16 h17 : Int) (h18 h19 : Bool) : ∀ (q : List Z.Ty) (i m : Nat) (acc : List Int), ts.drop i = q → q.length < m → acc.length + q.length ≤ 1000 →
 aX n m acc (i : Int) (ts.map Z.cT) h1 h2 h3 h4 h5 h6 h7 h8 h9 h10 h11 h12 h13 h14 h15 h16 h17 h18 h19 = some (acc ++ q.map (·.1), ts.map Z.cT, h1, h2, h3, h4, h5, h6, h7, h8, h9, h10, h11, h12, h13, h14, h15, h16, h17, h18, h19)
 | [], i, m + 1, acc, h, _, _ => by
  have hi := drop_nil h
  simp only [aX, bO]
  rw [ah (by rw [List.length_map]; omega)]
  simp
 | t :: q, i, m + 1, acc, h, hm, ha => by
  obtain ⟨k1, k2, k3⟩ := kW h
  simp only [List.length_cons] at hm ha
  simp only [aX, bO]
  rw [aa (by rw [List.length_map]; omega), aa (by omega), Int.toNat_natCast, List.getElem?_map, k1, wG _ (by omega)]
  simp only [Option.map_some, Option.bind_some, Z.cT, unc, xS, yC, yD, unn, decide_true, cond_true]
  rw [aa (by simp only [List.length_cons, List.length_nil]; omega)]
  refine (Qy n ts hts h1 h2 h3 h4 h5 h6 h7 h8 h9 h10 h11 h12 h13 h14 h15 h16 h17 h18 h19 q (i + 1) m _ k2 (by omega) (by simp only [List.length_append, List.length_cons, List.length_nil]; omega)).trans ?_
  simp
def upto (l : List Int) (v : Int) : List Int := l.takeWhile fun x => decide (x ≤ v)
theorem Qz : ∀ (l : List Int) (v : Int), EQ l v = if v ∈ upto l v then l else upto l v ++ v :: l.drop (upto l v).length
 | [], v => by simp [upto, EQ]
 | b :: l, v => by
  unfold EQ upto
  by_cases h1 : b ≤ v
  ·rw [List.takeWhile_cons_of_pos (by simpa using h1), if_neg (by omega)]
   by_cases h2 : v = b
   ·subst h2
    simp
   ·rw [if_neg h2, Qz l v]
    unfold upto
    by_cases h3 : v ∈ l.takeWhile fun x => decide (x ≤ v)
    ·rw [if_pos h3, if_pos (List.mem_cons_of_mem _ h3)]
    ·rw [if_neg h3, if_neg (by rw [List.mem_cons]; exact fun h => h.elim h2 h3)]
     simp
  ·rw [List.takeWhile_cons_of_neg (by simpa using h1), if_pos (by omega)]
   simp
theorem WK (l : List Int) (v : Int) : (upto l v).length ≤ l.length := (List.takeWhile_prefix _).length_le
theorem R3 (l : List Int) (v : Int) : l.take (upto l v).length = upto l v := (List.prefix_iff_eq_take.1 (List.takeWhile_prefix _)).symm
theorem UM (n : Nat) (all out : List Int) (j : Nat) (v : Int) (hv : all[j]? = some v) (hb : out.length ≤ 2000) : ∀ (q : List Int) (k m : Nat) (b : Bool), out.drop k = q → q.length < m →
 aY n m all out.length out.length (j : Int) (k : Int) b out = some (((k + (upto q v).length : Nat) : Int), b || decide (v ∈ upto q v), out)
 | [], k, m + 1, b, h, _ => by
  have hi := drop_nil h
  simp only [aY, bR, fI, bQ]
  rw [ah (by omega)]
  simp [upto]
 | x :: q, k, m + 1, b, h, hm => by
  obtain ⟨k1, k2, k3⟩ := kW h
  simp only [List.length_cons] at hm
  simp only [aY, bR, fI, bQ]
  rw [aa (by omega), aa (by omega), aa (by omega), Int.toNat_natCast, Nat.mul_one, k1]
  simp only [Option.bind_some]
  rw [aa (by omega), Int.toNat_natCast, hv]
  simp only [Option.bind_some]
  by_cases hx : x ≤ v
  ·rw [decide_eq_true hx, cond_true, jl, d9]
   have hu : upto (x :: q) v = x :: upto q v := by unfold upto; rw [List.takeWhile_cons_of_pos (by simpa using hx)]
   have hj : (cond b (some (true, out)) (cond (decide ((0 : Int) ≤ (k : Int))) (cond (decide ((k : Int) < (out.length : Int))) ((out[Int.toNat (k : Int) * 1]?).bind fun y612 => (cond (decide ((0 : Int) ≤ (j : Int))) ((all[(j : Int).toNat]?).bind fun e613 => (some (y612 == e613, out))) none)) none) none)) = some (b || x == v, out) := by
    cases b with
    | true => rfl
    | false =>
     rw [cond_false, aa (by omega), aa (by omega), Int.toNat_natCast, Nat.mul_one, k1]
     simp only [Option.bind_some]
     rw [aa (by omega), Int.toNat_natCast, hv]
     rfl
   rw [hj]
   simp only [Option.bind_some]
   rw [wG _ (by omega), UM n all out j v hv hb q (k + 1) m _ k2 (by omega), hu]
   congr 2
   ·simp only [List.length_cons]; omega
   ·congr 1
    rw [Bool.or_assoc]
    congr 1
    simp only [List.mem_cons]
    rw [Bool.decide_or]
    congr 1
    by_cases e : x = v
    ·simp [e]
    ·simp [e, Ne.symm e]
  ·rw [decide_eq_false hx, cond_false]
   have hu : upto (x :: q) v = [] := by unfold upto; rw [List.takeWhile_cons_of_neg (by simpa using hx)]
   rw [hu]
   simp
theorem Z0 (n : Nat) (all out : List Int) (j : Nat) (v : Int) (hv : all[j]? = some v) (hb : out.length ≤ 1500) (hn : 2000 ≤ n) :
 fJ n all out.length out.length (j : Int) out = some (all, (EQ out v).length, (EQ out v).length, (j : Int), EQ out v) := by
 have e := UM n all out j v hv (by omega) out 0 n false (by simp) (by omega)
 simp only [Int.natCast_zero, Nat.zero_add, Bool.false_or] at e
 unfold fJ ed
 rw [e]
 simp only [Option.bind_some]
 by_cases h : v ∈ upto out v
 ·rw [decide_eq_true h, Bool.not_true, cond_false, Qz out v, if_pos h]
 ·have hp := WK out v
  have e2 : (([] : List Int) ++ (out.drop ((upto out v).length * 1)).take (out.length - (upto out v).length)) = out.drop (upto out v).length := by
   rw [List.nil_append, Nat.mul_one, List.take_of_length_le (by rw [List.length_drop]; omega)]
  have e3 : (out.take (upto out v).length ++ [v]).take ((upto out v).length + [v].length) = upto out v ++ [v] := by
   rw [R3, List.take_of_length_le (by simp)]
  rw [decide_eq_false h, Bool.not_false, cond_true]
  simp only [Int.toNat_natCast, e2, e3]
  have l1 : (out.take (upto out v).length).length = (upto out v).length := by rw [R3]
  have l2 : ((upto out v).length + [v].length) + (out.drop (upto out v).length).length = (EQ out v).length := by
   rw [Qz, if_neg h]
   simp only [List.length_append, List.length_cons, List.length_nil, List.length_drop]
   omega
  have l3 : (EQ out v).length ≤ 1501 := by
   rw [← l2, List.length_drop]
   simp only [List.length_cons, List.length_nil]
   omega
  rw [aa (by omega), aa (by omega), aa (by omega), aa (by simp only [List.length_nil]; omega), aa (by omega), aa (by omega), aa (by omega), hv]
  simp only [Option.bind_some, l2]
  have c1 : (decide True && (decide (0 < (upto out v).length + [v].length) || Nat.beq out.length 0) && decide (((upto out v).length + [v].length) * 8 ≤ 140737488355328)) = true := by
   simp only [Bool.and_eq_true, Bool.or_eq_true, decide_eq_true_eq, List.length_cons, List.length_nil]
   exact ⟨⟨trivial, .inl (by omega)⟩, by omega⟩
  have c2 : (decide ((upto out v).length + [v].length = (out.take (upto out v).length ++ [v]).length) && (decide (0 < (EQ out v).length) || Nat.beq ((upto out v).length + [v].length) 0) && decide ((EQ out v).length * 8 ≤ 140737488355328)) = true := by
   simp only [Bool.and_eq_true, Bool.or_eq_true, decide_eq_true_eq, List.length_append, l1]
   exact ⟨⟨trivial, .inl (by rw [← l2]; simp only [List.length_cons]; omega)⟩, by omega⟩
  rw [c1, cond_true, c2, cond_true, e3]
  have e4 : upto out v ++ [v] ++ out.drop (upto out v).length = EQ out v := by
   rw [Qz, if_neg h]
   simp
  rw [e4]
theorem WL (l : List Int) (v : Int) : (EQ l v).length ≤ l.length + 1 := by
 have hp := WK l v
 rw [Qz]
 split
 ·omega
 ·simp only [List.length_append, List.length_cons, List.length_drop]
  omega
theorem UN (n : Nat) (hn : 2000 ≤ n) (all : List Int) (hall : all.length ≤ 500) : ∀ (q : List Int) (j m : Nat) (out : List Int), all.drop j = q → q.length < m → out.length + q.length ≤ 1000 →
 aO n m all out.length out.length (j : Int) out = some ((uV out q).length, (uV out q).length, uV out q)
 | [], j, m + 1, out, h, _, _ => by
  have hi := drop_nil h
  simp only [aO, bS]
  rw [ah (by omega)]
  rfl
 | v :: q, j, m + 1, out, h, hm, ho => by
  obtain ⟨k1, k2, k3⟩ := kW h
  simp only [List.length_cons] at hm ho
  simp only [aO, bS]
  rw [aa (by omega), Z0 n all out j v k1 (by omega) hn]
  simp only [Option.bind_some]
  rw [wG _ (by omega)]
  have := WL out v
  exact UN n hn all hall q (j + 1) m (EQ out v) k2 (by omega) (by omega)
end Go.Proofs.YtiegmpnagcdgoaaGreatDoor.H
namespace Go.Proofs.YtiegmpnagcdgoaaGreatDoor.H
open Go.Sh Go.RowKit
set_option linter.unusedVariables false
set_option linter.unusedSimpArgs false
set_option maxHeartbeats 4000000
set_option maxRecDepth 100000
end Go.Proofs.YtiegmpnagcdgoaaGreatDoor.H
namespace Go.Proofs.YtiegmpnagcdgoaaGreatDoor.H
open Go.Sh Go.RowKit
set_option linter.unusedVariables false
set_option linter.unusedSimpArgs false
set_option maxHeartbeats 4000000
set_option maxRecDepth 100000
end Go.Proofs.YtiegmpnagcdgoaaGreatDoor.H
namespace Go.Proofs.YtiegmpnagcdgoaaGreatDoor.H
open Go.Sh Go.RowKit
set_option linter.unusedSimpArgs false
set_option linter.unusedVariables false
theorem Oa (n : Nat) (hn : 2000 ≤ n) (all : List Int) (hall : all.length ≤ 500) :
 ((aO n n all 0 0 (0 : Int) ([] : List Int)).bind fun o => cond (decide (o.2.1 = o.2.2.length)) (some (o.2.2.take o.1)) none) = some (uV [] all) := by
 have e := UN n hn all hall all 0 n [] (by simp) (by omega) (by simp; omega)
 simp only [Int.natCast_zero, List.length_nil] at e
 rw [e]
 simp
theorem VM (n : Nat) (hn : 4001 ≤ n) (ts : List Z.Ty) (ti ix : List Int) (foot : Str) (r : RuleV) (hR : Z.RightS ts ti ix foot = true) :
 bJ n (ts.map Z.cT) ti ix foot r.std r.dst r.off r.doff r.a.k r.a.m r.a.w r.a.d r.a.t r.b.k r.b.m r.b.w r.b.d r.b.t true false = some (uV [] (rW ts (some r))) := by
 obtain ⟨_, h2, _, _, _, _, _, _⟩ := Z.right_parts hR
 unfold bJ dC
 have e := Qy n ts h2 ti ix foot r.std r.dst r.off r.doff r.a.k r.a.m r.a.w r.a.d r.a.t r.b.k r.b.m r.b.w r.b.d r.b.t true false ts 0 n [] (by simp) (by omega) (by simp; omega)
 simp only [Int.natCast_zero] at e
 rw [cond_false, e]
 simp only [Option.bind_some, List.nil_append]
 rw [fH, bP, cond_true, aa (by simp only [List.length_map, List.length_cons, List.length_nil]; omega)]
 by_cases hd : r.dst = []
 ·rw [show (r.dst == ([] : Str)) = true by simpa using hd, Bool.not_true, cond_false]
  simp only [Option.bind_some]
  rw [show ts.map (·.1) ++ [r.off] = rW ts (some r) by simp [rW, hd]]
  exact Oa n (by omega) _ (by simp [rW, hd]; omega)
 ·rw [show (r.dst == ([] : Str)) = false by simpa using hd, Bool.not_false, cond_true, aa (by simp only [List.length_append, List.length_map, List.length_cons, List.length_nil]; omega)]
  simp only [Option.bind_some]
  rw [show ts.map (·.1) ++ [r.off] ++ [r.doff] = rW ts (some r) by simp [rW, hd]]
  exact Oa n (by omega) _ (by simp [rW, hd]; omega)
theorem VN (n : Nat) (hn : 4001 ≤ n) (ts : List Z.Ty) (ti ix : List Int) (foot : Str) (a4 a5 : Str) (a6 a7 a8 a9 a10 a11 a12 a13 a14 a15 a16 a17 : Int) (hR : Z.RightS ts ti ix foot = true) :
 bJ n (ts.map Z.cT) ti ix foot a4 a5 a6 a7 a8 a9 a10 a11 a12 a13 a14 a15 a16 a17 false false = some (uV [] (rW ts none)) := by
 obtain ⟨_, h2, _, _, _, _, _, _⟩ := Z.right_parts hR
 unfold bJ dC
 have e := Qy n ts h2 ti ix foot a4 a5 a6 a7 a8 a9 a10 a11 a12 a13 a14 a15 a16 a17 false false ts 0 n [] (by simp) (by omega) (by simp; omega)
 simp only [Int.natCast_zero] at e
 rw [cond_false, e]
 simp only [Option.bind_some, List.nil_append]
 rw [fH, bP, cond_false]
 simp only [Option.bind_some]
 rw [show ts.map (·.1) = rW ts none by simp [rW]]
 exact Oa n (by omega) _ (by simp [rW]; omega)
theorem Ob : ∀ (all l : List Int), (uV l all).length ≤ l.length + all.length
 | [], l => by simp [uV]
 | a :: all, l => by
  have h1 := Ob all (EQ l a)
  have h2 := WL l a
  unfold uV at h1 ⊢
  rw [List.foldl_cons, List.length_cons]
  omega
end Go.Proofs.YtiegmpnagcdgoaaGreatDoor.H
namespace Go.Proofs.YtiegmpnagcdgoaaGreatDoor.H
open Go.Sh Go.RowKit
set_option linter.unusedSimpArgs false
set_option linter.unusedVariables false
theorem aaZ (n : Nat) (hn : 20000 < n) (ts : List Z.Ty) (ti ix : List Int) (foot : Str) (r : RuleV) (hR : Z.RightS ts ti ix foot = true) (hr : gL r = true) (sec : Int) {o : Int}
 (h : aA n (ts.map Z.cT) ti ix foot r.std r.dst r.off r.doff r.a.k r.a.m r.a.w r.a.d r.a.t r.b.k r.b.m r.b.w r.b.d r.b.t true false sec = some o) : -93599 ≤ o ∧ o ≤ 93599 := by
 obtain ⟨_, _, hb, _, _, h6, _, _⟩ := Z.right_parts hR
 obtain ⟨g1, g2, g3, g4⟩ := CP hr
 unfold aA aT at h
 rw [cond_false, N9 n _ _ ti _ _ _ _ _ _ _ _ _ _ _ _ _ _ _ _ _ hb] at h
 simp only [Option.bind_some] at h
 revert h
 generalize (if (-10000000000 : Int) < (if sec < (100000000000 : Int) then sec else (100000000000 : Int)) then (if sec < (100000000000 : Int) then sec else (100000000000 : Int)) else (-10000000000 : Int)) = t
 intro h
 cases hov : Qx ti t with
 | true =>
  rw [hov, cond_true] at h
  by_cases hd : r.dst = []
  ·rw [RJ n r t hr hd (by have := (G7 hr).1; omega) (by have := (G7 hr).1; omega)] at h
   simp only [Option.bind_some, Option.some.injEq] at h
   omega
  ·obtain ⟨y, _, _, _, hv⟩ := rat_val n r t hn hr hd
   rw [hv] at h
   simp only [Option.bind_some, Option.some.injEq] at h
   rcases g4 with ⟨g4, _⟩ | ⟨_, _, g5, g6, _⟩
   ·exact absurd g4 hd
   ·unfold Mh at h
    split at h <;> simp only at h <;> omega
 | false =>
  rw [hov, cond_false, Z.rat_val n (by omega) ts ti ix foot _ (Jl hR (by omega)) (by have := Jm hR; omega)] at h
  obtain ⟨k1, k2⟩ := SX hR t
  simp only [Option.bind_some] at h
  rw [aa k1, IL k1 k2] at h
  injection h with h
  have h3 : (Z.AtS ts ti ix foot t).toNat < ts.length := by omega
  rw [List.getD_eq_getElem?_getD, List.getElem?_eq_getElem h3] at h
  have h4 := List.all_eq_true.1 h6 _ (List.getElem_mem h3)
  unfold Z.okT at h4
  simp only [Bool.and_eq_true, Bool.not_eq_true', decide_eq_false_iff_not] at h4
  simp only [Option.getD_some] at h
  omega
theorem aa0 (n : Nat) (hn : 20000 < n) (ts : List Z.Ty) (ti ix : List Int) (foot : Str) (a4 a5 : Str) (a6 a7 a8 a9 a10 a11 a12 a13 a14 a15 a16 a17 : Int) (hR : Z.RightS ts ti ix foot = true) (sec : Int) {o : Int}
 (h : aA n (ts.map Z.cT) ti ix foot a4 a5 a6 a7 a8 a9 a10 a11 a12 a13 a14 a15 a16 a17 false false sec = some o) : -93599 ≤ o ∧ o ≤ 93599 := by
 obtain ⟨_, _, hb, _, _, h6, _, _⟩ := Z.right_parts hR
 unfold aA aT bI bq at h
 simp only [Option.bind_some, cond_false] at h
 revert h
 generalize (if (-10000000000 : Int) < (if sec < (100000000000 : Int) then sec else (100000000000 : Int)) then (if sec < (100000000000 : Int) then sec else (100000000000 : Int)) else (-10000000000 : Int)) = t
 intro h
 rw [Z.rat_val n (by omega) ts ti ix foot _ (Jl hR (by omega)) (by have := Jm hR; omega)] at h
 obtain ⟨k1, k2⟩ := SX hR t
 simp only [Option.bind_some] at h
 rw [aa k1, IL k1 k2] at h
 injection h with h
 have h3 : (Z.AtS ts ti ix foot t).toNat < ts.length := by omega
 rw [List.getD_eq_getElem?_getD, List.getElem?_eq_getElem h3] at h
 have h4 := List.all_eq_true.1 h6 _ (List.getElem_mem h3)
 unfold Z.okT at h4
 simp only [Bool.and_eq_true, Bool.not_eq_true', decide_eq_false_iff_not] at h4
 simp only [Option.getD_some] at h
 omega
end Go.Proofs.YtiegmpnagcdgoaaGreatDoor.H
namespace Go.Proofs.YtiegmpnagcdgoaaGreatDoor.H
open Go.Sh Go.RowKit
set_option linter.unusedSimpArgs false
set_option linter.unusedVariables false
def qW (f : Int → Int) (loc : Int) (acc : List Int) (v : Int) : List Int := if -10000000000000000 ≤ loc - v * 1000000 ∧ loc - v * 1000000 ≤ 100000000000000000 ∧ f ((loc - v * 1000000) / 1000000) = v then acc ++ [loc - v * 1000000] else acc
def zb (n : Nat) (ts : List Z.Ty) (ti ix : List Int) (foot : Str) (r : RuleV) (sec : Int) : Int := (aA n (ts.map Z.cT) ti ix foot r.std r.dst r.off r.doff r.a.k r.a.m r.a.w r.a.d r.a.t r.b.k r.b.m r.b.w r.b.d r.b.t true false sec).getD 0
theorem X3 (n : Nat) (hn : 20000 < n) (ts : List Z.Ty) (ti ix : List Int) (foot : Str) (r : RuleV) (hR : Z.RightS ts ti ix foot = true) (hr : gL r = true) (sec : Int) :
 oK n sec (ts.map Z.cT) ti ix foot r.std r.dst r.off r.doff r.a.k r.a.m r.a.w r.a.d r.a.t r.b.k r.b.m r.b.w r.b.d r.b.t = some (zb n ts ti ix foot r sec, ts.map Z.cT, ti, ix, foot, r.std, r.dst, r.off, r.doff, r.a.k, r.a.m, r.a.w, r.a.d, r.a.t, r.b.k, r.b.m, r.b.w, r.b.d, r.b.t) := by
 obtain ⟨l1, l2⟩ := G7 hr
 obtain ⟨d, e1, e2⟩ := Nv n hn ts ti ix foot r hR l1 l2 sec
 rw [e1, zb, e2]
 rfl
theorem KA (f : Int → Int) (loc : Int) (acc : List Int) (v : Int) : (qW f loc acc v).length ≤ acc.length + 1 := by
 unfold qW
 split <;> simp
theorem X4 (n : Nat) (hn : 20000 < n) (ts : List Z.Ty) (ti ix : List Int) (foot : Str) (r : RuleV) (hR : Z.RightS ts ti ix foot = true) (hr : gL r = true) (i v loc : Int) (acc : List Int) (hv : -93599 ≤ v ∧ v ≤ 93599) (hl : -1000000000000000000 ≤ loc ∧ loc ≤ 1000000000000000000) (ha : acc.length ≤ 5000) :
 ng n i v loc acc (ts.map Z.cT) ti ix foot r.std r.dst r.off r.doff r.a.k r.a.m r.a.w r.a.d r.a.t r.b.k r.b.m r.b.w r.b.d r.b.t = some (loc, qW (zb n ts ti ix foot r) loc acc v, ts.map Z.cT, ti, ix, foot, r.std, r.dst, r.off, r.doff, r.a.k, r.a.m, r.a.w, r.a.d, r.a.t, r.b.k, r.b.m, r.b.w, r.b.d, r.b.t) := by
 unfold ng jA qW
 rw [wi (v * 1000000) (by omega) (by omega), wi (loc - v * 1000000) (by omega) (by omega)]
 by_cases c1 : loc - v * 1000000 ≥ -10000000000000000
 ·rw [aa c1]
  by_cases c2 : loc - v * 1000000 ≤ 100000000000000000
  ·rw [aa c2, Mk n _ (by omega)]
   simp only [Option.bind_some]
   rw [X3 n hn ts ti ix foot r hR hr]
   simp only [Option.bind_some]
   by_cases c3 : zb n ts ti ix foot r ((loc - v * 1000000) / 1000000) = v
   ·rw [show (zb n ts ti ix foot r ((loc - v * 1000000) / 1000000) == v) = true by simpa using c3, cond_true, aa (by simp only [List.length_cons, List.length_nil]; omega), if_pos ⟨c1, c2, c3⟩]
   ·rw [show (zb n ts ti ix foot r ((loc - v * 1000000) / 1000000) == v) = false by simpa using c3, cond_false, if_neg (fun h => c3 h.2.2)]
  ·rw [ah c2, if_neg (fun h => c2 h.2.1)]
 ·rw [ah c1, if_neg (fun h => c1 h.1)]
theorem R4 (n : Nat) (hn : 20000 < n) (ts : List Z.Ty) (ti ix : List Int) (foot : Str) (r : RuleV) (hR : Z.RightS ts ti ix foot = true) (hr : gL r = true) (L : List Int) (loc : Int) (hv : ∀ v ∈ L, -93599 ≤ v ∧ v ≤ 93599) (hL : L.length ≤ 2000) (hl : -1000000000000000000 ≤ loc ∧ loc ≤ 1000000000000000000) : ∀ (k m : Nat) (acc : List Int), k ≤ L.length → k < m → acc.length + k ≤ 4000 →
 aV n m ((k : Int) - 1) L loc acc (ts.map Z.cT) ti ix foot r.std r.dst r.off r.doff r.a.k r.a.m r.a.w r.a.d r.a.t r.b.k r.b.m r.b.w r.b.d r.b.t = some (L, loc, (L.take k).reverse.foldl (qW (zb n ts ti ix foot r) loc) acc, ts.map Z.cT, ti, ix, foot, r.std, r.dst, r.off, r.doff, r.a.k, r.a.m, r.a.w, r.a.d, r.a.t, r.b.k, r.b.m, r.b.w, r.b.d, r.b.t)
 | 0, m + 1, acc, _, _, _ => by
  simp only [aV, bM]
  rw [ah (by omega)]
  simp
 | k + 1, m + 1, acc, hk, hm, ha => by
  have hk2 : k < L.length := by omega
  simp only [aV, bM]
  rw [aa (by omega), aa (by omega), show (((k + 1 : Nat) : Int) - 1).toNat = k by omega, List.getElem?_eq_getElem hk2]
  simp only [Option.bind_some]
  rw [X4 n hn ts ti ix foot r hR hr _ _ loc acc (hv _ (List.getElem_mem hk2)) hl (by omega)]
  simp only [Option.bind_some]
  rw [wi _ (by omega) (by omega), show (((k + 1 : Nat) : Int) - 1 - 1) = (k : Int) - 1 by omega]
  have := KA (zb n ts ti ix foot r) loc acc L[k]
  rw [R4 n hn ts ti ix foot r hR hr L loc hv hL hl k m _ (by omega) (by omega) (by omega), List.take_succ_eq_append_getElem hk2, List.reverse_append]
  rfl
end Go.Proofs.YtiegmpnagcdgoaaGreatDoor.H
namespace Go.Proofs.YtiegmpnagcdgoaaGreatDoor.H
open Go.Sh Go.RowKit
set_option linter.unusedSimpArgs false
set_option linter.unusedVariables false
theorem WM {ts : List Z.Ty} {ti ix : List Int} {foot : Str} {r : RuleV} (hR : Z.RightS ts ti ix foot = true) (hr : gL r = true) : ∀ v ∈ uV [] (rW ts (some r)), -93599 ≤ v ∧ v ≤ 93599 := by
 obtain ⟨_, _, _, _, _, h6, _, _⟩ := Z.right_parts hR
 obtain ⟨_, g2, g3, g4⟩ := CP hr
 intro v hv
 rw [KX] at hv
 rcases hv with hv | hv
 ·simp at hv
 ·unfold rW at hv
  rcases List.mem_append.1 hv with hv | hv
  ·obtain ⟨t, ht, rfl⟩ := List.mem_map.1 hv
   have h4 := List.all_eq_true.1 h6 t ht
   unfold Z.okT at h4
   simp only [Bool.and_eq_true, Bool.not_eq_true', decide_eq_false_iff_not] at h4
   omega
  ·simp only at hv
   rcases List.mem_cons.1 hv with rfl | hv
   ·omega
   ·split at hv
    ·simp at hv
    ·rename_i hd
     rw [List.mem_singleton.1 hv]
     rcases g4 with ⟨g4, _⟩ | ⟨_, _, g5, g6, _⟩
     ·exact absurd g4 hd
     ·omega
theorem UO (ts : List Z.Ty) (r : RuleV) (h : ts.length ≤ 255) : (uV [] (rW ts (some r))).length ≤ 2000 := by
 have h1 := Ob (rW ts (some r)) []
 have h2 : (rW ts (some r)).length ≤ ts.length + 2 := by
  unfold rW
  simp only
  split <;> simp
 simp only [List.length_nil] at h1
 omega
theorem Oc (n : Nat) (hn : 20000 < n) (ts : List Z.Ty) (ti ix : List Int) (foot : Str) (r : RuleV) (hR : Z.RightS ts ti ix foot = true) (hr : gL r = true) (a0 a1 a2 a3 a4 a5 a6 loc : Int) (hm : cK n a0 a1 a2 a3 a4 a5 a6 = some (loc, 0)) (hl : -1000000000000000000 ≤ loc ∧ loc ≤ 1000000000000000000) :
 dX n a0 a1 a2 a3 a4 a5 a6 (ts.map Z.cT) ti ix foot r.std r.dst r.off r.doff r.a.k r.a.m r.a.w r.a.d r.a.t r.b.k r.b.m r.b.w r.b.d r.b.t = some ((uV [] (rW ts (some r))).reverse.foldl (qW (zb n ts ti ix foot r) loc) [], 0, ts.map Z.cT, ti, ix, foot, r.std, r.dst, r.off, r.doff, r.a.k, r.a.m, r.a.w, r.a.d, r.a.t, r.b.k, r.b.m, r.b.w, r.b.d, r.b.t) := by
 obtain ⟨_, h2, _, _, _, _, _, _⟩ := Z.right_parts hR
 have hlen := UO ts r h2
 unfold dX jf
 rw [hm]
 simp only [Option.bind_some, bne_self_eq_false, cond_false]
 rw [VL n (by omega) ts ti ix foot r hR hr]
 simp only [Option.bind_some, dN, dM, oL, fZ]
 rw [wi _ (by omega) (by omega), R4 n hn ts ti ix foot r hR hr _ loc (WM hR hr) hlen hl (uV [] (rW ts (some r))).length n [] (Nat.le_refl _) (by omega) (by simp only [List.length_nil]; omega)]
 simp only [Option.bind_some, List.take_length]
end Go.Proofs.YtiegmpnagcdgoaaGreatDoor.H
namespace Go.Proofs.YtiegmpnagcdgoaaGreatDoor.H
open Go.Sh Go.RowKit
set_option linter.unusedSimpArgs false
set_option linter.unusedVariables false
theorem UQ (ts : List Z.Ty) (h : ts.length ≤ 255) : (uV [] (rW ts none)).length ≤ 2000 := by
 have h1 := Ob (rW ts none) []
 have h2 : (rW ts none).length = ts.length := by simp [rW]
 simp only [List.length_nil] at h1
 omega
end Go.Proofs.YtiegmpnagcdgoaaGreatDoor.H
namespace Go.Proofs.YtiegmpnagcdgoaaGreatDoor.H
open Go.Sh Go.RowKit
set_option linter.unusedSimpArgs false
set_option linter.unusedVariables false
def IM (n : Nat) (ts : List Z.Ty) (ti ix : List Int) (foot : Str) (sec : Int) : Int := (aA n (ts.map Z.cT) ti ix foot [] [] 0 0 0 0 0 0 0 0 0 0 0 0 false false sec).getD 0
theorem X5 (n : Nat) (hn : 20000 < n) (ts : List Z.Ty) (ti ix : List Int) (foot : Str) (hR : Z.RightS ts ti ix foot = true) (sec : Int) :
 oN n sec (ts.map Z.cT) ti ix foot = some (IM n ts ti ix foot sec, ts.map Z.cT, ti, ix, foot) := by
 obtain ⟨d, e1, e2⟩ := Nw n hn ts ti ix foot [] [] 0 0 0 0 0 0 0 0 0 0 0 0 hR sec
 rw [e1, IM, e2]
 rfl
theorem X6 (n : Nat) (hn : 20000 < n) (ts : List Z.Ty) (ti ix : List Int) (foot : Str) (hR : Z.RightS ts ti ix foot = true) (i v loc : Int) (acc : List Int) (hv : -93599 ≤ v ∧ v ≤ 93599) (hl : -1000000000000000000 ≤ loc ∧ loc ≤ 1000000000000000000) (ha : acc.length ≤ 5000) :
 ni n i v loc acc (ts.map Z.cT) ti ix foot  = some (loc, qW (IM n ts ti ix foot) loc acc v, ts.map Z.cT, ti, ix, foot) := by
 unfold ni jB qW
 rw [wi (v * 1000000) (by omega) (by omega), wi (loc - v * 1000000) (by omega) (by omega)]
 by_cases c1 : loc - v * 1000000 ≥ -10000000000000000
 ·rw [aa c1]
  by_cases c2 : loc - v * 1000000 ≤ 100000000000000000
  ·rw [aa c2, Mk n _ (by omega)]
   simp only [Option.bind_some]
   rw [X5 n hn ts ti ix foot hR]
   simp only [Option.bind_some]
   by_cases c3 : IM n ts ti ix foot ((loc - v * 1000000) / 1000000) = v
   ·rw [show (IM n ts ti ix foot ((loc - v * 1000000) / 1000000) == v) = true by simpa using c3, cond_true, aa (by simp only [List.length_cons, List.length_nil]; omega), if_pos ⟨c1, c2, c3⟩]
   ·rw [show (IM n ts ti ix foot ((loc - v * 1000000) / 1000000) == v) = false by simpa using c3, cond_false, if_neg (fun h => c3 h.2.2)]
  ·rw [ah c2, if_neg (fun h => c2 h.2.1)]
 ·rw [ah c1, if_neg (fun h => c1 h.1)]
theorem R5 (n : Nat) (hn : 20000 < n) (ts : List Z.Ty) (ti ix : List Int) (foot : Str) (hR : Z.RightS ts ti ix foot = true) (L : List Int) (loc : Int) (hv : ∀ v ∈ L, -93599 ≤ v ∧ v ≤ 93599) (hL : L.length ≤ 2000) (hl : -1000000000000000000 ≤ loc ∧ loc ≤ 1000000000000000000) : ∀ (k m : Nat) (acc : List Int), k ≤ L.length → k < m → acc.length + k ≤ 4000 →
 aW n m ((k : Int) - 1) L loc acc (ts.map Z.cT) ti ix foot  = some (L, loc, (L.take k).reverse.foldl (qW (IM n ts ti ix foot) loc) acc, ts.map Z.cT, ti, ix, foot)
 | 0, m + 1, acc, _, _, _ => by
  simp only [aW, bN]
  rw [ah (by omega)]
  simp
 | k + 1, m + 1, acc, hk, hm, ha => by
  have hk2 : k < L.length := by omega
  simp only [aW, bN]
  rw [aa (by omega), aa (by omega), show (((k + 1 : Nat) : Int) - 1).toNat = k by omega, List.getElem?_eq_getElem hk2]
  simp only [Option.bind_some]
  rw [X6 n hn ts ti ix foot hR _ _ loc acc (hv _ (List.getElem_mem hk2)) hl (by omega)]
  simp only [Option.bind_some]
  rw [wi _ (by omega) (by omega), show (((k + 1 : Nat) : Int) - 1 - 1) = (k : Int) - 1 by omega]
  have := KA (IM n ts ti ix foot) loc acc L[k]
  rw [R5 n hn ts ti ix foot hR L loc hv hL hl k m _ (by omega) (by omega) (by omega), List.take_succ_eq_append_getElem hk2, List.reverse_append]
  rfl
theorem WN {ts : List Z.Ty} {ti ix : List Int} {foot : Str} (hR : Z.RightS ts ti ix foot = true) : ∀ v ∈ uV [] (rW ts none), -93599 ≤ v ∧ v ≤ 93599 := by
 obtain ⟨_, _, _, _, _, h6, _, _⟩ := Z.right_parts hR
 intro v hv
 rw [KX] at hv
 rcases hv with hv | hv
 ·simp at hv
 ·unfold rW at hv
  rcases List.mem_append.1 hv with hv | hv
  ·obtain ⟨t, ht, rfl⟩ := List.mem_map.1 hv
   have h4 := List.all_eq_true.1 h6 t ht
   unfold Z.okT at h4
   simp only [Bool.and_eq_true, Bool.not_eq_true', decide_eq_false_iff_not] at h4
   omega
  ·simp at hv
theorem X7 (n : Nat) (hn : 20000 < n) (ts : List Z.Ty) (ti ix : List Int) (foot : Str) (hR : Z.RightS ts ti ix foot = true) (a0 a1 a2 a3 a4 a5 a6 loc : Int) (hm : cK n a0 a1 a2 a3 a4 a5 a6 = some (loc, 0)) (hl : -1000000000000000000 ≤ loc ∧ loc ≤ 1000000000000000000) :
 dZ n a0 a1 a2 a3 a4 a5 a6 (ts.map Z.cT) ti ix foot  = some ((uV [] (rW ts none)).reverse.foldl (qW (IM n ts ti ix foot) loc) [], 0, ts.map Z.cT, ti, ix, foot) := by
 obtain ⟨_, h2, _, _, _, _, _, _⟩ := Z.right_parts hR
 have hlen := UQ ts h2
 unfold dZ jg
 rw [hm]
 simp only [Option.bind_some, bne_self_eq_false, cond_false]
 rw [VK n (by omega) ts ti ix foot hR]
 simp only [Option.bind_some, dN, dM, oO, gm]
 rw [wi _ (by omega) (by omega), R5 n hn ts ti ix foot hR _ loc (WN hR) hlen hl (uV [] (rW ts none)).length n [] (Nat.le_refl _) (by omega) (by simp only [List.length_nil]; omega)]
 simp only [Option.bind_some, List.take_length]
theorem X8 (n : Nat) (hn : 20000 < n) (a0 a1 a2 a3 a4 a5 a6 loc : Int) (hm : cK n a0 a1 a2 a3 a4 a5 a6 = some (loc, 0)) (hl : -1000000000000000000 ≤ loc ∧ loc ≤ 1000000000000000000) :
 fV n a0 a1 a2 a3 a4 a5 a6 = some (qW (fun _ => 0) loc [] 0, 0) := by
 obtain ⟨m, rfl⟩ : ∃ m, n = m + 2 := ⟨n - 2, by omega⟩
 unfold fV kL
 rw [hm]
 have hr : kK (m + 2) 0 0 loc [] = some (loc, qW (fun _ => 0) loc [] 0) := by
  unfold kK kJ qW
  rw [wi (0 * 1000000) (by omega) (by omega), wi (loc - 0 * 1000000) (by omega) (by omega)]
  by_cases c1 : loc - 0 * 1000000 ≥ -10000000000000000
  ·rw [aa c1]
   by_cases c2 : loc - 0 * 1000000 ≤ 100000000000000000
   ·rw [aa c2, Mk _ _ (by omega)]
    simp only [Option.bind_some]
    rw [show ((0 : Int) == 0) = true from rfl, cond_true, if_pos ⟨c1, c2, trivial⟩]
    rfl
   ·rw [ah c2, if_neg (fun h => c2 h.2.1)]
  ·rw [ah c1, if_neg (fun h => c1 h.1)]
 simp only [Option.bind_some, bne_self_eq_false, cond_false]
 rw [show yz (m + 2) = some [0] from by kernel_rfl]
 simp only [Option.bind_some, dN, dM, ql, iC]
 rw [show bU (m + 2) (m + 2) (IntKind.i64.wrap (([0] : List Int).length - 1)) [0] loc [] = ((kK (m + 2) 0 0 loc []).bind fun o => bU (m + 2) (m + 1) (-1) [0] o.1 o.2) from by kernel_rfl, hr]
 rfl
end Go.Proofs.YtiegmpnagcdgoaaGreatDoor.H
namespace Go.Proofs.YtiegmpnagcdgoaaGreatDoor.H
open Go.Sh Go.RowKit
set_option linter.unusedVariables false
set_option linter.unusedSimpArgs false
set_option maxHeartbeats 4000000
set_option maxRecDepth 100000
def dJ (n : Nat) (x1 x8 : Int) (h0_0 : List (List AV)) (h0_1 h0_2 : List Int) (h0_3 h0_4 h0_5 : Str) (h0_6 h0_7 h0_8 h0_9 h0_10 h0_11 h0_12 h0_13 h0_14 h0_15 h0_16 h0_17 : Int) (h0_18 h0_19 : Bool) (R : Type) (K : W21 → Option R) : Option R := cond (decide (x8 ≥ (-10000000000000000 : Int))) (cond (decide (x8 ≤ (100000000000000000 : Int))) ((aI n h0_0 h0_1 h0_2 h0_3 h0_4 h0_5 h0_6 h0_7 h0_8 h0_9 h0_10 h0_11 h0_12 h0_13 h0_14 h0_15 h0_16 h0_17 h0_18 h0_19 x8).bind fun o726 => (K (o726 == x1, h0_0, h0_1, h0_2, h0_3, h0_4, h0_5, h0_6, h0_7, h0_8, h0_9, h0_10, h0_11, h0_12, h0_13, h0_14, h0_15, h0_16, h0_17, h0_18, h0_19))) (K (false, h0_0, h0_1, h0_2, h0_3, h0_4, h0_5, h0_6, h0_7, h0_8, h0_9, h0_10, h0_11, h0_12, h0_13, h0_14, h0_15, h0_16, h0_17, h0_18, h0_19))) (K (false, h0_0, h0_1, h0_2, h0_3, h0_4, h0_5, h0_6, h0_7, h0_8, h0_9, h0_10, h0_11, h0_12, h0_13, h0_14, h0_15, h0_16, h0_17, h0_18, h0_19))
def iI n x1 x8 h0_0 h0_1 h0_2 h0_3 h0_4 h0_5 h0_6 h0_7 h0_8 h0_9 h0_10 h0_11 h0_12 h0_13 h0_14 h0_15 h0_16 h0_17 h0_18 h0_19 := dJ n x1 x8 h0_0 h0_1 h0_2 h0_3 h0_4 h0_5 h0_6 h0_7 h0_8 h0_9 h0_10 h0_11 h0_12 h0_13 h0_14 h0_15 h0_16 h0_17 h0_18 h0_19 _ some
def lm : PS := ⟨[5, 6, 7], [(1, .n), (2, .q 0 0), (8, .n)], some [.c 36 [.L false 3, .l .i64, .l .i64, .s, .s, .s, .n, .n, .c, .n, .n, .n, .n, .c, .n, .n, .n, .n, .b, .b]], [⟨.normal, [1, 2, 5, 6, 7, 8], [(37, .b)], [.c 36 [.L false 3, .l .i64, .l .i64, .s, .s, .s, .n, .n, .c, .n, .n, .n, .n, .c, .n, .n, .n, .n, .b, .b]], none⟩], none, none⟩
def dK (n : Nat) (x1 : Int) (x5 x6 : List Int) (x7 : Int) (h0_0 : List (List AV)) (h0_1 h0_2 : List Int) (h0_3 h0_4 h0_5 : Str) (h0_6 h0_7 h0_8 h0_9 h0_10 h0_11 h0_12 h0_13 h0_14 h0_15 h0_16 h0_17 : Int) (h0_18 h0_19 : Bool) (R : Type) (K : W22 → Option R) : Option R := cond (decide (0 ≤ x7)) ((x5[x7.toNat]?).bind fun e725 => ((iI n x1 (IntKind.i64.wrap (x1 - (IntKind.i64.wrap (e725 * (1000000 : Int))))) h0_0 h0_1 h0_2 h0_3 h0_4 h0_5 h0_6 h0_7 h0_8 h0_9 h0_10 h0_11 h0_12 h0_13 h0_14 h0_15 h0_16 h0_17 h0_18 h0_19).bind fun o727 => (cond o727.1 (cond (decide ((x6.length + ([IntKind.i64.wrap (x1 - (IntKind.i64.wrap (e725 * (1000000 : Int))))] : List Int).length) * 8 ≤ 140737488355328)) (K (x6 ++ ([IntKind.i64.wrap (x1 - (IntKind.i64.wrap (e725 * (1000000 : Int))))] : List Int), o727.2.1, o727.2.2.1, o727.2.2.2.1, o727.2.2.2.2.1, o727.2.2.2.2.2.1, o727.2.2.2.2.2.2.1, o727.2.2.2.2.2.2.2.1, o727.2.2.2.2.2.2.2.2.1, o727.2.2.2.2.2.2.2.2.2.1, o727.2.2.2.2.2.2.2.2.2.2.1, o727.2.2.2.2.2.2.2.2.2.2.2.1, o727.2.2.2.2.2.2.2.2.2.2.2.2.1, o727.2.2.2.2.2.2.2.2.2.2.2.2.2.1, o727.2.2.2.2.2.2.2.2.2.2.2.2.2.2.1, o727.2.2.2.2.2.2.2.2.2.2.2.2.2.2.2.1, o727.2.2.2.2.2.2.2.2.2.2.2.2.2.2.2.2.1, o727.2.2.2.2.2.2.2.2.2.2.2.2.2.2.2.2.2.1, o727.2.2.2.2.2.2.2.2.2.2.2.2.2.2.2.2.2.2.1, o727.2.2.2.2.2.2.2.2.2.2.2.2.2.2.2.2.2.2.2.1, o727.2.2.2.2.2.2.2.2.2.2.2.2.2.2.2.2.2.2.2.2)) none) (K (x6, o727.2.1, o727.2.2.1, o727.2.2.2.1, o727.2.2.2.2.1, o727.2.2.2.2.2.1, o727.2.2.2.2.2.2.1, o727.2.2.2.2.2.2.2.1, o727.2.2.2.2.2.2.2.2.1, o727.2.2.2.2.2.2.2.2.2.1, o727.2.2.2.2.2.2.2.2.2.2.1, o727.2.2.2.2.2.2.2.2.2.2.2.1, o727.2.2.2.2.2.2.2.2.2.2.2.2.1, o727.2.2.2.2.2.2.2.2.2.2.2.2.2.1, o727.2.2.2.2.2.2.2.2.2.2.2.2.2.2.1, o727.2.2.2.2.2.2.2.2.2.2.2.2.2.2.2.1, o727.2.2.2.2.2.2.2.2.2.2.2.2.2.2.2.2.1, o727.2.2.2.2.2.2.2.2.2.2.2.2.2.2.2.2.2.1, o727.2.2.2.2.2.2.2.2.2.2.2.2.2.2.2.2.2.2.1, o727.2.2.2.2.2.2.2.2.2.2.2.2.2.2.2.2.2.2.2.1, o727.2.2.2.2.2.2.2.2.2.2.2.2.2.2.2.2.2.2.2.2))))) none
def fe n x1 x5 x6 x7 h0_0 h0_1 h0_2 h0_3 h0_4 h0_5 h0_6 h0_7 h0_8 h0_9 h0_10 h0_11 h0_12 h0_13 h0_14 h0_15 h0_16 h0_17 h0_18 h0_19 := dK n x1 x5 x6 x7 h0_0 h0_1 h0_2 h0_3 h0_4 h0_5 h0_6 h0_7 h0_8 h0_9 h0_10 h0_11 h0_12 h0_13 h0_14 h0_15 h0_16 h0_17 h0_18 h0_19 _ some
def lq : PS := ⟨[], [(1, .n), (2, .q 0 0), (5, .I true .i64), (6, .I true .i64), (7, .n)], some [.c 36 [.L false 3, .l .i64, .l .i64, .s, .s, .s, .n, .n, .c, .n, .n, .n, .n, .c, .n, .n, .n, .n, .b, .b]], [⟨.normal, [1, 2, 5, 7], [(6, .I true .i64)], [.c 36 [.L false 3, .l .i64, .l .i64, .s, .s, .s, .n, .n, .c, .n, .n, .n, .n, .c, .n, .n, .n, .n, .b, .b]], none⟩], none, none⟩
def bF (n : Nat) (x1 : Int) (x5 x6 : List Int) (x7 : Int) (h0_0 : List (List AV)) (h0_1 h0_2 : List Int) (h0_3 h0_4 h0_5 : Str) (h0_6 h0_7 h0_8 h0_9 h0_10 h0_11 h0_12 h0_13 h0_14 h0_15 h0_16 h0_17 : Int) (h0_18 h0_19 : Bool) (R : Type) (A_ : Int → (List Int) → (List Int) → Int → (List (List AV)) → (List Int) → (List Int) → Str → Str → Str → Int → Int → Int → Int → Int → Int → Int → Int → Int → Int → Int → Int → Bool → Bool → Option R) (K : W22 → Option R) : Option R := cond (decide (x7 ≥ (0 : Int))) ((fe n x1 x5 x6 x7 h0_0 h0_1 h0_2 h0_3 h0_4 h0_5 h0_6 h0_7 h0_8 h0_9 h0_10 h0_11 h0_12 h0_13 h0_14 h0_15 h0_16 h0_17 h0_18 h0_19).bind fun o728 => (A_ x1 x5 o728.1 (IntKind.i64.wrap (x7 - (1 : Int))) o728.2.1 o728.2.2.1 o728.2.2.2.1 o728.2.2.2.2.1 o728.2.2.2.2.2.1 o728.2.2.2.2.2.2.1 o728.2.2.2.2.2.2.2.1 o728.2.2.2.2.2.2.2.2.1 o728.2.2.2.2.2.2.2.2.2.1 o728.2.2.2.2.2.2.2.2.2.2.1 o728.2.2.2.2.2.2.2.2.2.2.2.1 o728.2.2.2.2.2.2.2.2.2.2.2.2.1 o728.2.2.2.2.2.2.2.2.2.2.2.2.2.1 o728.2.2.2.2.2.2.2.2.2.2.2.2.2.2.1 o728.2.2.2.2.2.2.2.2.2.2.2.2.2.2.2.1 o728.2.2.2.2.2.2.2.2.2.2.2.2.2.2.2.2.1 o728.2.2.2.2.2.2.2.2.2.2.2.2.2.2.2.2.2.1 o728.2.2.2.2.2.2.2.2.2.2.2.2.2.2.2.2.2.2.1 o728.2.2.2.2.2.2.2.2.2.2.2.2.2.2.2.2.2.2.2.1 o728.2.2.2.2.2.2.2.2.2.2.2.2.2.2.2.2.2.2.2.2)) (K (x6, h0_0, h0_1, h0_2, h0_3, h0_4, h0_5, h0_6, h0_7, h0_8, h0_9, h0_10, h0_11, h0_12, h0_13, h0_14, h0_15, h0_16, h0_17, h0_18, h0_19))
def aR (n : Nat) : Nat → Int → (List Int) → (List Int) → Int → (List (List AV)) → (List Int) → (List Int) → Str → Str → Str → Int → Int → Int → Int → Int → Int → Int → Int → Int → Int → Int → Int → Bool → Bool → Option (W22)
 | 0, _, _, _, _, _, _, _, _, _, _, _, _, _, _, _, _, _, _, _, _, _, _, _, _ => none
 | m + 1, x1, x5, x6, x7, h0_0, h0_1, h0_2, h0_3, h0_4, h0_5, h0_6, h0_7, h0_8, h0_9, h0_10, h0_11, h0_12, h0_13, h0_14, h0_15, h0_16, h0_17, h0_18, h0_19 => bF n x1 x5 x6 x7 h0_0 h0_1 h0_2 h0_3 h0_4 h0_5 h0_6 h0_7 h0_8 h0_9 h0_10 h0_11 h0_12 h0_13 h0_14 h0_15 h0_16 h0_17 h0_18 h0_19 _ (aR n m) some
def lu : PS := ⟨[], [(1, .n), (2, .q 0 0), (5, .I true .i64), (6, .I true .i64), (7, .n)], some [.c 36 [.L false 3, .l .i64, .l .i64, .s, .s, .s, .n, .n, .c, .n, .n, .n, .n, .c, .n, .n, .n, .n, .b, .b]], [⟨(.exit 0), [], [(6, .I true .i64)], [.c 36 [.L false 3, .l .i64, .l .i64, .s, .s, .s, .n, .n, .c, .n, .n, .n, .n, .c, .n, .n, .n, .n, .b, .b]], none⟩], none, none⟩
theorem ze (n : Nat) : Snd ⟨Tryz.prog, 0, 43⟩ (lm.x (iI n)) (fb Tryz.f23 5271) := jC (S := lm) (b := dJ n) (.r [(9, .cl 19 (wF n))]) (abF (dJ n) (by intros; unfold dJ; simp only [ax])) (ai (BV n) trivial)
theorem zf (n : Nat) : Snd ⟨Tryz.prog, 0, 43⟩ (lq.x (fe n)) (fb Tryz.f23 663) := jC (S := lq) (b := dK n) (.u (.s .a (.s (.p (lm.x (iI n))) (.s (.r [(0, .tk [6]), (3, .tk [38]), (4, .tk [41])]) .a)))) (aca (dK n) (by intros; unfold dK; simp only [ax])) (ai (ze n) trivial)
theorem zg (n : Nat) : Snd ⟨Tryz.prog, 0, 43⟩ (lu.x (aR n n)) (fb Tryz.f23 87) := lC (S := lu) (b := bF n) (f := aR n) n (.s .a (.s (.p (lq.x (fe n))) .a)) (acs (bF n) (by intros; unfold bF; simp only [ax])) (ai (zf n) trivial)
def fM (n : Nat) (a0 : List (List AV)) (a1 a2 : List Int) (a3 a4 a5 : Str) (a6 a7 a8 a9 a10 a11 a12 a13 a14 a15 a16 a17 : Int) (a18 a19 : Bool) (a20 : Int) (R : Type) (K : (List Int) → Option R) : Option R := (bJ n a0 a1 a2 a3 a4 a5 a6 a7 a8 a9 a10 a11 a12 a13 a14 a15 a16 a17 a18 a19).bind fun o724 => ((aR n n a20 o724 ([] : List Int) (IntKind.i64.wrap ((o724.length : Int) - (1 : Int))) a0 a1 a2 a3 a4 a5 a6 a7 a8 a9 a10 a11 a12 a13 a14 a15 a16 a17 a18 a19).bind fun o729 => (K o729.1))
def dh n a0 a1 a2 a3 a4 a5 a6 a7 a8 a9 a10 a11 a12 a13 a14 a15 a16 a17 a18 a19 a20 := fM n a0 a1 a2 a3 a4 a5 a6 a7 a8 a9 a10 a11 a12 a13 a14 a15 a16 a17 a18 a19 a20 _ some
def uW : FS := ⟨[.a [.L false 3, .l .i64, .l .i64, .s, .s, .s, .n, .n, .c, .n, .n, .n, .n, .c, .n, .n, .n, .n, .b, .b], .n], [], [([.I true .i64], [])]⟩
def uq (n : Nat) : FSpec := uW.sp (dh n)
theorem zN (n : Nat) : FSound Tryz.prog 23 (uq n) := fs2 (S := uW) (b := fM n) Tryz.func23 rfl rfl [.tmp 4] (.s .a (.s (.r [(1, .cl 16 (uT n)), (2, .tk [10])]) (.s .a (.s (.s .a (.u (.p (lu.x (aR n n))))) (.s (.r [(0, .tk [6]), (1, .tk [42])]) .a))))) (Zx (fM n) (by intros; unfold fM; simp only [ax])) (ai (Av n) (ai (zg n) trivial))
def ic (n : Nat) (x0 x1 : List Int) (x5 : Int) (R : Type) (A_ : (List Int) → (List Int) → Int → Option R) (K : ((Unit) ⊕ (Unit)) → Option R) : Option R := cond (decide (x5 < (x0.length : Int))) (cond (decide (0 ≤ x5)) ((x0[x5.toNat]?).bind fun e731 => (cond (decide (0 ≤ x5)) ((x1[x5.toNat]?).bind fun e732 => (cond (e731 != e732) (K (Sum.inl ())) (A_ x0 x1 (IntKind.i64.wrap (x5 + (1 : Int)))))) none)) none) (K (Sum.inr ()))
def cu (n : Nat) : Nat → (List Int) → (List Int) → Int → Option ((Unit) ⊕ (Unit))
 | 0, _, _, _ => none
 | m + 1, x0, x1, x5 => ic n x0 x1 x5 _ (cu n m) some
def uj : PS := ⟨[], [(0, .l .i64), (1, .l .i64), (5, .n)], some [], [⟨.ret, [], [(4, .x (.bool false))], [], none⟩, ⟨(.exit 0), [], [], [], none⟩], none, none⟩
theorem Gn (n : Nat) : Snd ⟨Tryz.prog, 0, 26⟩ (uj.x (cu n n)) (fb Tryz.f22 43) := lC (S := uj) (b := ic n) (f := cu n) n (.s .a (.s (.u (.s (.d [] [(3, .no), (7, .no)]) .a)) .a)) (nl3 (ic n) (by intros; unfold ic; simp only [ax])) trivial
def nN (n : Nat) (a0 a1 : List Int) (R : Type) (K : Bool → Option R) : Option R := cond ((a0.length : Int) != (a1.length : Int)) (K false) ((cu n n a0 a1 (0 : Int)).bind fun o733 => (Sum.elim (fun o734 => K false) (fun o735 => K true) o733))
def jJ n a0 a1 := nN n a0 a1 _ some
def Co : FS := ⟨[.l .i64, .l .i64], [], [([.b], [])]⟩
def BS (n : Nat) : FSpec := Co.sp (jJ n)
theorem GA (n : Nat) : FSound Tryz.prog 22 (BS n) := fs2 (S := Co) (b := nN n) Tryz.func22 rfl rfl [.tmp 4] (.s .a (.s .a (.s (.s .a (.u (.p (uj.x (cu n n))))) .a))) (nt2 (nN n) (by intros; unfold nN; simp only [ax])) (ai (Gn n) trivial)
def ek (n : Nat) (x10 : List Int) (x11 x13 : Int) (R : Type) (K : (Bool) → Option R) : Option R := cond (x11 == x13) (cond ((x10.length : Int) == (0 : Int)) ((aS n ).bind fun o722 => (K o722)) (K false)) (K false)
def bA n x10 x11 x13 := ek n x10 x11 x13 _ some
def mP : PS := ⟨[], [(10, .l .i64), (11, .n), (13, .n)], none, [⟨.normal, [], [(6, .b)], [], none⟩], none, none⟩
theorem zO (n : Nat) : Snd ⟨Tryz.prog, 0, 60⟩ (mP.x (bA n)) (fb Tryz.f4 607) := jC (S := mP) (b := ek n) (.r [(9, .cl 10 (pF n))]) (nt3 (ek n) (by intros; unfold ek; simp only [ax])) (ai (qH n) trivial)
def gu (n : Nat) (a0 : List (List AV)) (a1 a2 : List Int) (a3 : Str) (a4 : Bool) (a5 a6 a7 a8 a9 a10 a11 : Int) (R : Type) (K : Bool → Option R) : Option R := (ik n a0 a1 a2 a3 a4).bind fun o716 => (Sum.elim (fun o717 => cond (!o717.2.2.2.2.2.2.2.2.2.2.2.2.2.2.2.2.2.2.2.2) ((aS n ).bind fun o719 => (K o719)) ((fV n a5 a6 a7 a8 a9 a10 a11).bind fun o720 => ((cK n a5 a6 a7 a8 a9 a10 a11).bind fun o721 => (cond (o721.2 != (0 : Int)) ((bA n o720.1 o720.2 o721.2).bind fun o723 => (K o723)) (cond (o720.2 == (0 : Int)) ((dh n o717.1 o717.2.1 o717.2.2.1 o717.2.2.2.1 o717.2.2.2.2.1 o717.2.2.2.2.2.1 o717.2.2.2.2.2.2.1 o717.2.2.2.2.2.2.2.1 o717.2.2.2.2.2.2.2.2.1 o717.2.2.2.2.2.2.2.2.2.1 o717.2.2.2.2.2.2.2.2.2.2.1 o717.2.2.2.2.2.2.2.2.2.2.2.1 o717.2.2.2.2.2.2.2.2.2.2.2.2.1 o717.2.2.2.2.2.2.2.2.2.2.2.2.2.1 o717.2.2.2.2.2.2.2.2.2.2.2.2.2.2.1 o717.2.2.2.2.2.2.2.2.2.2.2.2.2.2.2.1 o717.2.2.2.2.2.2.2.2.2.2.2.2.2.2.2.2.1 o717.2.2.2.2.2.2.2.2.2.2.2.2.2.2.2.2.2.1 o717.2.2.2.2.2.2.2.2.2.2.2.2.2.2.2.2.2.2.1 o717.2.2.2.2.2.2.2.2.2.2.2.2.2.2.2.2.2.2.2.1 o721.1).bind fun o730 => ((jJ n o720.1 o730).bind fun o736 => (cond o736 ((aS n ).bind fun o737 => (K o737)) (K false)))) (K false)))))) (fun o718 => Sum.elim (fun o738 => cond (!o738.2.2.2.2.2.2.2.2.2.2.2.2.2.2.2.2.2.2.2.1) ((aS n ).bind fun o740 => (K o740)) ((dX n a5 a6 a7 a8 a9 a10 a11 o738.2.2.2.2.2.2.2.2.2.2.2.2.2.2.2.2.2.2.2.2.1 o738.2.2.2.2.2.2.2.2.2.2.2.2.2.2.2.2.2.2.2.2.2.1 o738.2.2.2.2.2.2.2.2.2.2.2.2.2.2.2.2.2.2.2.2.2.2.1 o738.2.2.2.2.2.2.2.2.2.2.2.2.2.2.2.2.2.2.2.2.2.2.2.1 o738.2.2.2.2.2.2.2.2.2.2.2.2.2.2.2.2.2.2.2.2.2.2.2.2.1 o738.2.2.2.2.2.2.2.2.2.2.2.2.2.2.2.2.2.2.2.2.2.2.2.2.2.1 o738.2.2.2.2.2.2.2.2.2.2.2.2.2.2.2.2.2.2.2.2.2.2.2.2.2.2.1 o738.2.2.2.2.2.2.2.2.2.2.2.2.2.2.2.2.2.2.2.2.2.2.2.2.2.2.2.1 o738.2.2.2.2.2.2.2.2.2.2.2.2.2.2.2.2.2.2.2.2.2.2.2.2.2.2.2.2.1 o738.2.2.2.2.2.2.2.2.2.2.2.2.2.2.2.2.2.2.2.2.2.2.2.2.2.2.2.2.2.1 o738.2.2.2.2.2.2.2.2.2.2.2.2.2.2.2.2.2.2.2.2.2.2.2.2.2.2.2.2.2.2.1 o738.2.2.2.2.2.2.2.2.2.2.2.2.2.2.2.2.2.2.2.2.2.2.2.2.2.2.2.2.2.2.2.1 o738.2.2.2.2.2.2.2.2.2.2.2.2.2.2.2.2.2.2.2.2.2.2.2.2.2.2.2.2.2.2.2.2.1 o738.2.2.2.2.2.2.2.2.2.2.2.2.2.2.2.2.2.2.2.2.2.2.2.2.2.2.2.2.2.2.2.2.2.1 o738.2.2.2.2.2.2.2.2.2.2.2.2.2.2.2.2.2.2.2.2.2.2.2.2.2.2.2.2.2.2.2.2.2.2.1 o738.2.2.2.2.2.2.2.2.2.2.2.2.2.2.2.2.2.2.2.2.2.2.2.2.2.2.2.2.2.2.2.2.2.2.2.1 o738.2.2.2.2.2.2.2.2.2.2.2.2.2.2.2.2.2.2.2.2.2.2.2.2.2.2.2.2.2.2.2.2.2.2.2.2.1 o738.2.2.2.2.2.2.2.2.2.2.2.2.2.2.2.2.2.2.2.2.2.2.2.2.2.2.2.2.2.2.2.2.2.2.2.2.2).bind fun o741 => ((cK n a5 a6 a7 a8 a9 a10 a11).bind fun o742 => (cond (o742.2 != (0 : Int)) ((bA n o741.1 o741.2.1 o742.2).bind fun o743 => (K o743)) (cond (o741.2.1 == (0 : Int)) ((dh n o738.1 o738.2.1 o738.2.2.1 o738.2.2.2.1 o738.2.2.2.2.1 o738.2.2.2.2.2.1 o738.2.2.2.2.2.2.1 o738.2.2.2.2.2.2.2.1 o738.2.2.2.2.2.2.2.2.1 o738.2.2.2.2.2.2.2.2.2.1 o738.2.2.2.2.2.2.2.2.2.2.1 o738.2.2.2.2.2.2.2.2.2.2.2.1 o738.2.2.2.2.2.2.2.2.2.2.2.2.1 o738.2.2.2.2.2.2.2.2.2.2.2.2.2.1 o738.2.2.2.2.2.2.2.2.2.2.2.2.2.2.1 o738.2.2.2.2.2.2.2.2.2.2.2.2.2.2.2.1 o738.2.2.2.2.2.2.2.2.2.2.2.2.2.2.2.2.1 o738.2.2.2.2.2.2.2.2.2.2.2.2.2.2.2.2.2.1 o738.2.2.2.2.2.2.2.2.2.2.2.2.2.2.2.2.2.2.1 false o742.1).bind fun o744 => ((jJ n o741.1 o744).bind fun o745 => (cond o745 ((aS n ).bind fun o746 => (K o746)) (K false)))) (K false)))))) (fun o739 => cond (!o739.2.2.2.2.2.2.2.2.2.2.2.2.2.2.2.2.2.2.2.1) ((aS n ).bind fun o747 => (K o747)) ((dZ n a5 a6 a7 a8 a9 a10 a11 o739.2.2.2.2.2.2.2.2.2.2.2.2.2.2.2.2.2.2.2.2.1 o739.2.2.2.2.2.2.2.2.2.2.2.2.2.2.2.2.2.2.2.2.2.1 o739.2.2.2.2.2.2.2.2.2.2.2.2.2.2.2.2.2.2.2.2.2.2.1 o739.2.2.2.2.2.2.2.2.2.2.2.2.2.2.2.2.2.2.2.2.2.2.2).bind fun o748 => ((cK n a5 a6 a7 a8 a9 a10 a11).bind fun o749 => (cond (o749.2 != (0 : Int)) ((bA n o748.1 o748.2.1 o749.2).bind fun o750 => (K o750)) (cond (o748.2.1 == (0 : Int)) ((dh n o739.1 o739.2.1 o739.2.2.1 o739.2.2.2.1 o739.2.2.2.2.1 o739.2.2.2.2.2.1 o739.2.2.2.2.2.2.1 o739.2.2.2.2.2.2.2.1 o739.2.2.2.2.2.2.2.2.1 o739.2.2.2.2.2.2.2.2.2.1 o739.2.2.2.2.2.2.2.2.2.2.1 o739.2.2.2.2.2.2.2.2.2.2.2.1 o739.2.2.2.2.2.2.2.2.2.2.2.2.1 o739.2.2.2.2.2.2.2.2.2.2.2.2.2.1 o739.2.2.2.2.2.2.2.2.2.2.2.2.2.2.1 o739.2.2.2.2.2.2.2.2.2.2.2.2.2.2.2.1 o739.2.2.2.2.2.2.2.2.2.2.2.2.2.2.2.2.1 o739.2.2.2.2.2.2.2.2.2.2.2.2.2.2.2.2.2.1 o739.2.2.2.2.2.2.2.2.2.2.2.2.2.2.2.2.2.2.1 false o749.1).bind fun o751 => ((jJ n o748.1 o751).bind fun o752 => (cond o752 ((aS n ).bind fun o753 => (K o753)) (K false)))) (K false)))))) o718) o716)
def gy n a0 a1 a2 a3 a4 a5 a6 a7 a8 a9 a10 a11 := gu n a0 a1 a2 a3 a4 a5 a6 a7 a8 a9 a10 a11 _ some
def vv : FS := ⟨[.a [.L false 3, .l .i64, .l .i64, .s], .b, .a [.n, .n, .n, .n, .n, .n, .n]], [], [([.b], [])]⟩
def CQ (n : Nat) : FSpec := vv.sp (gy n)
theorem Aw (n : Nat) : FSound Tryz.prog 4 (CQ n) := fs2 (S := vv) (b := gu n) Tryz.func4 rfl rfl [.tmp 6] (.s .a (.s (.r [(2, .cl 9 (BN n)), (6, .tk [14])]) (.s (.s .a (.s (.s (.r [(0, .cl 10 (pF n))]) .a) .a)) (.s (.r [(2, .cl 20 (l8 n)), (3, .tk [27]), (5, .tk [24])]) (.s (.r [(1, .cl 21 (xH n)), (4, .tk [30])]) (.s (.s .a (.s (.s (.p (mP.x (bA n))) .a) .a)) (.s (.r [(6, .cl 23 (uq n)), (7, .cl 22 (BS n)), (10, .cl 10 (pF n))]) .a))))))) (ab7 (gu n) (by intros; unfold gu; simp only [ax])) (ai (Gz n) (ai (qH n) (ai (oP n) (ai (wW n) (ai (zO n) (ai (zN n) (ai (GA n) (ai (qH n) trivial))))))))
end Go.Proofs.YtiegmpnagcdgoaaGreatDoor.H
namespace Go.Proofs.YtiegmpnagcdgoaaGreatDoor.H
open Go.Sh Go.RowKit
set_option linter.unusedSimpArgs false
set_option linter.unusedVariables false
section
variable (n loc : Int) (f : Int → Int) (p0 : List (List AV)) (p1 p2 : List Int) (p3 p4 p5 : Str) (p6 p7 p8 p9 p10 p11 p12 p13 p14 p15 p16 p17 : Int) (p18 p19 : Bool)
theorem Z4 (n : Nat) (L acc : List Int) (k : Nat) (v : Int) (hk : L[k]? = some v) (hv : -93599 ≤ v ∧ v ≤ 93599) (hl : -1000000000000000000 ≤ loc ∧ loc ≤ 1000000000000000000) (ha : acc.length ≤ 5000)
 (hloc : ∀ t, -10000000000000000 ≤ t ∧ t ≤ 100000000000000000 → aI n p0 p1 p2 p3 p4 p5 p6 p7 p8 p9 p10 p11 p12 p13 p14 p15 p16 p17 p18 p19 t = some (t + f (t / 1000000) * 1000000)) :
 fe n loc L acc k p0 p1 p2 p3 p4 p5 p6 p7 p8 p9 p10 p11 p12 p13 p14 p15 p16 p17 p18 p19 = some (qW f loc acc v, p0, p1, p2, p3, p4, p5, p6, p7, p8, p9, p10, p11, p12, p13, p14, p15, p16, p17, p18, p19) := by
 unfold fe dK iI dJ qW
 rw [aa (by omega), Int.toNat_natCast, hk]
 simp only [Option.bind_some]
 rw [wi (v * 1000000) (by omega) (by omega), wi (loc - v * 1000000) (by omega) (by omega)]
 by_cases c1 : loc - v * 1000000 ≥ -10000000000000000
 ·rw [aa c1]
  by_cases c2 : loc - v * 1000000 ≤ 100000000000000000
  ·rw [aa c2, hloc _ ⟨c1, c2⟩]
   simp only [Option.bind_some]
   by_cases c3 : f ((loc - v * 1000000) / 1000000) = v
   ·rw [show (loc - v * 1000000 + f ((loc - v * 1000000) / 1000000) * 1000000 == loc) = true by rw [beq_iff_eq, c3]; omega, cond_true, aa (by simp only [List.length_cons, List.length_nil]; omega), if_pos ⟨c1, c2, c3⟩]
   ·rw [show (loc - v * 1000000 + f ((loc - v * 1000000) / 1000000) * 1000000 == loc) = false by rw [beq_eq_false_iff_ne]; omega, cond_false, if_neg (fun h => c3 h.2.2)]
  ·rw [ah c2, if_neg (fun h => c2 h.2.1)]
   simp only [Option.bind_some, cond_false]
 ·rw [ah c1, if_neg (fun h => c1 h.1)]
  simp only [Option.bind_some, cond_false]
theorem UR (n : Nat) (L : List Int) (hv : ∀ v ∈ L, -93599 ≤ v ∧ v ≤ 93599) (hL : L.length ≤ 2000) (hl : -1000000000000000000 ≤ loc ∧ loc ≤ 1000000000000000000)
 (hloc : ∀ t, -10000000000000000 ≤ t ∧ t ≤ 100000000000000000 → aI n p0 p1 p2 p3 p4 p5 p6 p7 p8 p9 p10 p11 p12 p13 p14 p15 p16 p17 p18 p19 t = some (t + f (t / 1000000) * 1000000)) : ∀ (k m : Nat) (acc : List Int), k ≤ L.length → k < m → acc.length + k ≤ 4000 →
 aR n m loc L acc ((k : Int) - 1) p0 p1 p2 p3 p4 p5 p6 p7 p8 p9 p10 p11 p12 p13 p14 p15 p16 p17 p18 p19 = some ((L.take k).reverse.foldl (qW f loc) acc, p0, p1, p2, p3, p4, p5, p6, p7, p8, p9, p10, p11, p12, p13, p14, p15, p16, p17, p18, p19)
 | 0, m + 1, acc, _, _, _ => by
  simp only [aR, bF]
  rw [ah (by omega)]
  simp
 | k + 1, m + 1, acc, hk, hm, ha => by
  have hk2 : k < L.length := by omega
  simp only [aR, bF]
  rw [aa (by omega), show (((k + 1 : Nat) : Int) - 1) = (k : Int) by omega, Z4 loc f p0 p1 p2 p3 p4 p5 p6 p7 p8 p9 p10 p11 p12 p13 p14 p15 p16 p17 p18 p19 n L acc k L[k] (List.getElem?_eq_getElem hk2) (hv _ (List.getElem_mem hk2)) hl (by omega) hloc]
  simp only [Option.bind_some]
  rw [wi _ (by omega) (by omega)]
  have := KA f loc acc L[k]
  rw [UR n L hv hL hl hloc k m _ (by omega) (by omega) (by omega), List.take_succ_eq_append_getElem hk2, List.reverse_append]
  rfl
theorem Od (n : Nat) (hn : 20000 < n) (L : List Int) (hv : ∀ v ∈ L, -93599 ≤ v ∧ v ≤ 93599) (hL : L.length ≤ 2000) (hl : -1000000000000000000 ≤ loc ∧ loc ≤ 1000000000000000000)
 (hoff : bJ n p0 p1 p2 p3 p4 p5 p6 p7 p8 p9 p10 p11 p12 p13 p14 p15 p16 p17 p18 p19 = some L)
 (hloc : ∀ t, -10000000000000000 ≤ t ∧ t ≤ 100000000000000000 → aI n p0 p1 p2 p3 p4 p5 p6 p7 p8 p9 p10 p11 p12 p13 p14 p15 p16 p17 p18 p19 t = some (t + f (t / 1000000) * 1000000)) :
 dh n p0 p1 p2 p3 p4 p5 p6 p7 p8 p9 p10 p11 p12 p13 p14 p15 p16 p17 p18 p19 loc = some (L.reverse.foldl (qW f loc) []) := by
 unfold dh fM
 rw [hoff]
 simp only [Option.bind_some]
 rw [wi _ (by omega) (by omega), UR loc f p0 p1 p2 p3 p4 p5 p6 p7 p8 p9 p10 p11 p12 p13 p14 p15 p16 p17 p18 p19 n L hv hL hl hloc L.length n [] (Nat.le_refl _) (by omega) (by simp only [List.length_nil]; omega)]
 simp only [Option.bind_some, List.take_length]
end
theorem acg (n : Nat) (hn : 20000 < n) (ts : List Z.Ty) (ti ix : List Int) (foot : Str) (r : RuleV) (hR : Z.RightS ts ti ix foot = true) (hr : gL r = true) (u : Int) (hu : -1000000000000000000 ≤ u ∧ u ≤ 1000000000000000000) :
 aI n (ts.map Z.cT) ti ix foot r.std r.dst r.off r.doff r.a.k r.a.m r.a.w r.a.d r.a.t r.b.k r.b.m r.b.w r.b.d r.b.t true false u = some (u + zb n ts ti ix foot r (u / 1000000) * 1000000) := by
 obtain ⟨l1, l2⟩ := G7 hr
 obtain ⟨d, e1, e2⟩ := Nv n hn ts ti ix foot r hR l1 l2 (u / 1000000)
 have hd := aaZ n hn ts ti ix foot r hR hr (u / 1000000) e2
 unfold aI bZ zb
 rw [Ml n u (by omega)]
 simp only [Option.bind_some]
 rw [e2]
 simp only [Option.bind_some, Option.getD_some]
 rw [wi (d * 1000000) (by omega) (by omega), wi (u + d * 1000000) (by omega) (by omega)]
theorem ach (n : Nat) (hn : 20000 < n) (ts : List Z.Ty) (ti ix : List Int) (foot : Str) (hR : Z.RightS ts ti ix foot = true) (u : Int) (hu : -1000000000000000000 ≤ u ∧ u ≤ 1000000000000000000) :
 aI n (ts.map Z.cT) ti ix foot [] [] 0 0 0 0 0 0 0 0 0 0 0 0 false false u = some (u + IM n ts ti ix foot (u / 1000000) * 1000000) := by
 obtain ⟨d, e1, e2⟩ := Nw n hn ts ti ix foot [] [] 0 0 0 0 0 0 0 0 0 0 0 0 hR (u / 1000000)
 have hd := aa0 n hn ts ti ix foot _ _ _ _ _ _ _ _ _ _ _ _ _ _ hR (u / 1000000) e2
 unfold aI bZ IM
 rw [Ml n u (by omega)]
 simp only [Option.bind_some]
 rw [e2]
 simp only [Option.bind_some, Option.getD_some]
 rw [wi (d * 1000000) (by omega) (by omega), wi (u + d * 1000000) (by omega) (by omega)]
theorem aci (n : Nat) (u : Int) (hu : -1000000000000000000 ≤ u ∧ u ≤ 1000000000000000000) :
 aI n [] [] [] [] [] [] 0 0 0 0 0 0 0 0 0 0 0 0 false true u = some (u + (fun _ => 0) (u / 1000000) * 1000000) := by
 unfold aI bZ
 rw [Ml n u (by omega)]
 simp only [Option.bind_some]
 rw [show aA n [] [] [] [] [] [] 0 0 0 0 0 0 0 0 0 0 0 0 false true (u / 1000000) = some 0 from by kernel_rfl]
 simp only [Option.bind_some]
 rw [wi (0 * 1000000) (by omega) (by omega), wi (u + 0 * 1000000) (by omega) (by omega)]
end Go.Proofs.YtiegmpnagcdgoaaGreatDoor.H
namespace Go.Proofs.YtiegmpnagcdgoaaGreatDoor.H
open Go.Sh Go.RowKit
set_option linter.unusedSimpArgs false
set_option linter.unusedVariables false
def foot0 : Str := [67, 69, 84, 45, 49, 67, 69, 83, 84, 44, 77, 51, 46, 53, 46, 48, 44, 77, 49, 48, 46, 53, 46, 48, 47, 51]
def rule0 : RuleV := ⟨[67, 69, 84], [67, 69, 83, 84], 3600, 7200, ⟨3, 3, 5, 0, 7200⟩, ⟨3, 10, 5, 0, 10800⟩⟩
def ts0 : List Z.Ty := [(0, false, [88])]
theorem Z5 : JD foot0 = some rule0 := by kernel_rfl
theorem VO : Z.RightS ts0 [] [] foot0 = true := by decide +kernel
theorem S9 : gL rule0 = true := by decide +kernel
theorem acA (n : Nat) : BD n 0 = some (1970, 1, 1, 0, 0, 0, 0, 0) := by kernel_rfl
theorem acB (n : Nat) : cK n 2026 3 29 2 30 0 0 = some (1774751400000000, 0) := by kernel_rfl
theorem acC (n : Nat) : cK n 2026 10 25 2 30 0 0 = some (1792895400000000, 0) := by kernel_rfl
theorem X9 (n : Nat) (hn : 20000 < n) (sec v : Int) (hy : InYear 2026 ((jY (jY sec) + rule0.off) / 86400)) (hv : (Mh rule0 (jY (jY sec)) 2026).1 = v) : zb n ts0 [] [] foot0 rule0 sec = v := by
 unfold zb aA aT
 rw [cond_false, show ((([] : List Int).length : Int)) = ((([] : List Int).length : Nat) : Int) from rfl, N9 n _ _ [] _ _ _ _ _ _ _ _ _ _ _ _ _ _ _ _ _ (by simp)]
 simp only [Option.bind_some]
 rw [show ∀ t, Qx [] t = true from fun _ => rfl, cond_true]
 obtain ⟨y, h1, h2, h3, h4⟩ := rat_val n rule0 (jY sec) hn S9 (by decide)
 have : y = 2026 := h1.one (by omega) (by omega) hy
 subst this
 have h5 : dE n rule0.std rule0.dst rule0.off rule0.doff rule0.a.k rule0.a.m rule0.a.w rule0.a.d rule0.a.t rule0.b.k rule0.b.m rule0.b.w rule0.b.d rule0.b.t (if (-10000000000 : Int) < (if sec < (100000000000 : Int) then sec else (100000000000 : Int)) then (if sec < (100000000000 : Int) then sec else (100000000000 : Int)) else (-10000000000 : Int)) = some (Mh rule0 (jY (jY sec)) 2026) := h4
 rw [h5]
 exact hv
theorem acj : uV [] (rW ts0 (some rule0)) = [0, 3600, 7200] := by decide +kernel
theorem Ya (n : Nat) (hn : 20000 < n) : aS n = some true := by
 unfold aS l9
 rw [acA]
 simp only [Option.bind_some]
 have hnew := WJ n (by omega) ts0 [] [] foot0
 rw [if_pos VO, if_neg (by decide), Z5] at hnew
 have h1 := Oc n hn ts0 [] [] foot0 rule0 VO S9 2026 3 29 2 30 0 0 _ (acB n) (by omega)
 have h2 := Oc n hn ts0 [] [] foot0 rule0 VO S9 2026 10 25 2 30 0 0 _ (acC n) (by omega)
 rw [acj, show [(0 : Int), 3600, 7200].reverse = [7200, 3600, 0] from rfl] at h1 h2
 simp only [List.foldl_cons, List.foldl_nil] at h1 h2
 have a1 : qW (zb n ts0 [] [] foot0 rule0) 1774751400000000 [] 7200 = [] := by
  unfold qW
  rw [show ((1774751400000000 : Int) - 7200 * 1000000) / 1000000 = 1774744200 from by decide, X9 n hn 1774744200 3600 (by unfold InYear; decide +kernel) (by decide +kernel)]
  decide
 have a2 : qW (zb n ts0 [] [] foot0 rule0) 1774751400000000 [] 3600 = [] := by
  unfold qW
  rw [show ((1774751400000000 : Int) - 3600 * 1000000) / 1000000 = 1774747800 from by decide, X9 n hn 1774747800 7200 (by unfold InYear; decide +kernel) (by decide +kernel)]
  decide
 have a3 : qW (zb n ts0 [] [] foot0 rule0) 1774751400000000 [] 0 = [] := by
  unfold qW
  rw [show ((1774751400000000 : Int) - 0 * 1000000) / 1000000 = 1774751400 from by decide, X9 n hn 1774751400 7200 (by unfold InYear; decide +kernel) (by decide +kernel)]
  decide
 have b1 : qW (zb n ts0 [] [] foot0 rule0) 1792895400000000 [] 7200 = [1792888200000000] := by
  unfold qW
  rw [show ((1792895400000000 : Int) - 7200 * 1000000) / 1000000 = 1792888200 from by decide, X9 n hn 1792888200 7200 (by unfold InYear; decide +kernel) (by decide +kernel)]
  decide
 have b2 : qW (zb n ts0 [] [] foot0 rule0) 1792895400000000 [1792888200000000] 3600 = [1792888200000000, 1792891800000000] := by
  unfold qW
  rw [show ((1792895400000000 : Int) - 3600 * 1000000) / 1000000 = 1792891800 from by decide, X9 n hn 1792891800 3600 (by unfold InYear; decide +kernel) (by decide +kernel)]
  decide
 have b3 : qW (zb n ts0 [] [] foot0 rule0) 1792895400000000 [1792888200000000, 1792891800000000] 0 = [1792888200000000, 1792891800000000] := by
  unfold qW
  rw [show ((1792895400000000 : Int) - 0 * 1000000) / 1000000 = 1792895400 from by decide, X9 n hn 1792895400 3600 (by unfold InYear; decide +kernel) (by decide +kernel)]
  decide
 rw [a1, a2, a3] at h1
 rw [b1, b2, b3] at h2
 have hn2 : CB n ([[.int .i64 (0 : Int), .bool false, .str ([88] : Str)]] : List (List AV)) ([] : List Int) ([] : List Int) foot0 = _ := hnew
 have hf : ([67, 69, 84, 45, 49, 67, 69, 83, 84, 44, 77, 51, 46, 53, 46, 48, 44, 77, 49, 48, 46, 53, 46, 48, 47, 51] : Str) = foot0 := rfl
 rw [hf, hn2]
 simp only [Option.bind_some, Sum.elim_inr, Sum.elim_inl]
 rw [h1]
 simp only [Option.bind_some]
 rw [h2]
 rfl
end Go.Proofs.YtiegmpnagcdgoaaGreatDoor.H
namespace Go.Proofs.YtiegmpnagcdgoaaGreatDoor.H
open Go.Sh Go.RowKit
set_option linter.unusedSimpArgs false
set_option linter.unusedVariables false
theorem Ta (n : Nat) (y m d : Int) : ∃ b, tX n y m d = some b ∧ (b = true → (1 ≤ y ∧ y ≤ 9999) ∧ (1 ≤ m ∧ m ≤ 12) ∧ 1 ≤ d ∧ d ≤ 31) := by
 unfold tX wK
 by_cases h1 : d ≥ 1
 ·rw [aa h1]
  by_cases h2 : (1 ≤ y ∧ y ≤ 9999) ∧ (1 ≤ m ∧ m ≤ 12)
  ·rw [Nr n y m h2.1 h2.2]
   have := Gm y m
   exact ⟨_, rfl, fun h => ⟨h2.1, h2.2, h1, by have := of_decide_eq_true h; omega⟩⟩
  ·have : sJ n y m = some 0 := by
    unfold sJ yf
    have : tV n y m = some true := by
     rw [tV, si]
     by_cases c1 : y < 1
     ·rw [aa c1]
     rw [ah c1]
     by_cases c2 : y > 9999
     ·rw [aa c2]
     rw [ah c2]
     by_cases c3 : m < 1
     ·rw [aa c3]
     rw [ah c3, decide_eq_true (by omega)]
    rw [this]
    rfl
   rw [this]
   exact ⟨_, rfl, fun h => by have := of_decide_eq_true h; omega⟩
 ·rw [ah h1]
  exact ⟨_, rfl, fun h => by cases h⟩
theorem Yb (y m d : Int) (hy : 1 ≤ y ∧ y ≤ 9999) (hm : 1 ≤ m ∧ m ≤ 12) (hd : 1 ≤ d ∧ d ≤ 31) : -800000 ≤ pG y m d ∧ pG y m d ≤ 3000100 := by
 have h1 := DF y m hy hm
 have h2 : pG y m d = pG y m 1 + d - 1 := by unfold pG; omega
 omega
theorem Tc (n : Nat) (a0 a1 a2 a3 a4 a5 a6 : Int) : ∃ x e, cK n a0 a1 a2 a3 a4 a5 a6 = some (x, e) ∧ (e = 0 → -1000000000000000000 ≤ x ∧ x ≤ 1000000000000000000) := by
 obtain ⟨b, h1, h2⟩ := Ta n a0 a1 a2
 unfold cK yX vH yg
 rw [h1]
 cases b with
 | false => exact ⟨_, _, rfl, fun h => by cases h⟩
 | true =>
  obtain ⟨hy, hm, hd⟩ := h2 rfl
  have hb := Yb a0 a1 a2 hy hm hd
  simp only [Option.bind_some, Bool.not_true, cond_false]
  rw [Kv n a0 a1 a2 hy hm hd]
  simp only [Option.bind_some]
  rw [BG, uM, show ((0 : Int) != 0) = false from rfl, cond_false]
  by_cases c1 : G8 false a3 [a4, a5, a6] < 0
  ·rw [aa c1]; exact ⟨_, _, rfl, fun h => by cases h⟩
  rw [ah c1]
  by_cases c2 : a3 > 23
  ·rw [aa c2]; exact ⟨_, _, rfl, fun h => by cases h⟩
  rw [ah c2]
  by_cases c3 : (if a4 < a5 then a5 else a4) > 59
  ·rw [aa c3]; exact ⟨_, _, rfl, fun h => by cases h⟩
  rw [ah c3]
  by_cases c4 : a6 ≥ 1000000
  ·rw [decide_eq_true c4]; exact ⟨_, _, rfl, fun h => by cases h⟩
  rw [decide_eq_false c4]
  have g : 0 ≤ a3 ∧ 0 ≤ a4 ∧ 0 ≤ a5 ∧ 0 ≤ a6 := by
   simp only [G8] at c1
   split at c1 <;> split at c1 <;> split at c1 <;> omega
  have g2 : a4 ≤ 59 ∧ a5 ≤ 59 := by split at c3 <;> omega
  refine ⟨_, _, rfl, fun _ => ?_⟩
  simp (disch := omega) only [wi]
  omega
theorem UT (n : Nat) (l : List Int) (hl : l.length ≤ 2000) : ∀ (q : List Int) (i m : Nat), l.drop i = q → q.length < m → cu n m l l (i : Int) = some (Sum.inr ())
 | [], i, m + 1, hq, _ => by
  have : l.length ≤ i := List.drop_eq_nil_iff.1 hq
  simp only [cu, ic]
  rw [ah (by omega)]
 | x :: q, i, m + 1, hq, hm => by
  have hi : i < l.length := by
   rcases Nat.lt_or_ge i l.length with h | h
   ·exact h
   ·rw [List.drop_eq_nil_iff.2 h] at hq; cases hq
  simp only [cu, ic]
  rw [aa (by omega), aa (by omega), Int.toNat_natCast, List.getElem?_eq_getElem hi]
  simp only [Option.bind_some, bne_self_eq_false, cond_false]
  rw [aa (by omega), wi _ (by omega) (by omega)]
  have hq2 : l.drop (i + 1) = q := by
   have := congrArg List.tail hq
   simpa using this
  simp only [List.length_cons] at hm
  have := UT n l hl q (i + 1) m hq2 (by omega)
  simpa using this
theorem Oe (n : Nat) (hn : 2001 ≤ n) (l : List Int) (hl : l.length ≤ 2000) : jJ n l l = some true := by
 unfold jJ nN
 rw [bne_self_eq_false, cond_false]
 have := UT n l hl l 0 n rfl (by omega)
 have h2 : cu n n l l 0 = some (Sum.inr ()) := this
 rw [h2]
 rfl
theorem QA (f : Int → Int) (loc : Int) : ∀ (L acc : List Int), (L.foldl (qW f loc) acc).length ≤ acc.length + L.length
 | [], acc => by simp
 | v :: L, acc => by
  have h1 := QA f loc L (qW f loc acc v)
  have h2 := KA f loc acc v
  simp only [List.foldl_cons, List.length_cons]
  omega
theorem Z6 (n : Nat) (hw : aS n = some true) (e : Int) : bA n [] e e = some true := by
 unfold bA ek
 rw [beq_self_eq_true, cond_true, show ((([] : List Int).length : Int) == 0) = true from rfl, cond_true, hw]
 rfl
theorem Yc (n : Nat) (a0 a1 a2 a3 a4 a5 a6 x e : Int) (hm : cK n a0 a1 a2 a3 a4 a5 a6 = some (x, e)) (he : e ≠ 0) : fV n a0 a1 a2 a3 a4 a5 a6 = some ([], e) := by
 unfold fV kL
 rw [hm]
 simp only [Option.bind_some]
 rw [show (e != 0) = true by simpa using he, cond_true]
theorem Yd (n : Nat) (a0 a1 a2 a3 a4 a5 a6 x e : Int) (hm : cK n a0 a1 a2 a3 a4 a5 a6 = some (x, e)) (he : e ≠ 0) (h0 : List (List AV)) (h1 h2 : List Int) (h3 h4 h5 : Str) (h6 h7 h8 h9 h10 h11 h12 h13 h14 h15 h16 h17 : Int) :
 dX n a0 a1 a2 a3 a4 a5 a6 h0 h1 h2 h3 h4 h5 h6 h7 h8 h9 h10 h11 h12 h13 h14 h15 h16 h17 = some ([], e, h0, h1, h2, h3, h4, h5, h6, h7, h8, h9, h10, h11, h12, h13, h14, h15, h16, h17) := by
 unfold dX jf
 rw [hm]
 simp only [Option.bind_some]
 rw [show (e != 0) = true by simpa using he, cond_true]
theorem Ye (n : Nat) (a0 a1 a2 a3 a4 a5 a6 x e : Int) (hm : cK n a0 a1 a2 a3 a4 a5 a6 = some (x, e)) (he : e ≠ 0) (h0 : List (List AV)) (h1 h2 : List Int) (h3 : Str) :
 dZ n a0 a1 a2 a3 a4 a5 a6 h0 h1 h2 h3 = some ([], e, h0, h1, h2, h3) := by
 unfold dZ jg
 rw [hm]
 simp only [Option.bind_some]
 rw [show (e != 0) = true by simpa using he, cond_true]
theorem Nz (n : Nat) (hn : 20000 < n) (hw : aS n = some true) (ts : List Z.Ty) (ti ix : List Int) (foot : Str) (utc : Bool) (a0 a1 a2 a3 a4 a5 a6 : Int) (hall : ∀ t ∈ ts, t.2.2.length ≤ 9223372036854775807 ∧ t.2.2.length < n) (hf : foot.length ≤ 9223372036854775807 ∧ foot.length < n) :
 gy n (ts.map Z.cT) ti ix foot utc a0 a1 a2 a3 a4 a5 a6 = some true := by
 unfold gy gu
 obtain ⟨x, e, hm, hx⟩ := Tc n a0 a1 a2 a3 a4 a5 a6
 rcases VJ n (by omega) ts ti ix foot utc hall hf with ⟨_, e1⟩ | ⟨y, e1, hy⟩ | ⟨hR, _, _, ⟨r, hr, e1⟩ | e1⟩
 ·rw [e1]
  simp only [Option.bind_some, Sum.elim_inl, Bool.not_true, cond_false]
  by_cases he : e = 0
  ·subst he
   rw [X8 n hn a0 a1 a2 a3 a4 a5 a6 x hm (hx rfl)]
   simp only [Option.bind_some]
   rw [hm]
   simp only [Option.bind_some, bne_self_eq_false, cond_false, beq_self_eq_true, cond_true]
   rw [Od x (fun _ => 0) _ _ _ _ _ _ _ _ _ _ _ _ _ _ _ _ _ _ _ _ n hn [0] (by simp) (by simp) (hx rfl) (by kernel_rfl) (fun t ht => aci n t (by omega))]
   simp only [Option.bind_some]
   rw [show ([0] : List Int).reverse = [0] from rfl, List.foldl_cons, List.foldl_nil, Oe n (by omega) _ (by have := KA (fun _ => 0) x [] 0; simp only [List.length_nil] at this; omega)]
   simp only [Option.bind_some, cond_true]
   rw [hw]
   rfl
  ·rw [Yc n a0 a1 a2 a3 a4 a5 a6 x e hm he]
   simp only [Option.bind_some]
   rw [hm]
   simp only [Option.bind_some]
   rw [show (e != 0) = true by simpa using he, cond_true, Z6 n hw]
   rfl
 ·rw [e1]
  simp only [Option.bind_some, Sum.elim_inl]
  rw [hy, Bool.not_false, cond_true, hw]
  rfl
 ·rw [e1]
  simp only [Option.bind_some, Sum.elim_inr, Sum.elim_inl, Bool.not_true, cond_false]
  obtain ⟨_, h2, _, _, _, _, _, _⟩ := Z.right_parts hR
  by_cases he : e = 0
  ·subst he
   rw [Oc n hn ts ti ix foot r hR hr a0 a1 a2 a3 a4 a5 a6 x hm (hx rfl)]
   simp only [Option.bind_some]
   rw [hm]
   simp only [Option.bind_some, bne_self_eq_false, cond_false, beq_self_eq_true, cond_true]
   have hlen := UO ts r h2
   rw [Od x (zb n ts ti ix foot r) _ _ _ _ _ _ _ _ _ _ _ _ _ _ _ _ _ _ _ _ n hn _ (WM hR hr) hlen (hx rfl) (VM n (by omega) ts ti ix foot r hR) (fun t ht => acg n hn ts ti ix foot r hR hr t (by omega))]
   simp only [Option.bind_some]
   rw [Oe n (by omega) _ (by have := QA (zb n ts ti ix foot r) x (uV [] (rW ts (some r))).reverse []; simp only [List.length_nil, List.length_reverse] at this; omega)]
   simp only [Option.bind_some, cond_true]
   rw [hw]
   rfl
  ·rw [Yd n a0 a1 a2 a3 a4 a5 a6 x e hm he]
   simp only [Option.bind_some]
   rw [hm]
   simp only [Option.bind_some]
   rw [show (e != 0) = true by simpa using he, cond_true, Z6 n hw]
   rfl
 ·rw [e1]
  simp only [Option.bind_some, Sum.elim_inr, Sum.elim_inl, Bool.not_true, cond_false]
  obtain ⟨_, h2, _, _, _, _, _, _⟩ := Z.right_parts hR
  by_cases he : e = 0
  ·subst he
   rw [X7 n hn ts ti ix foot hR a0 a1 a2 a3 a4 a5 a6 x hm (hx rfl)]
   simp only [Option.bind_some]
   rw [hm]
   simp only [Option.bind_some, bne_self_eq_false, cond_false, beq_self_eq_true, cond_true]
   have hlen := UQ ts h2
   rw [Od x (IM n ts ti ix foot) _ _ _ _ _ _ _ _ _ _ _ _ _ _ _ _ _ _ _ _ n hn _ (WN hR) hlen (hx rfl) (VN n (by omega) ts ti ix foot _ _ _ _ _ _ _ _ _ _ _ _ _ _ hR) (fun t ht => ach n hn ts ti ix foot hR t (by omega))]
   simp only [Option.bind_some]
   rw [Oe n (by omega) _ (by have := QA (IM n ts ti ix foot) x (uV [] (rW ts none)).reverse []; simp only [List.length_nil, List.length_reverse] at this; omega)]
   simp only [Option.bind_some, cond_true]
   rw [hw]
   rfl
  ·rw [Ye n a0 a1 a2 a3 a4 a5 a6 x e hm he]
   simp only [Option.bind_some]
   rw [hm]
   simp only [Option.bind_some]
   rw [show (e != 0) = true by simpa using he, cond_true, Z6 n hw]
   rfl
theorem Og {els : List (List AV)} {ti ix : List Int} {foot : Str} {utc : Bool} {a0 a1 a2 a3 a4 a5 a6 : Int} (h0 : ∀ e ∈ els, LD.rz [.int .i64, .bool, .str] e) (h3 : foot.length ≤ 9223372036854775807) : ∃ n, gy n els ti ix foot utc a0 a1 a2 a3 a4 a5 a6 = some true := by
 obtain ⟨ts, rfl, ht⟩ := Z.open_types h0
 obtain ⟨m, hm⟩ := Z.lens_bound ts
 refine ⟨20001 + m + foot.length, Nz _ (by omega) (Ya _ (by omega)) ts ti ix foot utc a0 a1 a2 a3 a4 a5 a6 (fun t h => ?_) ⟨h3, by omega⟩⟩
 have := hm t h
 have := (ht t h).2.2
 omega
end Go.Proofs.YtiegmpnagcdgoaaGreatDoor.H
namespace Go.Sh
open Go
theorem KC {P : Program} {w : World} : ∀ {l : List (String × DataW Unit)} {ps : List MemPlace}, DataW.LaidVars P w l ps → ∀ {n : String} {d : DataW Unit}, (n, d) ∈ l →
 ∃ g t cs fuel p, P.globalNamed n = some g ∧ (P.globals[g]?).map (·.type) = some t ∧ w.var? P n = some cs ∧ DataW.trod (fun _ => ()) P w 0 (fun _ => true) false fuel t cs.toList = some (d, p)
 | [], _, _, n, d, hx => by cases hx
 | (m, e) :: r, _, h, n, d, hx => by
  obtain ⟨g, t, cs, fuel, p, q, h1, h2, h3, h4, h5, _⟩ := h
  rcases List.mem_cons.1 hx with hx | hx
  ·injection hx with hn hd
   subst hn hd
   exact ⟨g, t, cs, fuel, p, h1, h2, h3, h4⟩
  ·exact KC h5 hx
theorem R6 {P : Program} {w : World} {n : String} {g : Nat} {cs : Array Value} (hg : P.globalNamed n = some g) (h : w.var? P n = some cs) : ∃ t f, w.heap[g]? = some (.cells cs t f) := by
 simp only [World.var?, hg, Option.bind_some] at h
 split at h
 ·rename_i cs' t f e
  injection h with h
  subst h
  exact ⟨t, f, e⟩
 ·cases h
theorem QB {P : Program} {w : World} {l : List (String × DataW Unit)} (h : laidMet P l w) {n s : String} {d : DataW Unit} (hx : (n, DataW.iface s d) ∈ l) {g : Nat} {t : TypeId} {ms : Array (String × TypeId)}
 (hg : P.globalNamed n = some g) (hty : (P.globals[g]?).map (·.type) = some t) (ht : P.underlying t = some (.interface ms)) : ∃ u v t' f, w.heap[g]? = some (.cells #[.iface u v] t' f) := by
 obtain ⟨ps, hl, _⟩ := h
 obtain ⟨g', t', cs, fuel, p, h1, h2, h3, h4⟩ := KC hl hx
 obtain rfl := Option.some.inj (hg.symm.trans h1)
 obtain rfl := Option.some.inj (hty.symm.trans h2)
 obtain ⟨u, f, hb⟩ := R6 hg h3
 obtain ⟨cs⟩ := cs
 cases fuel with
 | zero => simp [DataW.trod] at h4
 | succ fuel =>
  simp only [DataW.trod, ht] at h4
  match cs, h4, hb with
  | [.iface x v], _, hb => exact ⟨x, v, u, f, hb⟩
  | [.nilIface], h4, _ => simp at h4
  | [], h4, _ => simp at h4
  | a :: b :: r, h4, _ => simp at h4
  | [.bool _], h4, _ => simp at h4
  | [.int _ _], h4, _ => simp at h4
theorem VP {P : Program} {w : World} {l : List (String × DataW Unit)} (h : laidMet P l w) {n : String} {k : IntKind} {zs : List Int} (hx : (n, Lib.tabData k zs) ∈ l) {g m : Nat} {t e : TypeId}
 (hg : P.globalNamed n = some g) (hty : (P.globals[g]?).map (·.type) = some t) (ht : P.underlying t = some (.array m e)) (he : P.underlying e = some (.int k)) (hce : P.cellsOf e = 1) (hct : P.cellsOf t = m) :
 ∃ t' f, w.heap[g]? = some (.cells (zs.map fun z => Value.int k z).toArray t' f) := by
 obtain ⟨ps, hl, _⟩ := h
 obtain ⟨g', t', cs, fuel, p, h1, h2, h3, h4⟩ := KC hl hx
 obtain rfl := Option.some.inj (hg.symm.trans h1)
 obtain rfl := Option.some.inj (hty.symm.trans h2)
 obtain ⟨u, f, hb⟩ := R6 hg h3
 have := Lib.cells_of_tab ht he hce hct h4
 refine ⟨u, f, ?_⟩
 rw [hb, ← this]
end Go.Sh
namespace Go.Proofs.YtiegmpnagcdgoaaGreatDoor.H
open Go.Sh Go
theorem Yf {W : World} (h : W.ShapedOpen Tryz.prog) : ∃ m t f, W.heap[0]? = some (.cells #[.int .i64 m] t f) := by
 have h0 : ((begin Tryz.prog (fun _ _ => 0) default).world.heap[0]?).bind Obj.row? = some (#[.int .i64 0], 3) := by kernel_rfl
 obtain ⟨m, hm⟩ := cell_of_shapedOpen_int (g := 0) (t := 3) (zero := #[.int .i64 0]) (k := .i64) h (of_decide_eq_true (by kernel_rfl)) h0 rfl (by kernel_rfl) (by kernel_rfl) (by kernel_rfl)
 obtain ⟨cs, h1, h2, _⟩ := h.1 0 _ _ (of_decide_eq_true (by kernel_rfl)) h0
 obtain ⟨c, rfl⟩ : ∃ c, cs = #[c] := by
  obtain ⟨l⟩ := cs
  match l, h2 with
  | [c], _ => exact ⟨c, rfl⟩
 have : c = .int .i64 m := by simpa [World.cell?, h1] using hm
 subst this
 exact ⟨m, _, _, h1⟩
theorem Yg {W : World} (hs : W.ShapedOpen Tryz.prog) (h : laidMetH Tryz.prog [("math/bits.deBruijn32tab", Rows.laid_math_bits_deBruijn32tab), ("math/bits.deBruijn64tab", Rows.laid_math_bits_deBruijn64tab), ("internal/strconv.uint64pow10", Rows.laid_internal_strconv_uint64pow10), ("strconv.ErrRange", Rows.laid_strconv_ErrRange), ("strconv.ErrSyntax", Rows.laid_strconv_ErrSyntax)] W) : GdH W.heap := by
 rw [MakeChecks.laidMetH_plain _ _ _ (by kernel_rfl)] at h
 refine ⟨Yf hs, ?_, ?_, ?_⟩
 ·exact QB h (n := "strconv.ErrSyntax") (t := 207) (ms := #[("Error", 148)]) (List.mem_cons_of_mem _ (List.mem_cons_of_mem _ (List.mem_cons_of_mem _ (List.mem_cons_of_mem _ (List.mem_cons_self ..))))) (by kernel_rfl) (by kernel_rfl) (by kernel_rfl)
 ·exact QB h (n := "strconv.ErrRange") (t := 207) (ms := #[("Error", 148)]) (List.mem_cons_of_mem _ (List.mem_cons_of_mem _ (List.mem_cons_of_mem _ (List.mem_cons_self ..)))) (by kernel_rfl) (by kernel_rfl) (by kernel_rfl)
 ·exact VP h (n := "internal/strconv.uint64pow10") (k := .u64) (zs := Lib.pow10Tab) (t := 257) (e := 133) (m := 20) (List.mem_cons_of_mem _ (List.mem_cons_of_mem _ (by rw [show (Lib.tabData .u64 Lib.pow10Tab : DataW Unit) = Rows.laid_internal_strconv_uint64pow10 by kernel_rfl]; exact List.mem_cons_self ..))) (by kernel_rfl) (by kernel_rfl) (by kernel_rfl) (by kernel_rfl) (by kernel_rfl) (by kernel_rfl)
end Go.Proofs.YtiegmpnagcdgoaaGreatDoor.H
namespace Go.Sh
open Go
variable {H : Type} {enc : TypeId × Value → H}
theorem QJ {a : Assume} {C : Checked} {os : Os} {f : FuncId} {fn : Func} {s : ChangeSpec} {conds : List PathCond} {apart fresh handsOn again : Bool} {X : World → Array Value → Prop}
 (hX : ∀ (w w' : World) (args : Array Value), w.heap = w'.heap → X w args → X w' args)
 (own : ownKnob C.prog.godebug = none) (started : os.Started) (noInit : C.prog.inits.idxOf? f = none) (hfn : C.prog.funcs[f]? = some fn)
 (witness : ∃ (w : World) (tape : Tape) (i : Input), w.os = os ∧ (w.forCall tape i).Shaped C.prog ∧ i.vars = [] ∧ Input.okWide C.prog (w.forCall tape i) .any w.heap.size f i ∧
  ((s.pre enc C.prog fn conds apart (w.forCall tape i).memory i.args ∧ X (w.forCall tape i).memory i.args) ∧ sizedMet enc C.prog fn (OpenSpec.ofChange s) apart (w.forCall tape i).memory i.args) ∧ a.holds C.prog (lone (Frame.enter C.prog f i.args .normal) [] (w.forCall tape i)))
 (contract : ∀ (W : World) (base : Nat) (args : Array Value) (ds gs : List (DataW H)) (before : List MemPlace),
  (∀ (j : Nat) t v, fn.params[j]? = some t → args[j]? = some v → Value.okWide C.prog W .any base t v) →
  DataW.Whole enc C.prog fn.params.toList s.vars apart W args.toList ds gs before →
  conds.all (PathCond.test C.prog ⟨fn.params.toList, ds, s.plain.varTypes C.prog, gs⟩) = true →
  (DataW.weightsEach C.prog (fn.params.toList ++ s.plain.varTypes C.prog) (ds ++ gs)).all (· ≤ reachBytes) = true → X W args →
  W.ShapedOpen C.prog →
  a.holds C.prog (lone (Frame.enter C.prog f args .normal) [] W) →
  Calls C.prog f args W fun e W' => ∃ v, e = .returned v ∧ s.post enc C.prog fn apart fresh handsOn again W args v W') :
 ReturnsInHanded a C os f .any (fun w args => (s.pre enc C.prog fn conds apart w args ∧ X w args) ∧ sizedMet enc C.prog fn (OpenSpec.ofChange s) apart w args) (s.post enc C.prog fn apart fresh handsOn again) := by
 refine returnsInHanded_of_calls own started noInit witness ?_
 intro w tape i _ hsh _ hok hpre hholds
 obtain ⟨_, _, _, fn', hfn', _, _, _, _, hval⟩ := hok
 have e : fn' = fn := Option.some.inj (hfn'.symm.trans hfn)
 subst e
 obtain ⟨⟨⟨ds, gs, before, hw, hc⟩, hx⟩, hz⟩ := hpre
 have hw' := DataW.Whole.of_heap (w' := w.forCall tape i) (by rfl) hw
 refine (contract (w.forCall tape i) w.heap.size i.args ds gs before hval hw' hc (hz.weights hw) (hX _ _ _ (by rfl) hx) hsh hholds).mono fun e W' ⟨v, he, hp⟩ => ?_
 subst he
 exact ChangeSpec.post_blind hp
end Go.Sh

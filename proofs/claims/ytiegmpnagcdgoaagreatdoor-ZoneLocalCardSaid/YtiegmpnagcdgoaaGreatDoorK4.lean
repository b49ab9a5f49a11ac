/- Texts of this session, joined and cut to what one statement needs, under short names. -/
import Derived.Test.YtiegmpnagcdgoaaGreatDoorK3
import Derived.ChangeArms
import Derived.OpenShut
import Derived.WideShapes
import Derived.Deep.Slices
import Derived.Lib.SlKeysI
import Derived.KernelRfl
import Derived.Lib.LaidTab
import Derived.MakeChecks
import Derived.Test.YtiegmpnagcdgoaaGreatDoorRows
import Derived.Shelf.Vars
import Derived.Handed
import Derived.HandedShaped
namespace Go.Proofs.YtiegmpnagcdgoaaGreatDoor.H
open Go.Sh Go.RowKit
set_option linter.unusedSimpArgs false
set_option linter.unusedVariables false
structure DayV where
 k : Int
 m : Int
 w : Int
 d : Int
 t : Int
structure RuleV where
 std : Str
 dst : Str
 off : Int
 doff : Int
 a : DayV
 b : DayV
def DayV.zero : DayV := ⟨0, 0, 0, 0, 0⟩
def RuleV.zero : RuleV := ⟨[], [], 0, 0, .zero, .zero⟩
def nk (k m w : Int) (r : Str) (bad : Bool) : DayV × Str × Bool :=
 let d := dA 1 3 r
 let e := aA 47 d.2.1
 if e.1 = true then
  let h := dH 167 e.2
  (⟨k, m, w, d.1, h.1⟩, h.2.1, bad || d.2.2 || h.2.2)
 else (⟨k, m, w, d.1, 7200⟩, e.2, bad || d.2.2)
def yS (r : Str) : DayV × Str × Bool :=
 let e := aA 74 r
 if e.1 = true then nk 1 0 0 e.2 false
 else
  let f := aA 77 e.2
  if f.1 = true then
   let m := dA 1 3 f.2
   let p := aA 46 m.2.1
   let w := dA 1 3 p.2
   let q := aA 46 w.2.1
   nk 3 m.1 w.1 q.2 (m.2.2 || !p.1 || w.2.2 || !q.1)
  else nk 2 0 0 f.2 false
theorem KJ (k m w : Int) (r : Str) (bad : Bool) : (nk k m w r bad).2.1.length ≤ r.length := by
 have h1 := wT 1 3 r
 have h2 := iV 47 (dA 1 3 r).2.1
 have h3 := Jt 167 (aA 47 (dA 1 3 r).2.1).2
 unfold nk
 dsimp only
 split <;> dsimp only <;> omega
theorem ZH (r : Str) : (yS r).2.1.length ≤ r.length := by
 have h1 := iV 74 r
 have h2 := iV 77 (aA 74 r).2
 have h3 := wT 1 3 (aA 77 (aA 74 r).2).2
 have h4 := iV 46 (dA 1 3 (aA 77 (aA 74 r).2).2).2.1
 have h5 := wT 1 3 (aA 46 (dA 1 3 (aA 77 (aA 74 r).2).2).2.1).2
 have h6 := iV 46 (dA 1 3 (aA 46 (dA 1 3 (aA 77 (aA 74 r).2).2).2.1).2).2.1
 unfold yS
 dsimp only
 split
 ·exact Nat.le_trans (KJ ..) h1
 ·split
  ·exact Nat.le_trans (KJ ..) (by omega)
  ·exact Nat.le_trans (KJ ..) (by omega)
theorem WJ (n : Nat) (r : Str) (b : Bool) (hs : r.length < 9223372036854775808) (hn : r.length + 5 < n) :
 qa n r b = some ((yS r).1.k, (yS r).1.m, (yS r).1.w, (yS r).1.d, (yS r).1.t, (yS r).2.1, b || (yS r).2.2) := by
 have h1 := iV 74 r
 have h2 := iV 77 (aA 74 r).2
 have h3 := wT 1 3 (aA 77 (aA 74 r).2).2
 have h4 := iV 46 (dA 1 3 (aA 77 (aA 74 r).2).2).2.1
 have h5 := wT 1 3 (aA 46 (dA 1 3 (aA 77 (aA 74 r).2).2).2.1).2
 have h6 := iV 46 (dA 1 3 (aA 46 (dA 1 3 (aA 77 (aA 74 r).2).2).2.1).2).2.1
 have num : ∀ (s : Str) (b : Bool), s.length ≤ r.length → aZ n (1 : Int) (3 : Int) s b = some (((dA 1 3 s).1 : Int), (dA 1 3 s).2.1, b || (dA 1 3 s).2.2) := fun s b h => Js n 1 3 (by omega) (by omega) s b (by omega) (by omega)
 have tail : ∀ (k m w : Int) (s : Str) (b bad : Bool), s.length ≤ r.length →
  ((aZ n (1 : Int) (3 : Int) s (b || bad)).bind fun o59 => (bC n (47 : Int) o59.2.1 o59.2.2).bind fun o60 => cond o60.1 ((bv n (167 : Int) o60.2.1 o60.2.2).bind fun o61 => some (k, m, w, o59.1, o61.1, o61.2.1, o61.2.2)) (some (k, m, w, o59.1, 7200, o60.2.1, o60.2.2)))
  = some ((nk k m w s bad).1.k, (nk k m w s bad).1.m, (nk k m w s bad).1.w, (nk k m w s bad).1.d, (nk k m w s bad).1.t, (nk k m w s bad).2.1, b || (nk k m w s bad).2.2) := by
  intro k m w s b bad hsl
  have g1 := wT 1 3 s
  have g2 := iV 47 (dA 1 3 s).2.1
  rw [num s _ hsl]
  simp only [Option.bind_some]
  rw [Fv n 47 47]
  simp only [Option.bind_some]
  unfold nk
  cases he : (aA 47 (dA 1 3 s).2.1).1 with
  | true =>
   simp only [cond_true, he, if_true]
   rw [show (bv n (167 : Int) (aA 47 (dA 1 3 s).2.1).2 (b || bad || (dA 1 3 s).2.2)) = _ from Oe n 167 _ _ (by omega) (by omega)]
   simp only [Option.bind_some, Bool.or_assoc]
  | false => simp only [cond_false, he, Bool.false_eq_true, if_false, Bool.or_assoc]
 unfold qa p9 sQ lF yS
 rw [Fv n 74 74]
 simp only [Option.bind_some]
 cases he : (aA 74 r).1 with
 | true =>
  simp only [cond_true, if_true, Option.bind_some]
  have := tail 1 0 0 (aA 74 r).2 b false (by omega)
  rw [Bool.or_false] at this
  exact this
 | false =>
  simp only [cond_false, Bool.false_eq_true, if_false]
  rw [Fv n 77 77]
  simp only [Option.bind_some]
  cases hf : (aA 77 (aA 74 r).2).1 with
  | false =>
   simp only [cond_false, Bool.false_eq_true, if_false, Option.bind_some]
   have := tail 2 0 0 (aA 77 (aA 74 r).2).2 b false (by omega)
   rw [Bool.or_false] at this
   exact this
  | true =>
   simp only [cond_true, if_true]
   rw [num _ _ (by omega)]
   simp only [Option.bind_some]
   rw [KI n 46 46]
   simp only [Option.bind_some]
   rw [num _ _ (by omega)]
   simp only [Option.bind_some]
   rw [KI n 46 46]
   simp only [Option.bind_some]
   have := tail 3 (dA 1 3 (aA 77 (aA 74 r).2).2).1 (dA 1 3 (aA 46 (dA 1 3 (aA 77 (aA 74 r).2).2).2.1).2).1 (aA 46 (dA 1 3 (aA 46 (dA 1 3 (aA 77 (aA 74 r).2).2).2.1).2).2.1).2 b ((dA 1 3 (aA 77 (aA 74 r).2).2).2.2 || !(aA 46 (dA 1 3 (aA 77 (aA 74 r).2).2).2.1).1 || (dA 1 3 (aA 46 (dA 1 3 (aA 77 (aA 74 r).2).2).2.1).2).2.2 || !(aA 46 (dA 1 3 (aA 46 (dA 1 3 (aA 77 (aA 74 r).2).2).2.1).2).2.1).1) (by omega)
   simp only [← Bool.or_assoc] at this ⊢
   exact this
def GM (x far : Int) : Bool := decide (-far ≤ x) && decide (x ≤ far)
def rD (d : DayV) : Bool := GM d.t 604799 &&
 if d.k = 1 then decide (d.m = 0) && decide (d.w = 0) && decide (1 ≤ d.d) && decide (d.d ≤ 365)
 else if d.k = 2 then decide (d.m = 0) && decide (d.w = 0) && decide (0 ≤ d.d) && decide (d.d ≤ 365)
 else if d.k = 3 then decide (1 ≤ d.m) && decide (d.m ≤ 12) && decide (1 ≤ d.w) && decide (d.w ≤ 5) && decide (0 ≤ d.d) && decide (d.d ≤ 6)
 else false
def Qm (d : DayV) : Bool := d.k == 0 && d.m == 0 && d.w == 0 && d.d == 0 && d.t == 0
def fE (r : RuleV) : Bool := uB r.std && GM r.off 89999 &&
 if r.dst = [] then r.doff == 0 && Qm r.a && Qm r.b else uB r.dst && GM r.doff 89999 && rD r.a && rD r.b
theorem De (n : Nat) (x : Int) (far : Nat) (hf : far < 1000000000) : kg n x (far : Int) = some (GM x far) := by
 unfold kg wG GM
 rw [wi (0 - (far : Int)) (by omega) (by omega)]
 by_cases h : -(far : Int) ≤ x
 ·rw [aa (by omega), decide_eq_true h]; rfl
 ·rw [ah (by omega), decide_eq_false h]; rfl
theorem Ll (x y : Int) : (x == y) = decide (x = y) := by by_cases h : x = y <;> simp [h]
theorem NA {p : Prop} [Decidable p] (q : Bool) : cond (decide p) (some q) (some false) = some (decide p && q) := by by_cases h : p <;> simp [h]
theorem RL (p q : Bool) : cond p (some q) (some false) = some (p && q) := by cases p <;> rfl
theorem NB (n : Nat) (k m w d t : Int) : nS n k m w d t = some (rD ⟨k, m, w, d, t⟩) := by
 unfold nS qO rD
 rw [show kg n t (604799 : Int) = _ from De n t 604799 (by omega)]
 simp only [Option.bind_some]
 cases GM t ((604799 : Nat) : Int) with
 | false => simp
 | true =>
  simp only [Bool.not_true, cond_false, Bool.true_and]
  rw [uL, nC]
  have hz : ∀ (x3 : Int), ((qb n x3 k m w d t).bind fun o75 => some o75.1) = some (decide (m = 0) && decide (w = 0) && decide (x3 ≤ d) && decide (d ≤ 365)) := by
   intro x3
   rw [qb, nD]
   rw [Ll, Ll]
   by_cases h1 : m = 0 <;> by_cases h2 : w = 0 <;> by_cases h3 : x3 ≤ d <;> simp [h1, h2, h3]
  by_cases h1 : k = 1
  ·subst h1
   simpa using hz 1
  ·by_cases h2 : k = 2
   ·subst h2
    simpa using hz 0
   ·by_cases h3 : k = 3
    ·subst h3
     simp only [beq_iff_eq, h1, h2, if_false, if_true, show ((3 : Int) == 1) = false from rfl, show ((3 : Int) == 2) = false from rfl, show ((3 : Int) == 3) = true from rfl, cond_false, cond_true, Option.bind_some, Sum.elim_inl, Sum.elim_inr, NA, ge_iff_le, Bool.and_assoc]
    ·rw [Ll, Ll, Ll, decide_eq_false h1, decide_eq_false h2, decide_eq_false h3]
     simp [h1, h2, h3]
theorem right_val (n : Nat) (std dst : Str) (off doff k m w d t k' m' w' d' t' : Int) (hs : std.length < 9223372036854775808) (hn : std.length < n) (hs' : dst.length < 9223372036854775808) (hn' : dst.length < n) :
 uU n std dst off doff k m w d t k' m' w' d' t' = some (fE ⟨std, dst, off, doff, ⟨k, m, w, d, t⟩, ⟨k', m', w', d', t'⟩⟩) := by
 unfold uU xN zD sS fE
 rw [Nz n std hs hn]
 simp only [Option.bind_some]
 cases uB std with
 | false => simp
 | true =>
  simp only [Bool.not_true, cond_false, Bool.true_and]
  rw [show kg n off (89999 : Int) = _ from De n off 89999 (by omega)]
  simp only [Option.bind_some]
  change _ = some (GM off ((89999 : Nat) : Int) && _)
  cases GM off ((89999 : Nat) : Int) with
  | false => simp
  | true =>
   simp only [Bool.not_true, cond_false, Bool.true_and]
   by_cases hd : dst = []
   ·subst hd
    simp [Qm, Bool.and_assoc]
   ·have : (dst == ([] : Str)) = false := by simpa using hd
    rw [this, cond_false, Nz n dst hs' hn', if_neg hd]
    simp only [Option.bind_some]
    rw [show kg n doff (89999 : Int) = _ from De n doff 89999 (by omega)]
    simp only [Option.bind_some, NB, RL, Bool.and_assoc]
    rfl
def zx (off : Int) (r : Str) : Int × Str × Bool :=
 if r.head? = some 44 then (off + 3600, r, false)
 else let x := dH 24 r; (-x.1, x.2.1, x.2.2)
theorem ZI (off : Int) (r : Str) : (zx off r).2.1.length ≤ r.length := by
 unfold zx
 split
 ·exact Nat.le_refl _
 ·exact Jt 24 r
def JR (std : Str) (off : Int) (r : Str) (bad : Bool) : RuleV × Str × Bool :=
 let d := aB r
 let o := zx off d.2.1
 let p := aA 44 o.2.1
 let a := yS p.2
 let q := aA 44 a.2.1
 let b := yS q.2
 (⟨std, d.1, off, o.1, a.1, b.1⟩, b.2.1, bad || d.2.2 || o.2.2 || !p.1 || a.2.2 || !q.1 || b.2.2)
def NC (s : Str) : RuleV × Str × Bool :=
 let a := aB s
 let h := dH 24 a.2.1
 if h.2.1 = [] then (⟨a.1, [], -h.1, 0, .zero, .zero⟩, [], a.2.2 || h.2.2)
 else JR a.1 (-h.1) h.2.1 (a.2.2 || h.2.2)
def JS (s : Str) : Option RuleV :=
 if 100 < s.length then none
 else let x := NC s; if x.2.2 = false ∧ x.2.1 = [] ∧ fE x.1 = true then some x.1 else none
theorem Ju (r : Str) : (aB r).1.length ≤ r.length := by
 have h1 := iV 60 r
 have h2 := yn xA (aA 60 r).2.length (aA 60 r).2
 have h3 := yn jH (aA 60 r).2.length (aA 60 r).2
 unfold aB
 dsimp only
 split <;> dsimp only <;> omega
theorem VB (n : Nat) (r : Str) : uK n r [44] = some (decide (r.head? = some 44)) := by
 unfold uK
 cases r with
 | nil => rfl
 | cons c r =>
  have : Lib.hasPrefix (c :: r) [44] = (44 == c) := by simp [Lib.hasPrefix, List.isPrefixOf]
  rw [this, List.head?_cons]
  by_cases h : c = 44
  ·subst h; rfl
  ·have h' : ¬ (44 : UInt8) = c := fun e => h e.symm
   simp [h, h']
def Uy (r : RuleV) (e : Int) : Str × Str × Int × Int × Int × Int × Int × Int × Int × Int × Int × Int × Int × Int × Int := (r.std, r.dst, r.off, r.doff, r.a.k, r.a.m, r.a.w, r.a.d, r.a.t, r.b.k, r.b.m, r.b.w, r.b.d, r.b.t, e)
theorem XX (n : Nat) (s : Str) (hn : 200 < n) : BF n s = some (match JS s with | some r => Uy r 0 | none => Uy .zero 70) := by
 unfold BF xO JS
 by_cases h100 : 100 < s.length
 ·rw [aa (by omega), if_pos h100]; rfl
 ·rw [ah (by omega), if_neg h100]
  have h1 := Od s
  have h1' := Ju s
  have h2 := Jt 24 (aB s).2.1
  have h2' := K7 24 (aB s).2.1
  rw [RI n s false (by omega) (by omega)]
  simp only [Option.bind_some, Bool.false_or]
  rw [show (bv n (24 : Int) (aB s).2.1 (aB s).2.2) = _ from Oe n 24 _ _ (by omega) (by omega)]
  simp only [Option.bind_some]
  rw [wi (0 - (dH 24 (aB s).2.1).1) (by omega) (by omega), Int.zero_sub]
  have fin : ∀ (r : RuleV) (t : Str) (bad : Bool), r.std.length ≤ 200 → r.dst.length ≤ 200 →
   cond bad (some (Uy .zero 70)) (cond (!(t == ([] : Str))) (some (Uy .zero 70)) ((uU n r.std r.dst r.off r.doff r.a.k r.a.m r.a.w r.a.d r.a.t r.b.k r.b.m r.b.w r.b.d r.b.t).bind fun o80 => cond (!o80) (some (Uy .zero 70)) (some (Uy r 0))))
   = some (match (if bad = false ∧ t = [] ∧ fE r = true then some r else none) with | some r => Uy r 0 | none => Uy .zero 70) := by
   intro r t bad g1 g2
   rw [right_val n _ _ _ _ _ _ _ _ _ _ _ _ _ _ (by omega) (by omega) (by omega) (by omega)]
   cases bad with
   | true => simp
   | false =>
    cases t with
    | cons c t => simp
    | nil => cases h : fE r <;> simp [h]
  by_cases he : (dH 24 (aB s).2.1).2.1 = []
  ·have hr : NC s = (⟨(aB s).1, [], -(dH 24 (aB s).2.1).1, 0, .zero, .zero⟩, [], (aB s).2.2 || (dH 24 (aB s).2.1).2.2) := by unfold NC; dsimp only; rw [if_pos he]
   rw [wH, pE, he]
   simp only [beq_self_eq_true, Bool.not_true, cond_false, Option.bind_some]
   rw [hr]
   exact fin ⟨(aB s).1, [], -(dH 24 (aB s).2.1).1, 0, .zero, .zero⟩ [] _ (by show (aB s).1.length ≤ 200; omega) (by simp)
  ·have hr : NC s = JR (aB s).1 (-(dH 24 (aB s).2.1).1) (dH 24 (aB s).2.1).2.1 ((aB s).2.2 || (dH 24 (aB s).2.1).2.2) := by unfold NC; dsimp only; rw [if_neg he]
   have hb : ((dH 24 (aB s).2.1).2.1 == ([] : Str)) = false := by simpa using he
   rw [wH, pE, hb]
   rw [hr]
   have hoff : -5000000 < -(dH 24 (aB s).2.1).1 ∧ -(dH 24 (aB s).2.1).1 < 5000000 := by omega
   generalize ((aB s).2.2 || (dH 24 (aB s).2.1).2.2) = bad
   generalize -(dH 24 (aB s).2.1).1 = off at *
   generalize (dH 24 (aB s).2.1).2.1 = r at *
   have k1 := Od r
   have k1' := Ju r
   have k2 := ZI off (aB r).2.1
   have k3 := iV 44 (zx off (aB r).2.1).2.1
   have k4 := ZH (aA 44 (zx off (aB r).2.1).2.1).2
   have k5 := iV 44 (yS (aA 44 (zx off (aB r).2.1).2.1).2).2.1
   simp only [Bool.not_false, cond_true]
   rw [RI n r bad (by omega) (by omega)]
   simp only [Option.bind_some]
   rw [zF, sU, VB, Option.bind_some]
   have ho : ∀ (K : Int → Str → Bool → Option (Str × Str × Int × Int × Int × Int × Int × Int × Int × Int × Int × Int × Int × Int × Str × Bool × Str × Str × Int × Int × Int × Int × Int × Int × Int × Int × Int × Int × Int × Int)) (b' : Bool), -5000000 < off → off < 5000000 →
    cond (!decide ((aB r).2.1.head? = some 44)) ((bv n (24 : Int) (aB r).2.1 b').bind fun o49 => K (IntKind.i64.wrap (0 - o49.1)) o49.2.1 o49.2.2) (K (IntKind.i64.wrap (off + 3600)) (aB r).2.1 b')
    = K (zx off (aB r).2.1).1 (zx off (aB r).2.1).2.1 (b' || (zx off (aB r).2.1).2.2) := by
    intro K b' hlo hhi
    unfold zx
    have hl := K7 24 (aB r).2.1
    by_cases hc : (aB r).2.1.head? = some 44
    ·rw [decide_eq_true hc, if_pos hc, wi (off + 3600) (by omega) (by omega)]
     simp
    ·rw [decide_eq_false hc, if_neg hc]
     rw [show (bv n (24 : Int) (aB r).2.1 b') = _ from Oe n 24 _ _ (by omega) (by omega)]
     simp only [Option.bind_some, Bool.not_false, cond_true]
     rw [wi _ (by omega) (by omega), Int.zero_sub]
   have ho' := ho (fun x t b => some (([] : Str), ([] : Str), 0, 0, 0, 0, 0, 0, 0, 0, 0, 0, 0, 0, t, b, (aB s).1, (aB r).1, off, x, 0, 0, 0, 0, 0, 0, 0, 0, 0, 0)) (bad || (aB r).2.2) (by omega) (by omega)
   rw [ho']
   simp only [Option.bind_some]
   rw [KI n 44 44]
   simp only [Option.bind_some]
   rw [WJ n _ _ (by omega) (by omega)]
   simp only [Option.bind_some]
   rw [KI n 44 44]
   simp only [Option.bind_some]
   rw [WJ n _ _ (by omega) (by omega)]
   simp only [Option.bind_some]
   exact fin (JR (aB s).1 off r bad).1 (JR (aB s).1 off r bad).2.1 (JR (aB s).1 off r bad).2.2 (by show (aB s).1.length ≤ 200; omega) (by show (aB r).1.length ≤ 200; omega)
theorem VC : uB [] = false := rfl
theorem XY (r : Str) (h : (aB r).2.2 = false) : uB (aB r).1 = true := by
 unfold aB at h ⊢
 dsimp only at h ⊢
 split at h
 ·rename_i he; rw [if_pos he]; dsimp only at h ⊢; simp only [Bool.or_eq_false_iff, Bool.not_eq_eq_eq_not, Bool.not_false] at h; exact h.2
 ·rename_i he; rw [if_neg he]; dsimp only at h ⊢; simpa using h
end Go.Proofs.YtiegmpnagcdgoaaGreatDoor.H
namespace Go.Proofs.YtiegmpnagcdgoaaGreatDoor.H
open Go.Sh Go.RowKit
set_option linter.unusedSimpArgs false
set_option linter.unusedVariables false
theorem KL (n : Nat) (b : UInt8) : iC n (b.toNat : Int) = some (jH b) := by
 have h := GL (p := fun x => iC 0 (x : Int) = some (jH (UInt8.ofNat x))) (by decide +kernel) b
 rw [UInt8.ofNat_toNat] at h
 exact h
theorem Mv (n : Nat) (b : UInt8) : gD n (b.toNat : Int) = some (fC b) := by
 have h := GL (p := fun x => gD 0 (x : Int) = some (fC (UInt8.ofNat x))) (by decide +kernel) b
 rw [UInt8.ofNat_toNat] at h
 exact h
theorem Qn (n : Nat) (s : Str) (hs : s.length < 9223372036854775808) : ∀ (m i : Nat), s.length - i < m →
 gF n m s (i : Int) = some (if (s.drop i).all JQ = true then Sum.inr () else Sum.inl ())
 | 0, i, hm => by omega
 | m + 1, i, hm => by
  rw [gF, jW, qy, jV]
  cases hd : s.drop i with
  | nil =>
   have := drop_nil hd
   rw [ah (by omega)]
   simp
  | cons c r =>
   obtain ⟨h1, h2, h3⟩ := jJ hd
   rw [aa (by omega)]
   simp only [aa (show (0 : Int) ≤ (i : Int) by omega), Int.toNat_natCast, h1, Option.bind_some, KL, Mv]
   have e43 : ((c.toNat : Int) != 43) = (c != 43) := KH c 43
   have e45 : ((c.toNat : Int) != 45) = (c != 45) := KH c 45
   rw [e43, e45, vJ i (by omega), Qn n s hs m (i + 1) (by omega), h2]
   have hn : JQ c = (jH c || fC c || c == 43 || c == 45) := rfl
   simp only [List.all_cons, hn, bne]
   generalize jH c = v1, fC c = v2, (c == 43) = v3, (c == 45) = v4, r.all JQ = v5
   cases v1 <;> cases v2 <;> cases v3 <;> cases v4 <;> cases v5 <;> rfl
theorem Jv (n : Nat) (s : Str) (hs : s.length < 9223372036854775808) (hn : s.length < n) : gX n s = some (uB s) := by
 unfold gX nE uB
 rw [show (0 : Int) = ((0 : Nat) : Int) from rfl, Qn n s hs n 0 (by omega), List.drop_zero]
 cases h : s.all JQ with
 | false => simp
 | true =>
  simp only [Option.bind_some, if_true, Sum.elim_inr]
  rw [NA, Bool.and_true]
  have e1 : decide ((s.length : Int) ≥ (3 : Int)) = decide (3 ≤ s.length) := by rw [decide_eq_decide]; omega
  have e2 : decide ((s.length : Int) ≤ (10 : Int)) = decide (s.length ≤ 10) := by rw [decide_eq_decide]; omega
  rw [e1, e2]
theorem Og (n : Nat) (k m w d t : Int) : iI n k m w d t = some (rD ⟨k, m, w, d, t⟩) := by
 unfold iI oK rJ kG rD GM
 by_cases h1 : t < -604799
 ·rw [aa h1]
  have : ¬ (-604799 ≤ t) := by omega
  simp [this]
 ·rw [ah h1]
  by_cases h2 : t > 604799
  ·have : ¬ (t ≤ 604799) := by omega
   simp [h2, this]
  ·have e1 : -604799 ≤ t := by omega
   have e2 : t ≤ 604799 := by omega
   simp only [h2, decide_false, Option.bind_some, cond_false, Ll, NA, e1, e2, decide_true, Bool.true_and, ge_iff_le, Bool.and_assoc]
   by_cases k1 : k = 1
   ·simp [k1]
   ·by_cases k2 : k = 2
    ·simp [k2]
    ·by_cases k3 : k = 3
     ·simp [k3]
     ·rw [decide_eq_false k1, decide_eq_false k2, decide_eq_false k3]
      simp [k1, k2, k3]
theorem Uz (n : Nat) (x : Int) : oM n x = some (GM x 89999) := by
 unfold oM oL GM
 rw [NA]
theorem rright_val (n : Nat) (std dst : Str) (off doff k m w d t k' m' w' d' t' : Int) (hs : std.length < 9223372036854775808) (hn : std.length < n) (hs' : dst.length < 9223372036854775808) (hn' : dst.length < n) :
 jd n std dst off doff k m w d t k' m' w' d' t' = some (fE ⟨std, dst, off, doff, ⟨k, m, w, d, t⟩, ⟨k', m', w', d', t'⟩⟩) := by
 unfold jd lN fE
 rw [pJ, jq, Jv n std hs hn]
 simp only [Option.bind_some]
 cases uB std with
 | false => simp
 | true =>
  simp only [Bool.not_true, cond_false, Bool.true_and, Uz, Option.bind_some]
  cases GM off 89999 with
  | false => simp
  | true =>
   simp only [Bool.not_true, cond_false, Bool.true_and]
   by_cases hd : dst = []
   ·subst hd
    rw [pK, jr]
    have z : ∀ k m w d t : Int, ((k == 0) && ((m == 0) && ((w == 0) && ((d == 0) && ((t == 0) && true))))) = Qm ⟨k, m, w, d, t⟩ := fun k m w d t => by simp [Qm, Bool.and_assoc]
    simp only [beq_self_eq_true, cond_true, if_true, z]
    cases doff == 0 <;> cases Qm ⟨k, m, w, d, t⟩ <;> cases Qm ⟨k', m', w', d', t'⟩ <;> rfl
   ·have : (dst == ([] : Str)) = false := by simpa using hd
    rw [this, cond_false, Jv n dst hs' hn', if_neg hd]
    simp only [Option.bind_some, Uz, Og, RL, Bool.and_assoc]
end Go.Proofs.YtiegmpnagcdgoaaGreatDoor.H
namespace Go.Proofs.YtiegmpnagcdgoaaGreatDoor.H
open Go.Sh Go.RowKit
set_option linter.unusedSimpArgs false
set_option linter.unusedVariables false
def At (s r : Str) (i : Int) : Prop := r <:+ s ∧ i = ((s.length - r.length : Nat) : Int)
theorem At.nil {s : Str} {i : Int} (h : At s [] i) : i = (s.length : Int) := by simpa [At] using h.2
theorem At.le {s r : Str} {i : Int} (h : At s r i) : r.length ≤ s.length := h.1.length_le
theorem At.cons {s r : Str} {c : UInt8} {i : Int} (h : At s (c :: r) i) : ∃ k : Nat, i = (k : Int) ∧ k < s.length ∧ s[k]? = some c ∧ At s r ((k + 1 : Nat) : Int) := by
 obtain ⟨⟨p, hp⟩, hi⟩ := h
 subst hp
 refine ⟨p.length, ?_, ?_, ?_, ⟨⟨p ++ [c], by simp⟩, ?_⟩⟩
 ·rw [hi]; simp
 ·simp
 ·simp
 ·simp [List.length_append]; omega
theorem At.start (s : Str) : At s s 0 := ⟨List.suffix_refl s, by simp⟩
theorem At.part {s m r : Str} {i j : Int} (h : At s (m ++ r) i) (h2 : At s r j) : (s.take j.toNat).drop i.toNat = m := by
 obtain ⟨⟨p, hp⟩, hi⟩ := h
 subst hp
 have hj := h2.2
 subst hi hj
 simp only [Int.toNat_natCast]
 have e1 : (p ++ (m ++ r)).length - r.length = (p ++ m).length := by simp only [List.length_append]; omega
 have e2 : (p ++ (m ++ r)).length - (m ++ r).length = p.length := by simp only [List.length_append]; omega
 rw [e1, e2, ← List.append_assoc, List.take_left, List.drop_left]
theorem At.drop {s r : Str} {i : Int} (h : At s r i) (k : Nat) (hk : k ≤ r.length) : At s (r.drop k) (i + k) := by
 obtain ⟨h1, h2⟩ := h
 refine ⟨(List.drop_suffix k r).trans h1, ?_⟩
 have := h1.length_le
 rw [h2, List.length_drop]
 omega
theorem At.le2 {s r : Str} {i : Int} (h : At s r i) : 0 ≤ i ∧ i ≤ (s.length : Int) := by
 have := h.le
 rw [h.2]
 omega
theorem At.num {s r : Str} {i : Int} (h : At s r i) : i = (s.length : Int) - (r.length : Int) := by
 have := h.le
 rw [h.2]
 omega
def ND : Str → Int
 | [] => 0
 | c :: _ => (c.toNat : Int)
theorem NE (n : Nat) {s r : Str} {i : Int} (h : At s r i) (b : Bool) : bS n s i b = some (ND r, s, i, b) := by
 unfold bS gK
 cases r with
 | nil => rw [h.nil, ah (by omega)]; rfl
 | cons c r =>
  obtain ⟨k, rfl, h1, h2, h3⟩ := h.cons
  rw [aa (by omega), aa (by omega), Int.toNat_natCast, h2]
  rfl
theorem Cj (n : Nat) (a : Int) (c : UInt8) {s r : Str} {i : Int} (h : At s r i) (b : Bool) (hs : s.length < 9223372036854775808) (ha : a = (c.toNat : Int) := by rfl) :
 ∃ j, aG n a s i b = some ((aA c r).1, s, j, b) ∧ At s (aA c r).2 j := by
 subst ha
 unfold aG ic ko eQ
 cases r with
 | nil =>
  have := h.nil
  rw [aa (by omega)]
  exact ⟨i, rfl, h⟩
 | cons x r =>
  obtain ⟨k, rfl, h1, h2, h3⟩ := h.cons
  rw [ah (by omega), aa (by omega), Int.toNat_natCast, h2]
  simp only [Option.bind_some, KH]
  by_cases hx : x = c
  ·subst hx
   refine ⟨((k + 1 : Nat) : Int), ?_, by simpa [aA] using h3⟩
   rw [vJ k (by omega)]
   simp [aA]
  ·refine ⟨k, ?_, by simpa [aA, hx] using h⟩
   rw [show (x != c) = true by simpa using hx]
   simp [aA, hx]
theorem IV (n : Nat) (a : Int) (c : UInt8) {s r : Str} {i : Int} (h : At s r i) (b : Bool) (hs : s.length < 9223372036854775808) (ha : a = (c.toNat : Int) := by rfl) :
 ∃ j, bn n a s i b = some (s, j, b || !(aA c r).1) ∧ At s (aA c r).2 j := by
 obtain ⟨j, h1, h2⟩ := Cj n a c h b hs ha
 refine ⟨j, ?_, h2⟩
 unfold bn gJ
 rw [h1]
 cases he : (aA c r).1 <;> cases b <;> simp [he]
theorem RN (p : UInt8 → Bool) (r : Str) : ky p r.length r = r.takeWhile p := by simp [ky]
theorem Qo (p : UInt8 → Bool) (k : Nat) (r : Str) : ky p k r ++ r.drop (ky p k r).length = r := by
 conv => rhs; rw [← List.take_append_drop (ky p k r).length r]
 rw [K6]
theorem RO (n : Nat) (s : Str) (b : Bool) (hs : s.length < 9223372036854775808) : ∀ (m : Nat) (r : Str) (i : Int), r.length < m → At s r i →
 bG n m s i b = some (s, i + ((r.takeWhile xA).length : Int), b)
 | 0, r, i, hm, _ => by omega
 | m + 1, r, i, hm, h => by
  rw [bG, eB, jE, ek]
  cases r with
  | nil =>
   have := h.nil
   rw [ah (by omega)]
   simp
  | cons c r =>
   obtain ⟨k, rfl, h1, h2, h3⟩ := h.cons
   simp only [List.length_cons] at hm
   rw [aa (by omega), aa (by omega), Int.toNat_natCast, h2]
   have e : ((c.toNat : Int) != 62) = xA c := KH c 62
   simp only [Option.bind_some, e]
   cases hc : xA c with
   | false => rw [List.takeWhile_cons_of_neg (by simp [hc])]; simp
   | true =>
    rw [List.takeWhile_cons_of_pos (by simp [hc]), cond_true, vJ k (by omega), RO n s b hs m r _ (by omega) h3]
    refine congrArg some (Prod.ext rfl (Prod.ext ?_ rfl))
    simp only [List.length_cons]
    omega
theorem OO (n : Nat) (s : Str) (b : Bool) (hs : s.length < 9223372036854775808) : ∀ (m : Nat) (r : Str) (i : Int), r.length < m → At s r i →
 bH n m s i b = some (s, i + ((r.takeWhile jH).length : Int), b)
 | 0, r, i, hm, _ => by omega
 | m + 1, r, i, hm, h => by
  rw [bH, eF, NE n h]
  cases r with
  | nil =>
   simp only [Option.bind_some, ND]
   rw [show iC n 0 = some false from KL n 0]
   simp
  | cons c r =>
   obtain ⟨k, rfl, h1, h2, h3⟩ := h.cons
   simp only [List.length_cons] at hm
   simp only [Option.bind_some, ND, KL]
   cases hc : jH c with
   | false => rw [List.takeWhile_cons_of_neg (by simp [hc])]; simp
   | true =>
    rw [List.takeWhile_cons_of_pos (by simp [hc]), cond_true, vJ k (by omega), OO n s b hs m r _ (by omega) h3]
    refine congrArg some (Prod.ext rfl (Prod.ext ?_ rfl))
    simp only [List.length_cons]
    omega
theorem IW (n : Nat) {s r : Str} {i : Int} (h : At s r i) (b : Bool) (hs : s.length < 9223372036854775808) (hn : s.length < n) :
 ∃ j, gM n s i b = some ((aB r).1, s, j, b || (aB r).2.2) ∧ At s (aB r).2.1 j := by
 obtain ⟨j, h1, h2⟩ := Cj n 60 60 h b hs
 have hle := h.le
 have hl := iV 60 r
 unfold gM gL aB
 rw [h1]
 simp only [Option.bind_some]
 cases he : (aA 60 r).1 with
 | true =>
  simp only [cond_true, if_true]
  have hr := yn xA (aA 60 r).2.length (aA 60 r).2
  rw [RO n s b hs n _ _ (by omega) h2]
  rw [← RN]
  generalize hw : ky xA (aA 60 r).2.length (aA 60 r).2 = w at *
  have h3 := h2.drop w.length (by omega)
  have b2 := h2.le2
  have b3 := h3.le2
  simp only [Option.bind_some]
  rw [aa (by omega), aa (by omega), aa (by omega), aa (by omega)]
  obtain ⟨q, h4, h5⟩ := IV n 62 62 h3 b hs
  rw [h4]
  simp only [Option.bind_some]
  have hsp : w ++ (aA 60 r).2.drop w.length = (aA 60 r).2 := by rw [← hw]; exact Qo _ _ _
  rw [At.part (by rw [hsp]; exact h2) h3]
  rw [jF, eD, Jv n w (by omega) (by omega)]
  refine ⟨q, ?_, h5⟩
  cases b <;> cases (aA 62 ((aA 60 r).2.drop w.length)).1 <;> rfl
 | false =>
  have hz : (aA 60 r).2 = r ∧ j = i := by
   have hr : (aA 60 r).2 = r := by
    cases r with
    | nil => rfl
    | cons x r => by_cases hx : x = 60 <;> simp_all [aA]
   rw [hr] at h2
   exact ⟨hr, by rw [h2.2, h.2]⟩
  obtain ⟨hz1, rfl⟩ := hz
  simp only [cond_false, Bool.false_eq_true, if_false, hz1]
  have hr := yn jH r.length r
  rw [OO n s b hs n _ _ (by omega) h]
  rw [← RN]
  generalize hw : ky jH r.length r = w at *
  have h3 := h.drop w.length (by omega)
  have b2 := h.le2
  have b3 := h3.le2
  simp only [Option.bind_some]
  rw [aa (by omega), aa (by omega), aa (by omega), aa (by omega)]
  have hsp : w ++ r.drop w.length = r := by rw [← hw]; exact Qo _ _ _
  rw [At.part (by rw [hsp]; exact h) h3, Jv n w (by omega) (by omega)]
  refine ⟨_, ?_, h3⟩
  cases b <;> rfl
end Go.Proofs.YtiegmpnagcdgoaaGreatDoor.H
namespace Go.Proofs.YtiegmpnagcdgoaaGreatDoor.H
open Go.Sh Go.RowKit
set_option linter.unusedSimpArgs false
set_option linter.unusedVariables false
theorem RP (n : Nat) (s : Str) (b : Bool) (most : Nat) (hm3 : most ≤ 3) (hs : s.length < 9223372036854775808) : ∀ (m : Nat) (r d : Str) (i : Int), most - d.length < m → d.length ≤ most → d.all fC = true → At s r i →
 ∃ j, aS n m (most : Int) (Lj d : Int) (d.length : Int) s i b = some (((Lj (d ++ ky fC (most - d.length) r) : Nat) : Int), (((d ++ ky fC (most - d.length) r).length : Nat) : Int), s, j, b) ∧ At s (r.drop (ky fC (most - d.length) r).length) j
 | 0, r, d, i, hm, _, _, _ => by omega
 | m + 1, r, d, i, hm, hl, hd, h => by
  rw [aS, dF, iE, dE]
  by_cases hx : d.length < most
  ·rw [aa (by omega), NE n h]
   simp only [Option.bind_some]
   obtain ⟨k, hk⟩ : ∃ k, most - d.length = k + 1 := ⟨most - d.length - 1, by omega⟩
   cases r with
   | nil =>
    rw [show gD n (ND []) = some false from Mv n 0]
    refine ⟨i, ?_, by simpa [ky] using h⟩
    simp [ky]
   | cons c r =>
    obtain ⟨q, rfl, h1, h2, h3⟩ := h.cons
    rw [show gD n (ND (c :: r)) = some (fC c) from Mv n c]
    simp only [Option.bind_some]
    cases hc : fC c with
    | false =>
     have hr : ky fC (most - d.length) (c :: r) = [] := by rw [hk, ky, List.take_succ_cons, List.takeWhile_cons_of_neg (by simp [hc])]
     rw [hr]
     refine ⟨_, ?_, by simpa using h⟩
     simp
    | true =>
     have hr : ky fC (most - d.length) (c :: r) = c :: ky fC k r := by rw [hk, ky, List.take_succ_cons, List.takeWhile_cons_of_pos (by simp [hc])]; rfl
     rw [hr, cond_true, NE n h]
     simp only [Option.bind_some, ND]
     have hv := Te d (by omega) hd
     have hv3 : (10 : Nat) ^ d.length ≤ 10 ^ 3 := Nat.pow_le_pow_right (by omega) (by omega)
     have hcd := (Mt c).1 hc
     have e1 : IntKind.i64.wrap (IntKind.i64.wrap (IntKind.i64.wrap (10 * (Lj d : Int)) + IntKind.i64.wrap (c.toNat : Int)) - 48) = ((Lj (d ++ [c]) : Nat) : Int) := by
      rw [wi (10 * _) (by omega) (by omega), wi (c.toNat : Int) (by omega) (by omega), wi (_ + _) (by omega) (by omega), wi (_ - _) (by omega) (by omega), XW]
      omega
     have e2 : IntKind.i64.wrap ((d.length : Int) + 1) = (((d ++ [c]).length : Nat) : Int) := by rw [vJ _ (by omega), List.length_append]; rfl
     rw [e1, e2, vJ q (by omega)]
     have hl2 : (d ++ [c]).length = d.length + 1 := by simp
     obtain ⟨j, h4, h5⟩ := RP n s b most hm3 hs m r (d ++ [c]) _ (by omega) (by omega) (by simp [hd, hc]) h3
     rw [hl2, show most - (d.length + 1) = k by omega, ← hl2] at h4
     rw [hl2, show most - (d.length + 1) = k by omega] at h5
     refine ⟨j, ?_, by simpa using h5⟩
     rw [h4]
     simp
  ·rw [ah (by omega)]
   have hz : most - d.length = 0 := by omega
   refine ⟨i, ?_, by simpa [hz, ky] using h⟩
   simp [hz, ky]
theorem Hu (n a b : Nat) (ha : a ≤ 3) (hb : b ≤ 3) {s r : Str} {i : Int} (h : At s r i) (bad : Bool) (hs : s.length < 9223372036854775808) (hn : 5 < n) :
 ∃ j, au n (a : Int) (b : Int) s i bad = some (((dA a b r).1 : Int), s, j, bad || (dA a b r).2.2) ∧ At s (dA a b r).2.1 j := by
 obtain ⟨j, h1, h2⟩ := RP n s bad b hb hs n r [] i (by simp; omega) (by simp) (by simp) h
 unfold au eT
 simp only [List.length_nil, Nat.sub_zero, List.nil_append] at h1 h2
 rw [show (0 : Int) = ((Lj [] : Nat) : Int) from rfl]
 change ∃ j, ((aS n n (b : Int) ((Lj [] : Nat) : Int) ((0 : Nat) : Int) s i bad).bind _) = _ ∧ _
 rw [h1]
 refine ⟨j, ?_, h2⟩
 have hd : decide ((((ky fC b r).length : Nat) : Int) < (a : Int)) = decide ((ky fC b r).length < a) := by rw [decide_eq_decide]; omega
 simp only [Option.bind_some, dA, hd]
 cases bad <;> rfl
theorem XZ (n : Nat) {s r : Str} {i : Int} (h : At s r i) (b : Bool) (hs : s.length < 9223372036854775808) :
 ∃ j, eU n 1 s i b = some ((vw r).1, s, j, b) ∧ At s (vw r).2 j := by
 unfold eU dL vw
 obtain ⟨j, h1, h2⟩ := Cj n 45 45 h b hs
 rw [h1]
 simp only [Option.bind_some]
 cases he : (aA 45 r).1 with
 | true => exact ⟨j, rfl, h2⟩
 | false =>
  obtain ⟨q, h3, h4⟩ := Cj n 43 43 h2 b hs
  simp only [cond_false]
  rw [h3]
  exact ⟨q, rfl, h4⟩
theorem Mw (n most : Nat) {s r : Str} {i : Int} (h : At s r i) (b : Bool) (hs : s.length < 9223372036854775808) (hn : 5 < n) :
 ∃ j, aJ n (most : Int) s i b = some ((dH most r).1, s, j, b || (dH most r).2.2) ∧ At s (dH most r).2.1 j := by
 unfold aJ fI dH
 obtain ⟨j1, h1, a1⟩ := XZ n h b hs
 rw [h1]
 simp only [Option.bind_some]
 obtain ⟨j2, h2, a2⟩ := Hu n 1 3 (by omega) (by omega) a1 b hs hn
 rw [show au n (1 : Int) (3 : Int) s j1 b = _ from h2]
 simp only [Option.bind_some]
 have l2 := Fw 1 3 (vw r).2 (by omega)
 generalize dA 1 3 (vw r).2 = hh at *
 rw [jb, dM]
 unfold minS
 obtain ⟨j3, h3, a3⟩ := Cj n 58 58 a2 (b || hh.2.2) hs
 rw [h3]
 simp only [Option.bind_some]
 have sg := Ql r
 have fin : ∀ (m sc : Nat) (bad : Bool) (j : Int), m < 1000 → sc < 1000 →
  ((eX n (most : Int) (hh.1 : Int) (m : Int) (sc : Int) s j bad).bind fun o127 => some (IntKind.i64.wrap ((vw r).1 * (IntKind.i64.wrap ((IntKind.i64.wrap ((IntKind.i64.wrap ((3600 : Int) * (hh.1 : Int))) + (IntKind.i64.wrap ((60 : Int) * (m : Int))))) + (sc : Int)))), o127.1, o127.2.1, o127.2.2))
  = some ((vw r).1 * (3600 * (hh.1 : Int) + (60 * (m : Int) + (sc : Int))), s, j, bad || decide (most < hh.1) || decide (60 ≤ m) || decide (60 ≤ sc)) := by
  intro m sc bad j hm hsc
  rw [eX, dN]
  have e1 : decide ((hh.1 : Int) > (most : Int)) = decide (most < hh.1) := by rw [decide_eq_decide]; omega
  have e2 : decide ((m : Int) > (59 : Int)) = decide (60 ≤ m) := by rw [decide_eq_decide]; omega
  have e3 : decide ((sc : Int) > (59 : Int)) = decide (60 ≤ sc) := by rw [decide_eq_decide]; omega
  rw [e1, e2, e3, wi (3600 * _) (by omega) (by omega), wi (60 * _) (by omega) (by omega), wi (3600 * (hh.1 : Int) + _) (by omega) (by omega), wi (3600 * (hh.1 : Int) + _ + _) (by omega) (by omega)]
  have e4 : IntKind.i64.wrap ((vw r).1 * (3600 * (hh.1 : Int) + 60 * (m : Int) + (sc : Int))) = (vw r).1 * (3600 * (hh.1 : Int) + (60 * (m : Int) + (sc : Int))) := by
   rcases sg with g | g <;> rw [g, wi _ (by omega) (by omega)] <;> omega
  rw [e4]
  cases bad <;> cases decide (most < hh.1) <;> cases decide (60 ≤ m) <;> cases decide (60 ≤ sc) <;> rfl
 cases he : (aA 58 hh.2.1).1 with
 | false =>
  simp only [cond_false, Bool.false_eq_true, if_false, Option.bind_some]
  refine ⟨j3, ?_, a3⟩
  rw [show (0 : Int) = ((0 : Nat) : Int) from rfl, fin 0 0 _ _ (by omega) (by omega)]
  simp [Bool.or_assoc]
 | true =>
  simp only [cond_true, if_true]
  obtain ⟨j4, h4, a4⟩ := Hu n 2 2 (by omega) (by omega) a3 (b || hh.2.2) hs hn
  rw [show au n (2 : Int) (2 : Int) s j3 (b || hh.2.2) = _ from h4]
  simp only [Option.bind_some]
  have l4 := Fw 2 2 (aA 58 hh.2.1).2 (by omega)
  generalize dA 2 2 (aA 58 hh.2.1).2 = mm at *
  obtain ⟨j5, h5, a5⟩ := Cj n 58 58 a4 (b || hh.2.2 || mm.2.2) hs
  rw [h5]
  simp only [Option.bind_some]
  cases hf : (aA 58 mm.2.1).1 with
  | false =>
   simp only [cond_false, Bool.false_eq_true, if_false, Option.bind_some]
   refine ⟨j5, ?_, a5⟩
   rw [show (0 : Int) = ((0 : Nat) : Int) from rfl, fin mm.1 0 _ _ l4 (by omega)]
   cases b <;> cases hh.2.2 <;> cases mm.2.2 <;> cases decide (most < hh.1) <;> cases decide (60 ≤ mm.1) <;> simp
  | true =>
   simp only [cond_true, if_true]
   obtain ⟨j6, h6, a6⟩ := Hu n 2 2 (by omega) (by omega) a5 (b || hh.2.2 || mm.2.2) hs hn
   rw [show au n (2 : Int) (2 : Int) s j5 (b || hh.2.2 || mm.2.2) = _ from h6]
   simp only [Option.bind_some]
   have l6 := Fw 2 2 (aA 58 mm.2.1).2 (by omega)
   generalize dA 2 2 (aA 58 mm.2.1).2 = ss at *
   refine ⟨j6, ?_, a6⟩
   rw [fin mm.1 ss.1 _ _ l4 l6]
   cases b <;> cases hh.2.2 <;> cases mm.2.2 <;> cases ss.2.2 <;> cases decide (most < hh.1) <;> cases decide (60 ≤ mm.1) <;> cases decide (60 ≤ ss.1) <;> rfl
theorem UA (n : Nat) {s r : Str} {i : Int} (h : At s r i) (b : Bool) (hs : s.length < 9223372036854775808) (hn : 5 < n) :
 ∃ j, il n s i b = some ((yS r).1.k, (yS r).1.m, (yS r).1.w, (yS r).1.d, (yS r).1.t, s, j, b || (yS r).2.2 || !rD (yS r).1) ∧ At s (yS r).2.1 j := by
 have num : ∀ {r : Str} {i : Int} (h : At s r i) (bad : Bool), ∃ j, au n (1 : Int) (3 : Int) s i bad = some (((dA 1 3 r).1 : Int), s, j, bad || (dA 1 3 r).2.2) ∧ At s (dA 1 3 r).2.1 j := fun h bad => Hu n 1 3 (by omega) (by omega) h bad hs hn
 have tail : ∀ (k m w : Int) (r : Str) (d : Nat) (i : Int) (bad bad0 : Bool) (dd : Nat × Str × Bool), dd = dA 1 3 r → At s dd.2.1 i →
  ∃ j, ((gN n s i (b || bad || dd.2.2) 0 0 0 0 0 k m w dd.1 7200).bind fun o147 => cond o147.2.2.1 (some (o147.2.2.2.2.2.2.2.2.1, o147.2.2.2.2.2.2.2.2.2.1, o147.2.2.2.2.2.2.2.2.2.2.1, o147.2.2.2.2.2.2.2.2.2.2.2.1, o147.2.2.2.2.2.2.2.2.2.2.2.2, o147.1, o147.2.1, true)) ((iI n o147.2.2.2.2.2.2.2.2.1 o147.2.2.2.2.2.2.2.2.2.1 o147.2.2.2.2.2.2.2.2.2.2.1 o147.2.2.2.2.2.2.2.2.2.2.2.1 o147.2.2.2.2.2.2.2.2.2.2.2.2).bind fun o149 => some (o147.2.2.2.2.2.2.2.2.1, o147.2.2.2.2.2.2.2.2.2.1, o147.2.2.2.2.2.2.2.2.2.2.1, o147.2.2.2.2.2.2.2.2.2.2.2.1, o147.2.2.2.2.2.2.2.2.2.2.2.2, o147.1, o147.2.1, !o149)))
  = some ((nk k m w r bad).1.k, (nk k m w r bad).1.m, (nk k m w r bad).1.w, (nk k m w r bad).1.d, (nk k m w r bad).1.t, s, j, b || (nk k m w r bad).2.2 || !rD (nk k m w r bad).1) ∧ At s (nk k m w r bad).2.1 j := by
  intro k m w r d i bad bad0 dd hdd a
  subst hdd
  unfold nk
  rw [gN, eZ]
  obtain ⟨j1, h1, a1⟩ := Cj n 47 47 a (b || bad || (dA 1 3 r).2.2) hs
  rw [h1]
  simp only [Option.bind_some]
  cases he : (aA 47 (dA 1 3 r).2.1).1 with
  | true =>
   obtain ⟨j2, h2, a2⟩ := Mw n 167 a1 (b || bad || (dA 1 3 r).2.2) hs hn
   simp only [cond_true, if_true]
   rw [show aJ n (167 : Int) s j1 (b || bad || (dA 1 3 r).2.2) = _ from h2]
   simp only [Option.bind_some, Og]
   refine ⟨j2, ?_, a2⟩
   generalize rD _ = ok
   cases b <;> cases bad <;> cases (dA 1 3 r).2.2 <;> cases (dH 167 (aA 47 (dA 1 3 r).2.1).2).2.2 <;> cases ok <;> rfl
  | false =>
   simp only [cond_false, Bool.false_eq_true, if_false, Option.bind_some, Og]
   refine ⟨j1, ?_, a1⟩
   generalize rD _ = ok
   cases b <;> cases bad <;> cases (dA 1 3 r).2.2 <;> cases ok <;> rfl
 unfold il ik yS
 rw [kr, eY]
 obtain ⟨j1, h1, a1⟩ := Cj n 74 74 h b hs
 rw [h1]
 simp only [Option.bind_some]
 cases he : (aA 74 r).1 with
 | true =>
  obtain ⟨j2, h2, a2⟩ := num a1 b
  simp only [cond_true, if_true]
  rw [h2]
  simp only [Option.bind_some]
  have := tail 1 0 0 _ 0 j2 false false _ rfl a2
  rw [Bool.or_false] at this
  exact this
 | false =>
  simp only [cond_false, Bool.false_eq_true, if_false]
  obtain ⟨j2, h2, a2⟩ := Cj n 77 77 a1 b hs
  rw [h2]
  simp only [Option.bind_some]
  cases hf : (aA 77 (aA 74 r).2).1 with
  | false =>
   obtain ⟨j3, h3, a3⟩ := num a2 b
   simp only [cond_false, Bool.false_eq_true, if_false]
   rw [h3]
   simp only [Option.bind_some]
   have := tail 2 0 0 _ 0 j3 false false _ rfl a3
   rw [Bool.or_false] at this
   exact this
  | true =>
   simp only [cond_true, if_true]
   obtain ⟨j3, h3, a3⟩ := num a2 b
   rw [h3]
   simp only [Option.bind_some]
   obtain ⟨j4, h4, a4⟩ := IV n 46 46 a3 (b || (dA 1 3 (aA 77 (aA 74 r).2).2).2.2) hs
   rw [h4]
   simp only [Option.bind_some]
   obtain ⟨j5, h5, a5⟩ := num a4 (b || (dA 1 3 (aA 77 (aA 74 r).2).2).2.2 || !(aA 46 (dA 1 3 (aA 77 (aA 74 r).2).2).2.1).1)
   rw [h5]
   simp only [Option.bind_some]
   obtain ⟨j6, h6, a6⟩ := IV n 46 46 a5 (b || (dA 1 3 (aA 77 (aA 74 r).2).2).2.2 || !(aA 46 (dA 1 3 (aA 77 (aA 74 r).2).2).2.1).1 || (dA 1 3 (aA 46 (dA 1 3 (aA 77 (aA 74 r).2).2).2.1).2).2.2) hs
   rw [h6]
   simp only [Option.bind_some]
   obtain ⟨j7, h7, a7⟩ := num a6 (b || (dA 1 3 (aA 77 (aA 74 r).2).2).2.2 || !(aA 46 (dA 1 3 (aA 77 (aA 74 r).2).2).2.1).1 || (dA 1 3 (aA 46 (dA 1 3 (aA 77 (aA 74 r).2).2).2.1).2).2.2 || !(aA 46 (dA 1 3 (aA 46 (dA 1 3 (aA 77 (aA 74 r).2).2).2.1).2).2.1).1)
   rw [h7]
   simp only [Option.bind_some]
   have := tail 3 (dA 1 3 (aA 77 (aA 74 r).2).2).1 (dA 1 3 (aA 46 (dA 1 3 (aA 77 (aA 74 r).2).2).2.1).2).1 _ 0 j7 ((dA 1 3 (aA 77 (aA 74 r).2).2).2.2 || !(aA 46 (dA 1 3 (aA 77 (aA 74 r).2).2).2.1).1 || (dA 1 3 (aA 46 (dA 1 3 (aA 77 (aA 74 r).2).2).2.1).2).2.2 || !(aA 46 (dA 1 3 (aA 46 (dA 1 3 (aA 77 (aA 74 r).2).2).2.1).2).2.1).1) false _ rfl a7
   simp only [← Bool.or_assoc] at this ⊢
   exact this
end Go.Proofs.YtiegmpnagcdgoaaGreatDoor.H
namespace Go.Proofs.YtiegmpnagcdgoaaGreatDoor.H
open Go.Sh Go.RowKit
set_option linter.unusedSimpArgs false
set_option linter.unusedVariables false
def UB (r : RuleV) (e : Bool) : Str × Str × Int × Int × Int × Int × Int × Int × Int × Int × Int × Int × Int × Int × Bool := (r.std, r.dst, r.off, r.doff, r.a.k, r.a.m, r.a.w, r.a.d, r.a.t, r.b.k, r.b.m, r.b.w, r.b.d, r.b.t, e)
theorem VD (n : Nat) (s : Str) (hn : 200 < n) : qz n s = some (match JS s with | some r => UB r true | none => UB .zero false) := by
 unfold qz lQ JS
 by_cases h100 : 100 < s.length
 ·rw [aa (by omega), if_pos h100]; rfl
 ·rw [ah (by omega), if_neg h100]
  have h1 := Od s
  have h1' := Ju s
  have h2 := Jt 24 (aB s).2.1
  have h2' := K7 24 (aB s).2.1
  obtain ⟨j1, k1, a1⟩ := IW n (At.start s) false (by omega) (by omega)
  rw [k1]
  simp only [Option.bind_some, Bool.false_or]
  obtain ⟨j2, k2, a2⟩ := Mw n 24 a1 (aB s).2.2 (by omega) (by omega)
  rw [show aJ n (24 : Int) s j1 (aB s).2.2 = _ from k2]
  simp only [Option.bind_some]
  rw [wi (0 - (dH 24 (aB s).2.1).1) (by omega) (by omega), Int.zero_sub]
  have fin : ∀ (r : RuleV) (t : Str) (i : Int) (bad bad' : Bool), At s t i → r.std.length ≤ 200 → r.dst.length ≤ 200 → (bad = false → bad' = true → fE r = false) → (bad = true → bad' = true) →
   cond bad' (some (UB .zero false)) (cond (i != (s.length : Int)) (some (UB .zero false)) ((jd n r.std r.dst r.off r.doff r.a.k r.a.m r.a.w r.a.d r.a.t r.b.k r.b.m r.b.w r.b.d r.b.t).bind fun o80 => cond (!o80) (some (UB .zero false)) (some (UB r true))))
   = some (match (if bad = false ∧ t = [] ∧ fE r = true then some r else none) with | some r => UB r true | none => UB .zero false) := by
   intro r t i bad bad' a g1 g2 g3 g4
   rw [rright_val n _ _ _ _ _ _ _ _ _ _ _ _ _ _ (by omega) (by omega) (by omega) (by omega)]
   have hi : (i != (s.length : Int)) = !decide (t = []) := by
    have hnum := a.num
    cases t with
    | nil => simp at hnum; simp [hnum]
    | cons c t =>
     have : ¬ i = (s.length : Int) := by simp only [List.length_cons] at hnum; omega
     simp [this]
   rw [hi]
   cases bad with
   | true => rw [g4 rfl]; simp
   | false =>
    cases bad' with
    | true => rw [g3 rfl rfl]; simp
    | false =>
     cases t with
     | cons c t => simp
     | nil => cases h : fE r <;> simp [h]
  by_cases he : (dH 24 (aB s).2.1).2.1 = []
  ·have hr : NC s = (⟨(aB s).1, [], -(dH 24 (aB s).2.1).1, 0, .zero, .zero⟩, [], (aB s).2.2 || (dH 24 (aB s).2.1).2.2) := by unfold NC; dsimp only; rw [if_pos he]
   rw [he] at a2
   have hj := a2.nil
   rw [kI, gy, kH, gu, ah (by omega)]
   simp only [Option.bind_some, cond_false]
   rw [hr]
   exact fin ⟨(aB s).1, [], -(dH 24 (aB s).2.1).1, 0, .zero, .zero⟩ [] j2 _ _ a2 (by show (aB s).1.length ≤ 200; omega) (by simp) (fun h h' => by cases h.symm.trans h') (fun h => h)
  ·have hr : NC s = JR (aB s).1 (-(dH 24 (aB s).2.1).1) (dH 24 (aB s).2.1).2.1 ((aB s).2.2 || (dH 24 (aB s).2.1).2.2) := by unfold NC; dsimp only; rw [if_neg he]
   have hlt : j2 < (s.length : Int) := by
    have hnum := a2.num
    have : 0 < (dH 24 (aB s).2.1).2.1.length := List.length_pos_iff.2 he
    omega
   rw [kI, gy, kH, gu, aa hlt]
   simp only [Option.bind_some]
   rw [hr]
   have hoff : -5000000 < -(dH 24 (aB s).2.1).1 ∧ -(dH 24 (aB s).2.1).1 < 5000000 := by omega
   generalize ((aB s).2.2 || (dH 24 (aB s).2.1).2.2) = bad at *
   generalize -(dH 24 (aB s).2.1).1 = off at *
   generalize (dH 24 (aB s).2.1).2.1 = r at *
   cases bad with
   | true =>
    simp only [Bool.not_true, cond_false, Option.bind_some, cond_true]
    unfold JR
    simp
    rfl
   | false =>
    simp only [Bool.not_false, cond_true]
    obtain ⟨j3, k3, a3⟩ := IW n a2 false (by omega) (by omega)
    have l3 := Ju r
    rw [k3]
    simp only [Option.bind_some, Bool.false_or]
    rw [pM, jv, NE n a3]
    simp only [Option.bind_some]
    have hhd : (ND (aB r).2.1 != 44) = !decide ((aB r).2.1.head? = some 44) := by
     cases (aB r).2.1 with
     | nil => rfl
     | cons c q =>
      rw [show (ND (c :: q) != 44) = (c != 44) from KH c 44, List.head?_cons]
      by_cases h : c = 44 <;> simp [h]
    have ho : ∀ (K : Int → Str → Int → Bool → Option (Str × Str × Int × Int × Int × Int × Int × Int × Int × Int × Int × Int × Int × Int × Str × Int × Bool × Str × Str × Int × Int × Int × Int × Int × Int × Int × Int × Int × Int × Int × Int)) (b' : Bool),
     ∃ j, cond (ND (aB r).2.1 != 44) ((aJ n (24 : Int) s j3 b').bind fun o49 => K (IntKind.i64.wrap (0 - o49.1)) o49.2.1 o49.2.2.1 o49.2.2.2) (K (IntKind.i64.wrap (off + 3600)) s j3 b')
      = K (zx off (aB r).2.1).1 s j (b' || (zx off (aB r).2.1).2.2) ∧ At s (zx off (aB r).2.1).2.1 j := by
     intro K b'
     unfold zx
     rw [hhd]
     have hl := K7 24 (aB r).2.1
     by_cases hc : (aB r).2.1.head? = some 44
     ·rw [decide_eq_true hc, if_pos hc, wi (off + 3600) (by omega) (by omega)]
      exact ⟨j3, by simp, a3⟩
     ·rw [decide_eq_false hc, if_neg hc]
      obtain ⟨q, g1, g2⟩ := Mw n 24 a3 b' (by omega) (by omega)
      refine ⟨q, ?_, g2⟩
      rw [show aJ n (24 : Int) s j3 b' = _ from g1]
      simp only [Option.bind_some, Bool.not_false, cond_true]
      rw [wi _ (by omega) (by omega), Int.zero_sub]
    obtain ⟨j4, k4, a4⟩ := ho (fun x t i b => some (([] : Str), ([] : Str), 0, 0, 0, 0, 0, 0, 0, 0, 0, 0, 0, 0, t, i, b, (aB s).1, (aB r).1, off, x, 0, 0, 0, 0, 0, 0, 0, 0, 0, 0)) (aB r).2.2
    rw [k4]
    simp only [Option.bind_some]
    obtain ⟨j5, k5, a5⟩ := IV n 44 44 a4 ((aB r).2.2 || (zx off (aB r).2.1).2.2) (by omega)
    rw [k5]
    simp only [Option.bind_some]
    obtain ⟨j6, k6, a6⟩ := UA n a5 ((aB r).2.2 || (zx off (aB r).2.1).2.2 || !(aA 44 (zx off (aB r).2.1).2.1).1) (by omega) (by omega)
    rw [k6]
    simp only [Option.bind_some]
    obtain ⟨j7, k7, a7⟩ := IV n 44 44 a6 ((aB r).2.2 || (zx off (aB r).2.1).2.2 || !(aA 44 (zx off (aB r).2.1).2.1).1 || (yS (aA 44 (zx off (aB r).2.1).2.1).2).2.2 || !rD (yS (aA 44 (zx off (aB r).2.1).2.1).2).1) (by omega)
    rw [k7]
    simp only [Option.bind_some]
    obtain ⟨j8, k8, a8⟩ := UA n a7 ((aB r).2.2 || (zx off (aB r).2.1).2.2 || !(aA 44 (zx off (aB r).2.1).2.1).1 || (yS (aA 44 (zx off (aB r).2.1).2.1).2).2.2 || !rD (yS (aA 44 (zx off (aB r).2.1).2.1).2).1 || !(aA 44 (yS (aA 44 (zx off (aB r).2.1).2.1).2).2.1).1) (by omega) (by omega)
    rw [k8]
    simp only [Option.bind_some]
    refine fin (JR (aB s).1 off r false).1 (JR (aB s).1 off r false).2.1 j8 (JR (aB s).1 off r false).2.2 _ a8 (by show (aB s).1.length ≤ 200; omega) (by show (aB r).1.length ≤ 200; have := a2.le; omega) ?_ ?_
    ·unfold JR
     dsimp only
     intro g1 g2
     unfold fE
     dsimp only
     have hne : ¬ (aB r).1 = [] := by
      intro hz
      simp only [Bool.or_eq_false_iff, Bool.false_or] at g1
      have := XY r g1.1.1.1.1.1
      rw [hz, VC] at this
      cases this
     rw [if_neg hne]
     revert g1 g2
     cases rD (yS (aA 44 (zx off (aB r).2.1).2.1).2).1 <;> cases rD (yS (aA 44 (yS (aA 44 (zx off (aB r).2.1).2.1).2).2.1).2).1 <;> simp
     intro q1 q2 q3 q4 q5 q6
     simp_all
    ·unfold JR
     dsimp only
     intro g1
     revert g1
     generalize (aB r).2.2 = v1
     generalize (zx off (aB r).2.1).2.2 = v2
     generalize (aA 44 (zx off (aB r).2.1).2.1).1 = v3
     generalize (aA 44 (yS (aA 44 (zx off (aB r).2.1).2.1).2).2.1).1 = v4
     generalize yS (aA 44 (zx off (aB r).2.1).2.1).2 = v5
     generalize yS (aA 44 v5.2.1).2 = v6
     cases v1 <;> cases v2 <;> cases v3 <;> cases v4 <;> cases v5.2.2 <;> cases v6.2.2 <;> simp
end Go.Proofs.YtiegmpnagcdgoaaGreatDoor.H
namespace Go.Proofs.YtiegmpnagcdgoaaGreatDoor.H
open Go.Sh Go.RowKit
set_option linter.unusedSimpArgs false
set_option linter.unusedVariables false
theorem K8 {d : DayV} (h : rD d = true) : -604799 ≤ d.t ∧ d.t ≤ 604799 ∧ 0 ≤ d.d ∧ d.d ≤ 365 ∧ 0 ≤ d.m ∧ d.m ≤ 12 ∧ 0 ≤ d.w ∧ d.w ≤ 5 ∧ (d.k = 1 ∨ d.k = 2 ∨ d.k = 3 ∧ 1 ≤ d.m ∧ 1 ≤ d.w ∧ d.d ≤ 6) ∧ (d.k = 1 → 1 ≤ d.d) := by
 unfold rD GM at h
 simp only [Bool.and_eq_true, decide_eq_true_eq] at h
 obtain ⟨⟨h1, h2⟩, h⟩ := h
 split at h
 ·simp only [Bool.and_eq_true, decide_eq_true_eq] at h; omega
 ·split at h
  ·simp only [Bool.and_eq_true, decide_eq_true_eq] at h; omega
  ·split at h
   ·simp only [Bool.and_eq_true, decide_eq_true_eq] at h; omega
   ·cases h
def Az (y : Int) : Bool := decide (y % 4 = 0) && (decide (y % 100 ≠ 0) || decide (y % 400 = 0))
def zy (y m : Int) : Int := if m = 2 then (if Az y = true then 29 else 28) else if m = 4 ∨ m = 6 ∨ m = 9 ∨ m = 11 then 30 else 31
def tL (y m d : Int) : Int :=
 (if m ≤ 2 then y - 1 else y) / 400 * 146097 + ((if m ≤ 2 then y - 1 else y) % 400 * 365 + (if m ≤ 2 then y - 1 else y) % 400 / 4 - (if m ≤ 2 then y - 1 else y) % 400 / 100) + (153 * ((m + 9) % 12) + 2) / 5 + d - 1 - 719468
theorem RQ (y : Int) : Az y = true ↔ y % 4 = 0 ∧ (y % 100 ≠ 0 ∨ y % 400 = 0) := by
 unfold Az
 simp only [Bool.and_eq_true, Bool.or_eq_true, decide_eq_true_eq]
theorem ZJ (n : Nat) (y : Int) (h : 0 ≤ y) : Fq n y = some (Az y) := by
 unfold Fq BU Az
 rw [Int.tmod_eq_emod_of_nonneg h, Int.tmod_eq_emod_of_nonneg h, Int.tmod_eq_emod_of_nonneg h, bne, Ll, Ll, Ll]
 by_cases h1 : y % 4 = 0 <;> by_cases h2 : y % 100 = 0 <;> by_cases h3 : y % 400 = 0 <;> simp [h1, h2, h3]
theorem abR (n : Nat) (y m : Int) (hy : 1 ≤ y ∧ y ≤ 9999) (hm : 1 ≤ m ∧ m ≤ 12) : zl n y m = some false := by
 rw [zl, wM, ah (by omega), ah (by omega), ah (by omega), decide_eq_false (by omega)]
theorem Qp (n : Nat) (y m : Int) (hy : 1 ≤ y ∧ y ≤ 9999) (hm : 1 ≤ m ∧ m ≤ 12) : yE n y m = some (zy y m) := by
 unfold yE BV zy
 rw [abR n y m hy hm, ZJ n y (by omega)]
 have : m = 1 ∨ m = 2 ∨ m = 3 ∨ m = 4 ∨ m = 5 ∨ m = 6 ∨ m = 7 ∨ m = 8 ∨ m = 9 ∨ m = 10 ∨ m = 11 ∨ m = 12 := by omega
 rcases this with h | h | h | h | h | h | h | h | h | h | h | h <;> subst h
 case inr.inl => cases Az y <;> rfl
 all_goals rfl
theorem IX (y m : Int) : 28 ≤ zy y m ∧ zy y m ≤ 31 := by
 unfold zy
 split
 ·split <;> omega
 ·split <;> omega
theorem td0 {a b : Int} (h : 0 ≤ a) : a.tdiv b = a / b := Int.tdiv_eq_ediv_of_nonneg h
theorem tm0 {a b : Int} (h : 0 ≤ a) : a.tmod b = a % b := Int.tmod_eq_emod_of_nonneg h
theorem IY (n : Nat) (y m d : Int) (hy : 1 ≤ y ∧ y ≤ 9999) (hm : 1 ≤ m ∧ m ≤ 12) (hd : 1 ≤ d ∧ d ≤ 31) : vQ n y m d = some (tL y m d) := by
 unfold vQ BR Gs xS tL
 rw [Dq, wL]
 by_cases h : m ≤ 2
 ·rw [aa h]
  simp only [Option.bind_some, if_pos h]
  simp (disch := omega) only [wi, td0, tm0]
 ·rw [ah h]
  simp only [Option.bind_some, if_neg h]
  simp (disch := omega) only [wi, td0, tm0]
theorem Qq (n : Nat) (y m : Int) (hy : 1 ≤ y ∧ y ≤ 9999) (hm : 1 ≤ m ∧ m ≤ 12) : zn n y m 1 = some true := by
 unfold zn zm
 have := IX y m
 rw [aa (by omega), Qp n y m hy hm]
 simp only [Option.bind_some]
 rw [decide_eq_true (by omega)]
theorem UC (n : Nat) (y m : Int) (hy : 1 ≤ y ∧ y ≤ 9999) (hm : 1 ≤ m ∧ m ≤ 12) : yF n y m 1 = some (tL y m 1, 0) := by
 unfold yF BX
 rw [Qq n y m hy hm, IY n y m 1 hy hm (by omega)]
 rfl
theorem K9 (n : Nat) (x : Int) (h : -9223372036854775808 ≤ x ∧ x ≤ 9223372036854775807) : BQ n x = some (if x < 0 then 1 else 0) := by
 unfold BQ BP
 by_cases hx : x < 0
 ·rw [if_pos hx]
  have : IntKind.u64.wrap x = x + 18446744073709551616 := by simp [IntKind.wrap, IntKind.bits, IntKind.signed]; omega
  rw [this, show ((2 : Int) ^ 63) = 9223372036854775808 from rfl, Int.fdiv_eq_ediv_of_nonneg _ (by omega)]
  congr 1
  omega
 ·rw [if_neg hx]
  have : IntKind.u64.wrap x = x := by simp [IntKind.wrap, IntKind.bits, IntKind.signed]; omega
  rw [this, show ((2 : Int) ^ 63) = 9223372036854775808 from rfl, Int.fdiv_eq_ediv_of_nonneg _ (by omega)]
  congr 1
  omega
theorem aa0 (n : Nat) (a : Int) (h : -1000000000000 ≤ a ∧ a ≤ 1000000000000) : zP n a 7 = some (a / 7, a % 7, true) := by
 unfold zP CY
 rw [DU, wW]
 rw [show ((7 : Int) == 0) = false from rfl, show ((7 : Int) == -1) = false from rfl]
 simp only [cond_false, Option.bind_some]
 have htm : -7 < Int.tmod a 7 ∧ Int.tmod a 7 < 7 := by
  by_cases ha : 0 ≤ a
  ·rw [tm0 ha]; omega
  ·obtain ⟨b, rfl⟩ : ∃ b : Int, a = -b := ⟨-a, by omega⟩
   rw [Int.neg_tmod, tm0 (by omega)]; omega
 rw [DV, wX, K9 n _ (by omega), K9 n 7 (by omega)]
 simp only [Option.bind_some]
 by_cases ha : 0 ≤ a
 ·rw [tm0 ha, td0 ha]
  rw [if_neg (by omega), if_neg (by omega)]
  simp (disch := omega) only [wi]
  rw [show ((0 : Int) != 0) = false from rfl]
  cases (a % 7 != 0) <;> rfl
 ·obtain ⟨b, rfl⟩ : ∃ b : Int, a = -b := ⟨-a, by omega⟩
  rw [Int.neg_tmod, Int.neg_tdiv, tm0 (by omega), td0 (by omega)]
  by_cases hz : b % 7 = 0
  ·rw [show (-(b % 7) != 0) = false by simp [hz]]
   simp only [cond_false, Option.bind_some]
   simp (disch := omega) only [wi]
   congr 2
   ·omega
   ·congr 1
    omega
  ·rw [show (-(b % 7) != 0) = true by simp [hz]]
   rw [if_pos (by omega), if_neg (by omega)]
   rw [show ((1 : Int) != 0) = true from rfl]
   simp only [cond_true, Option.bind_some]
   simp (disch := omega) only [wi]
   congr 2
   ·omega
   ·congr 1
    omega
theorem GN (y m : Int) (hy : 1 ≤ y ∧ y ≤ 9999) (hm : 1 ≤ m ∧ m ≤ 12) : -800000 ≤ tL y m 1 ∧ tL y m 1 ≤ 3000000 := by
 unfold tL
 by_cases h : m ≤ 2
 ·simp only [if_pos h]; omega
 ·simp only [if_neg h]; omega
theorem UD (n : Nat) (y m : Int) (hy : 1 ≤ y ∧ y ≤ 9999) (hm : 1 ≤ m ∧ m ≤ 12) : zG n y m 1 = some ((tL y m 1 + 3) % 7 + 1) := by
 have hb := GN y m hy hm
 unfold zG wO
 rw [Qq n y m hy hm, IY n y m 1 hy hm (by omega)]
 simp only [Option.bind_some, Bool.not_true, cond_false]
 rw [wi (tL y m 1 + 3) (by omega) (by omega), aa0 n _ (by omega)]
 simp only [Option.bind_some]
 rw [wi _ (by omega) (by omega)]
def Tf (y : Int) (d : DayV) : Int :=
 let a := (d.d + 7 - ((tL y d.m 1 + 3) % 7 + 1) % 7) % 7 + 7 * (d.w - 1)
 if zy y d.m ≤ a then a - 7 else a
def LQ (d : DayV) (y : Int) : Int :=
 if d.k = 2 then tL y 1 1 + d.d
 else if d.k = 1 then (if Az y = true ∧ 59 < d.d then tL y 1 1 + d.d else tL y 1 1 + d.d - 1)
 else tL y d.m 1 + Tf y d
def oz (d : DayV) (y : Int) : Int := LQ d y * 86400 + d.t
theorem VE (n m : Nat) (a l : Int) (hl : 28 ≤ l) (ha : 0 ≤ a ∧ a < 35) : iJ n (m + 2) a l = some (if l ≤ a then a - 7 else a) := by
 rw [iJ, kK]
 by_cases h : l ≤ a
 ·rw [aa (by omega), if_pos h, wi (a - 7) (by omega) (by omega), iJ, kK, ah (by omega)]
 ·rw [ah (by omega), if_neg h]
theorem UE (n : Nat) (d : DayV) (y : Int) (hn : 5 < n) (h : rD d = true) (hy : 1 ≤ y ∧ y ≤ 9999) : xw n d.k d.m d.w d.d d.t y = some (LQ d y) := by
 have hb := GN y 1 hy (by omega)
 unfold xw tu LQ
 rw [UC n y 1 hy (by omega), Qp n y 2 hy (by omega)]
 simp only [Option.bind_some, Ll]
 have hok := h
 unfold rD GM at hok
 simp only [Bool.and_eq_true, decide_eq_true_eq] at hok
 obtain ⟨⟨t1, t2⟩, hok⟩ := hok
 by_cases h2 : d.k = 2
 ·rw [aa h2, if_pos h2]
  rw [if_neg (by omega), if_pos h2] at hok
  simp only [Bool.and_eq_true, decide_eq_true_eq] at hok
  rw [wi _ (by omega) (by omega)]
 ·rw [ah h2, if_neg h2]
  by_cases h1 : d.k = 1
  ·rw [aa h1, if_pos h1]
   rw [if_pos h1] at hok
   simp only [Bool.and_eq_true, decide_eq_true_eq] at hok
   rw [vS, oO]
   have hl : decide (zy y 2 = 29) = Az y := by
    unfold zy
    rw [if_pos rfl]
    cases Az y <;> rfl
   rw [hl]
   cases Az y with
   | false =>
    simp only [cond_false, Option.bind_some]
    simp (disch := omega) only [wi]
    simp
   | true =>
    simp only [cond_true, Option.bind_some]
    simp (disch := omega) only [wi]
    by_cases h59 : d.d > 59
    ·rw [aa h59]; simp [h59]
    ·rw [ah h59]; simp [h59]
  ·rw [ah h1, if_neg h1]
   rw [if_neg h1, if_neg h2] at hok
   split at hok
   ·simp only [Bool.and_eq_true, decide_eq_true_eq] at hok
    have hm : 1 ≤ d.m ∧ d.m ≤ 12 := by omega
    have hlong := IX y d.m
    have hdb := GN y d.m hy hm
    rw [UD n y d.m hy hm, Qp n y d.m hy hm]
    simp only [Option.bind_some]
    simp (disch := omega) only [wi, tm0]
    obtain ⟨k, hk⟩ : ∃ k, n = k + 2 := ⟨n - 2, by omega⟩
    have hl := VE n k ((d.d + 7 - ((tL y d.m 1 + 3) % 7 + 1) % 7) % 7 + 7 * (d.w - 1)) (zy y d.m) (by omega) (by omega)
    rw [← hk] at hl
    rw [hl, UC n y d.m hy hm]
    simp only [Option.bind_some]
    unfold Tf
    dsimp only
    split <;> rw [wi _ (by omega) (by omega)]
   ·cases hok
theorem Qr (d : DayV) (y : Int) (h : rD d = true) (hy : 1 ≤ y ∧ y ≤ 9999) : -900000 ≤ LQ d y ∧ LQ d y ≤ 3100000 := by
 have hb := GN y 1 hy (by omega)
 have ho := K8 h
 unfold LQ
 split
 ·omega
 ·split
  ·split <;> omega
  ·have hdb := GN y d.m hy (by omega)
   have hlong := IX y d.m
   unfold Tf
   dsimp only
   split <;> omega
theorem Qs (n : Nat) (d : DayV) (y : Int) (hn : 5 < n) : wQ n d.k d.m d.w d.d d.t y =
 some (if rD d = true then (if 2 ≤ y ∧ y ≤ 9998 then (oz d y, 0) else (0, 30)) else (0, 2)) := by
 unfold wQ wP
 rw [NB, show rD ⟨d.k, d.m, d.w, d.d, d.t⟩ = rD d from rfl]
 simp only [Option.bind_some]
 cases h : rD d with
 | false => rfl
 | true =>
  simp only [Bool.not_true, cond_false, if_true]
  rw [yH, qU]
  by_cases h1 : y < 2
  ·rw [aa h1, if_neg (by omega)]; rfl
  ·rw [ah h1]
   by_cases h2 : y > 9998
   ·rw [decide_eq_true h2, if_neg (by omega)]; rfl
   ·rw [decide_eq_false h2, if_pos (by omega)]
    simp only [Option.bind_some, cond_false]
    rw [UE n d y hn h (by omega)]
    have hb := Qr d y h (by omega)
    have ho := K8 h
    simp only [Option.bind_some]
    unfold oz
    simp (disch := omega) only [wi]
end Go.Proofs.YtiegmpnagcdgoaaGreatDoor.H
namespace Go.Proofs.YtiegmpnagcdgoaaGreatDoor.H
open Go.Sh Go.RowKit
set_option linter.unusedSimpArgs false
set_option linter.unusedVariables false
def pg (y : Int) : Int := tL y 1 1
theorem Pd (y : Int) : pg y = (y - 1) / 400 * 146097 + ((y - 1) % 400 * 365 + (y - 1) % 400 / 4 - (y - 1) % 400 / 100) + 306 - 719468 := by
 unfold pg tL
 simp only [if_pos (show (1 : Int) ≤ 2 by omega)]
 omega
theorem La (y : Int) (hy : 1 ≤ y) : pg (y + 1) = pg y + 365 + (if Az y = true then 1 else 0) := by
 have hl := RQ y
 rw [Pd, Pd]
 by_cases h : Az y = true
 ·rw [if_pos h]
  rw [h] at hl
  have := hl.1 rfl
  omega
 ·rw [if_neg h]
  have h' : ¬ (y % 4 = 0 ∧ (y % 100 ≠ 0 ∨ y % 400 = 0)) := fun q => h (hl.2 q)
  omega
theorem Lb (y : Int) (hy : 1 ≤ y ∧ y ≤ 10001) : -800000 ≤ pg y ∧ pg y ≤ 3000000 := by
 rw [Pd]
 omega
theorem Oh : pg 1970 = 0 := by decide +kernel
theorem IZ : ∀ (k : Nat) (y : Int), 1 ≤ y → pg y + 365 * (k : Int) ≤ pg (y + k) ∧ pg (y + k) ≤ pg y + 366 * (k : Int)
 | 0, y, _ => by simp
 | k + 1, y, h => by
  have h1 := IZ k y h
  have h2 := La (y + k) (by omega)
  rw [show y + ((k + 1 : Nat) : Int) = y + (k : Int) + 1 by omega]
  split at h2 <;> omega
theorem Jw {a b : Int} (ha : 1 ≤ a) (h : a ≤ b) : pg a ≤ pg b := by
 obtain ⟨k, hk⟩ : ∃ k : Nat, b = a + k := ⟨(b - a).toNat, by omega⟩
 have := (IZ k a ha).1
 rw [hk]
 omega
def InYear (y n : Int) : Prop := pg y ≤ n ∧ n < pg (y + 1)
theorem InYear.one {a b n : Int} (ha : 1 ≤ a) (hb : 1 ≤ b) (h1 : InYear a n) (h2 : InYear b n) : a = b := by
 by_cases h : a < b
 ·have := Jw (a := a + 1) (b := b) (by omega) (by omega)
  have := h1.2
  have := h2.1
  omega
 ·by_cases h' : b < a
  ·have := Jw (a := b + 1) (b := a) (by omega) (by omega)
   have := h2.2
   have := h1.1
   omega
  ·omega
end Go.Proofs.YtiegmpnagcdgoaaGreatDoor.H
namespace Go.Proofs.YtiegmpnagcdgoaaGreatDoor.H
open Go.Sh Go.RowKit
set_option linter.unusedSimpArgs false
set_option linter.unusedVariables false
theorem Lc (n : Nat) (y : Int) (h : 0 ≤ y) : gZ n y = some (Az y) := by
 unfold gZ nN Az
 rw [Int.tmod_eq_emod_of_nonneg h, Int.tmod_eq_emod_of_nonneg h, Int.tmod_eq_emod_of_nonneg h, bne, Ll, Ll, Ll]
 by_cases h1 : y % 4 = 0 <;> by_cases h2 : y % 100 = 0 <;> by_cases h3 : y % 400 = 0 <;> simp [h1, h2, h3]
theorem RS (n : Nat) (y : Int) (hy : 1970 ≤ y ∧ y ≤ 10000) : ∀ (m : Nat) (k : Int), (y - k).toNat < m → 1970 ≤ k ∧ k ≤ y → bF n m y (pg k) k = some (pg y)
 | 0, k, h, _ => by omega
 | m + 1, k, h, hk => by
  rw [bF, fo]
  by_cases hlt : k < y
  ·have hb := Lb k (by omega)
   have hn := La k (by omega)
   rw [aa hlt, ol, iL, Lc n k (by omega)]
   simp only [Option.bind_some]
   have hnext := RS n y hy m (k + 1) (by omega) (by omega)
   cases hl : Az k with
   | true =>
    rw [hl, if_pos rfl] at hn
    simp only [cond_true, Option.bind_some]
    simp (disch := omega) only [wi]
    rw [← hn]
    exact hnext
   | false =>
    rw [hl, if_neg (by simp)] at hn
    simp only [cond_false, Option.bind_some]
    simp (disch := omega) only [wi]
    rw [show pg k + 365 = pg (k + 1) by omega]
    exact hnext
  ·rw [ah hlt, show k = y by omega]
theorem OP (n : Nat) (y : Int) (hy : 1 ≤ y ∧ y ≤ 1970) : ∀ (m : Nat) (k : Int), (1970 - k).toNat < m → y ≤ k ∧ k ≤ 1970 → cB n m (pg y - pg k) k = some (pg y)
 | 0, k, h, _ => by omega
 | m + 1, k, h, hk => by
  rw [cB, fq]
  by_cases hlt : k < 1970
  ·have hb := Lb k (by omega)
   have hb2 := Lb y (by omega)
   have hn := La k (by omega)
   rw [aa hlt, om, iM, Lc n k (by omega)]
   simp only [Option.bind_some]
   have hnext := OP n y hy m (k + 1) (by omega) (by omega)
   cases hl : Az k with
   | true =>
    rw [hl, if_pos rfl] at hn
    simp only [cond_true, Option.bind_some]
    simp (disch := omega) only [wi]
    rw [show pg y - pg k - 365 - 1 = pg y - pg (k + 1) by omega]
    exact hnext
   | false =>
    rw [hl, if_neg (by simp)] at hn
    simp only [cond_false, Option.bind_some]
    simp (disch := omega) only [wi]
    rw [show pg y - pg k - 365 = pg y - pg (k + 1) by omega]
    exact hnext
  ·rw [ah hlt, show k = 1970 by omega, Oh, Int.sub_zero]
theorem Mx (n : Nat) (y : Int) (hn : 10000 < n) (hy : 1 ≤ y ∧ y ≤ 10000) : dz n y = some (pg y) := by
 unfold dz kN
 obtain ⟨k, hk⟩ : ∃ k, n = k + 1 := ⟨n - 1, by omega⟩
 by_cases h : 1970 ≤ y
 ·have h1 := RS n y (by omega) n 1970 (by omega) (by omega)
  rw [Oh] at h1
  rw [h1]
  simp only [Option.bind_some]
  conv => lhs; arg 1; arg 2; rw [hk]
  rw [cB, fq, ah (by omega)]
  rfl
 ·have h1 : bF n n y 0 1970 = some 0 := by
   conv => lhs; arg 2; rw [hk]
   rw [bF, fo, ah (by omega)]
  have h2 := OP n y (by omega) n y (by omega) (by omega)
  rw [Int.sub_self] at h2
  rw [h1]
  simp only [Option.bind_some]
  rw [h2]
  rfl
theorem RU (n : Nat) (y m : Int) (hy : 0 ≤ y) (hm : 1 ≤ m ∧ m ≤ 12) : nP n y m = some (zy y m) := by
 unfold nP nO zy
 rw [Lc n y hy]
 have : m = 1 ∨ m = 2 ∨ m = 3 ∨ m = 4 ∨ m = 5 ∨ m = 6 ∨ m = 7 ∨ m = 8 ∨ m = 9 ∨ m = 10 ∨ m = 11 ∨ m = 12 := by omega
 rcases this with h | h | h | h | h | h | h | h | h | h | h | h <;> subst h
 case inr.inl => cases Az y <;> rfl
 all_goals rfl
theorem VF (y m : Int) (hy : 1 ≤ y) (hm : 1 ≤ m ∧ m ≤ 11) : tL y (m + 1) 1 = tL y m 1 + zy y m := by
 have : m = 1 ∨ m = 2 ∨ m = 3 ∨ m = 4 ∨ m = 5 ∨ m = 6 ∨ m = 7 ∨ m = 8 ∨ m = 9 ∨ m = 10 ∨ m = 11 := by omega
 unfold zy
 have hl := RQ y
 rcases this with h | h | h | h | h | h | h | h | h | h | h <;> subst h
 case inr.inl =>
  rw [if_pos rfl]
  unfold tL
  simp only [if_neg (show ¬ ((2 : Int) + 1 ≤ 2) by omega), if_pos (show (2 : Int) ≤ 2 by omega)]
  by_cases h : Az y = true
  ·rw [if_pos h]
   rw [h] at hl
   have := hl.1 rfl
   omega
  ·rw [if_neg h]
   have h' : ¬ (y % 4 = 0 ∧ (y % 100 ≠ 0 ∨ y % 400 = 0)) := fun q => h (hl.2 q)
   omega
 all_goals (unfold tL; simp; try omega)
theorem Qt (n : Nat) (d : DayV) (y : Int) (hy : 1 ≤ y ∧ y ≤ 9999) (hd : 1 ≤ d.m ∧ d.m ≤ 12) : ∀ (q : Nat) (m : Int), (d.m - m).toNat < q → 1 ≤ m ∧ m ≤ d.m →
 dZ n q y (tL y m 1) m d.k d.m d.w d.d d.t = some (tL y d.m 1, d.k, d.m, d.w, d.d, d.t)
 | 0, m, h, _ => by omega
 | q + 1, m, h, hm => by
  rw [dZ, iQ]
  by_cases hlt : m < d.m
  ·have hb := GN y m hy (by omega)
   have hl := IX y m
   rw [aa hlt, RU n y m (by omega) (by omega)]
   simp only [Option.bind_some]
   simp (disch := omega) only [wi]
   rw [← VF y m hy.1 (by omega)]
   exact Qt n d y hy hd q (m + 1) (by omega) (by omega)
  ·rw [ah hlt, show m = d.m by omega]
def vK (r w k : Int) : Int := if k ≤ r then 0 else if (k - 1 - r) / 7 + 1 ≤ w then (k - 1 - r) / 7 + 1 else w
theorem acI (x : Int) (h : -1000000000 ≤ x ∧ x ≤ 1000000000) : Int.tmod (IntKind.i64.wrap (Int.tmod x 7 + 7)) 7 = x % 7 := by
 by_cases hx : 0 ≤ x
 ·rw [tm0 hx, wi _ (by omega) (by omega), tm0 (by omega)]
  omega
 ·obtain ⟨b, rfl⟩ : ∃ b : Int, x = -b := ⟨-x, by omega⟩
  rw [Int.neg_tmod, tm0 (show (0 : Int) ≤ b by omega), wi _ (by omega) (by omega), tm0 (by omega)]
  omega
theorem RX (n : Nat) (d : DayV) (y f r : Int) (hy : 1 ≤ y ∧ y ≤ 9999) (hm : 1 ≤ d.m ∧ d.m ≤ 12) (hw : 1 ≤ d.w ∧ d.w ≤ 5) (hd : 0 ≤ d.d ∧ d.d ≤ 6) (hf : -800000 ≤ f ∧ f ≤ 3000000) (hr : r = (d.d - (f + 4)) % 7) :
 ∀ (q : Nat) (k : Int), (zy y d.m - k).toNat < q → 0 ≤ k ∧ k ≤ zy y d.m →
 d9 n q y f (if vK r d.w k = 0 then -1 else f + r + 7 * (vK r d.w k - 1)) (vK r d.w k) k d.k d.m d.w d.d d.t
  = some (f + r + 7 * (vK r d.w (zy y d.m) - 1), d.k, d.m, d.w, d.d, d.t)
 | 0, k, h, _ => by omega
 | q + 1, k, h, hk => by
  have hl := IX y d.m
  rw [d9, iU, RU n y d.m (by omega) hm]
  simp only [Option.bind_some]
  by_cases hlt : k < zy y d.m
  ·rw [aa hlt, ow, iT]
   rw [wi (f + k) (by omega) (by omega), wi (f + k + 4) (by omega) (by omega), acI _ (by omega)]
   rw [ou, iR, Ll]
   have hnext := RX n d y f r hy hm hw hd hf hr q (k + 1) (by omega) (by omega)
   have hs0 : 0 ≤ vK r d.w k ∧ vK r d.w k ≤ 5 := by unfold vK; split <;> (try split) <;> omega
   rw [wi (k + 1) (by omega) (by omega)]
   by_cases hday : (f + k + 4) % 7 = d.d
   ·rw [aa hday]
    simp only [Option.bind_some]
    by_cases hsn : vK r d.w k < d.w
    ·have e1 : vK r d.w (k + 1) = vK r d.w k + 1 := by
      revert hsn
      unfold vK
      split <;> split <;> (try split) <;> (try split) <;> omega
     have e2 : f + k = f + r + 7 * (vK r d.w (k + 1) - 1) := by
      revert hsn
      unfold vK
      split <;> split <;> (try split) <;> (try split) <;> omega
     rw [decide_eq_true hsn]
     simp only [cond_true, Option.bind_some]
     rw [wi (vK r d.w k + 1) (by omega) (by omega), ← e1]
     rw [if_neg (by omega), ← e2] at hnext
     exact hnext
    ·have e1 : vK r d.w (k + 1) = vK r d.w k := by
      revert hsn
      unfold vK
      split <;> split <;> (try split) <;> (try split) <;> omega
     rw [decide_eq_false hsn]
     simp only [cond_false, Option.bind_some]
     rw [e1] at hnext
     exact hnext
   ·have e1 : vK r d.w (k + 1) = vK r d.w k := by
     unfold vK
     split <;> split <;> (try split) <;> (try split) <;> omega
    rw [ah hday]
    simp only [Option.bind_some, cond_false]
    rw [e1] at hnext
    exact hnext
  ·rw [ah hlt]
   have hkl : k = zy y d.m := by omega
   subst hkl
   have : vK r d.w (zy y d.m) ≠ 0 := by
    unfold vK
    split <;> (try split) <;> omega
   rw [if_neg this]
theorem OQ (n : Nat) (d : DayV) (y : Int) (hn : 10000 < n) (h : rD d = true) (hy : 1 ≤ y ∧ y ≤ 9999) : kT n d.k d.m d.w d.d d.t y = some (oz d y) := by
 have ho := K8 h
 have hb := Lb y (by omega)
 have h2b := Qr d y h hy
 unfold kT kR oz
 rw [Mx n y hn (by omega)]
 simp only [Option.bind_some, Ll]
 by_cases h1 : d.k = 1
 ·rw [aa h1, oq, iP, Lc n y (by omega)]
  unfold LQ
  rw [if_neg (show ¬ d.k = 2 by omega), if_pos h1]
  change _ = some ((if Az y = true ∧ 59 < d.d then pg y + d.d else pg y + d.d - 1) * 86400 + d.t)
  cases hl : Az y with
  | false =>
   simp only [Option.bind_some, cond_false]
   simp (disch := omega) only [wi]
   simp
  | true =>
   simp only [Option.bind_some, cond_true]
   by_cases h59 : d.d > 59
   ·rw [decide_eq_true h59, cond_true, if_pos ⟨trivial, h59⟩]
    simp (disch := omega) only [wi]
    rw [show pg y + d.d - 1 + 1 = pg y + d.d by omega]
   ·rw [decide_eq_false h59, cond_false, if_neg (by rintro ⟨_, q⟩; exact h59 q)]
    simp (disch := omega) only [wi]
 ·rw [ah h1]
  by_cases h2 : d.k = 2
  ·rw [aa h2]
   unfold LQ
   rw [if_pos h2]
   change _ = some ((pg y + d.d) * 86400 + d.t)
   simp (disch := omega) only [wi]
  ·have h3 : d.k = 3 := by omega
   rw [ah h2, aa h3]
   have hm : 1 ≤ d.m ∧ d.m ≤ 12 := by omega
   have hw : 1 ≤ d.w ∧ d.w ≤ 5 := by omega
   have hfb := GN y d.m hy hm
   have hl := IX y d.m
   rw [show pg y = tL y 1 1 from rfl, Qt n d y hy hm n 1 (by omega) (by omega)]
   simp only [Option.bind_some]
   have hk := RX n d y (tL y d.m 1) _ hy hm hw (by omega) hfb rfl n 0 (by omega) (by omega)
   generalize hr : (d.d - (tL y d.m 1 + 4)) % 7 = r at hk
   have hr' : 0 ≤ r ∧ r < 7 := by omega
   have hs0 : vK r d.w 0 = 0 := by unfold vK; rw [if_pos (by omega)]
   rw [hs0, if_pos rfl] at hk
   rw [hk]
   have e : LQ d y = tL y d.m 1 + r + 7 * (vK r d.w (zy y d.m) - 1) := by
    unfold LQ
    rw [if_neg h2, if_neg h1]
    unfold Tf vK
    dsimp only
    rw [if_neg (show ¬ zy y d.m ≤ r by omega)]
    have e1 : (d.d + 7 - ((tL y d.m 1 + 3) % 7 + 1) % 7) % 7 = r := by omega
    rw [e1]
    split <;> split <;> omega
   simp only [Option.bind_some]
   rw [← e]
   simp (disch := omega) only [wi]
end Go.Proofs.YtiegmpnagcdgoaaGreatDoor.H
namespace Go.Proofs.YtiegmpnagcdgoaaGreatDoor.H
open Go.Sh Go.RowKit
set_option linter.unusedSimpArgs false
set_option linter.unusedVariables false
theorem X0 (n : Nat) (a : Int) (h : -1000000000000 ≤ a ∧ a ≤ 1000000000000) : yc n a 86400 = some (a / 86400) := by
 unfold yc xZ
 rw [show ((86400 : Int) == 0) = false from rfl]
 simp only [cond_false]
 by_cases ha : 0 ≤ a
 ·rw [tm0 ha, td0 ha, ah (by omega), wi _ (by omega) (by omega)]
 ·obtain ⟨b, rfl⟩ : ∃ b : Int, a = -b := ⟨-a, by omega⟩
  rw [Int.neg_tmod, Int.neg_tdiv, tm0 (by omega), td0 (by omega)]
  by_cases hz : b % 86400 = 0
  ·rw [ah (by omega), wi _ (by omega) (by omega)]
   congr 1
   omega
  ·rw [aa (by omega)]
   simp (disch := omega) only [wi]
   congr 1
   omega
def Eb (k : Nat) : Nat := k - k / 1460 + k / 36524 - k / 146096
def yT (y : Nat) : Nat := 365 * y + y / 4 - y / 100
theorem X3 : ((List.range 400).all fun y => decide (365 * y ≤ Eb (yT y)) && (y == 0 || decide (Eb (yT y - 1) < 365 * y))) = true := by decide +kernel
theorem WK (y : Nat) (h : y < 400) : 365 * y ≤ Eb (yT y) ∧ (1 ≤ y → Eb (yT y - 1) < 365 * y) := by
 have := List.all_eq_true.1 X3 y (List.mem_range.2 h)
 simp only [Bool.and_eq_true, Bool.or_eq_true, decide_eq_true_eq, beq_iff_eq] at this
 exact ⟨this.1, fun hy => this.2.resolve_left (by omega)⟩
theorem UF (a b : Nat) (h : a ≤ b) (hb : b < 146096) : Eb a ≤ Eb b := by
 unfold Eb
 omega
theorem ZK (k : Nat) (h : k < 146097) : Eb k / 365 ≤ 399 ∧ yT (Eb k / 365) ≤ k ∧ (Eb k / 365 < 399 → k < yT (Eb k / 365 + 1)) := by
 by_cases hk : k = 146096
 ·subst hk
  decide +kernel
 ·have hF : Eb k ≤ 145999 := by unfold Eb; omega
  have hY : Eb k / 365 ≤ 399 := by omega
  refine ⟨hY, ?_, ?_⟩
  ·have hr := WK (Eb k / 365) (by omega)
   by_cases hlt : k < yT (Eb k / 365)
   ·have h1 : 1 ≤ Eb k / 365 := by
     by_cases h0 : Eb k / 365 = 0
     ·rw [h0] at hlt
      simp [yT] at hlt
     ·omega
    have h2 := hr.2 h1
    have hS : yT (Eb k / 365) ≤ 146000 := by unfold yT; omega
    have h3 := UF k (yT (Eb k / 365) - 1) (by omega) (by omega)
    omega
   ·omega
  ·intro hlt
   have hr := WK (Eb k / 365 + 1) (by omega)
   by_cases hge : yT (Eb k / 365 + 1) ≤ k
   ·have h3 := UF (yT (Eb k / 365 + 1)) k hge (by omega)
    omega
   ·omega
theorem Qu : tL 9999 12 31 = 2932896 := by decide +kernel
theorem OU : tL 1 1 1 = -719162 := by decide +kernel
theorem abS (n : Nat) (a : Int) (h : -700000 ≤ a ∧ a ≤ 2900000) : ∃ y m d, xU n a = some (y, m, d, 0) ∧ InYear y a ∧ 1 ≤ y := by
 unfold xU CZ
 rw [DW, wY, IY n 1 1 1 (by omega) (by omega) (by omega), IY n 9999 12 31 (by omega) (by omega) (by omega), OU, Qu]
 simp only [Option.bind_some]
 rw [ah (by omega), decide_eq_false (by omega)]
 simp only [Option.bind_some, cond_false]
 rw [wi (a + 719468) (by omega) (by omega), tm0 (show (0 : Int) ≤ a + 719468 by omega), td0 (show (0 : Int) ≤ a + 719468 by omega)]
 obtain ⟨k, hk⟩ : ∃ k : Nat, (a + 719468) % 146097 = (k : Int) := ⟨((a + 719468) % 146097).toNat, by omega⟩
 obtain ⟨q, hq⟩ : ∃ q : Nat, (a + 719468) / 146097 = (q : Int) := ⟨((a + 719468) / 146097).toNat, by omega⟩
 have hkq : a + 719468 = 146097 * (q : Int) + (k : Int) := by omega
 have hkl : k < 146097 := by omega
 have hql : q < 30 := by omega
 rw [hk, hq]
 obtain ⟨y1, y2, y3⟩ := ZK k hkl
 have hY : IntKind.i64.wrap (Int.tdiv (IntKind.i64.wrap (IntKind.i64.wrap (IntKind.i64.wrap ((k : Int) - IntKind.i64.wrap (Int.tdiv (k : Int) 1460)) + IntKind.i64.wrap (Int.tdiv (k : Int) 36524)) - IntKind.i64.wrap (Int.tdiv (k : Int) 146096))) 365) = ((Eb k / 365 : Nat) : Int) := by
  simp (disch := omega) only [wi, td0]
  unfold Eb
  omega
 rw [hY]
 generalize Eb k / 365 = Y at *
 have hR : IntKind.i64.wrap ((k : Int) - IntKind.i64.wrap (IntKind.i64.wrap (IntKind.i64.wrap (365 * (Y : Int)) + IntKind.i64.wrap (Int.tdiv (Y : Int) 4)) - IntKind.i64.wrap (Int.tdiv (Y : Int) 100))) = (k : Int) - ((yT Y : Nat) : Int) := by
  simp (disch := omega) only [wi, td0]
  unfold yT
  omega
 rw [hR]
 have hYS : ∀ Z : Nat, Z ≤ 400 → pg (400 * (q : Int) + (Z : Int) + 1) = 146097 * (q : Int) + ((yT Z : Nat) : Int) + (if Z = 400 then 1 else 0) + 306 - 719468 := by
  intro Z hZ
  rw [Pd]
  unfold yT
  split <;> omega
 have hpos : 1 ≤ 400 * (q : Int) + (Y : Int) := by
  by_cases h0 : Y = 0
  ·by_cases hq0 : q = 0
   ·have h1 := y3 (by omega)
    rw [h0] at h1
    have : yT (0 + 1) = 365 := by decide +kernel
    omega
   ·omega
  ·omega
 have hb0 := hYS Y (by omega)
 rw [if_neg (by omega)] at hb0
 have hmon : IntKind.i64.wrap (Int.tdiv (IntKind.i64.wrap (IntKind.i64.wrap (5 * ((k : Int) - ((yT Y : Nat) : Int))) + 2)) 153) = (5 * ((k : Int) - ((yT Y : Nat) : Int)) + 2) / 153 := by
  have hup : (k : Int) - ((yT Y : Nat) : Int) ≤ 400 := by
   by_cases h9 : Y < 399
   ·have := y3 h9
    have : yT (Y + 1) ≤ yT Y + 366 := by unfold yT; omega
    omega
   ·have : Y = 399 := by omega
    subst this
    have : yT 399 = 145731 := by decide +kernel
    omega
  simp (disch := omega) only [wi, td0]
 rw [hmon]
 have hR0 : 0 ≤ (k : Int) - ((yT Y : Nat) : Int) := by omega
 have hnext : Y < 399 → pg (400 * (q : Int) + (Y : Int) + 2) > a := by
  intro h9
  have h1 := y3 h9
  have h2 := hYS (Y + 1) (by omega)
  rw [if_neg (by omega)] at h2
  rw [show 400 * (q : Int) + (Y : Int) + 2 = 400 * (q : Int) + ((Y + 1 : Nat) : Int) + 1 by omega, h2]
  omega
 have hlast : Y = 399 → pg (400 * (q : Int) + (Y : Int) + 2) > a := by
  intro h9
  subst h9
  have h2 := hYS 400 (by omega)
  rw [if_pos rfl] at h2
  have : yT 400 = 146096 := by decide +kernel
  rw [show 400 * (q : Int) + ((399 : Nat) : Int) + 2 = 400 * (q : Int) + ((400 : Nat) : Int) + 1 by omega, h2]
  omega
 have hR366 : (k : Int) - ((yT Y : Nat) : Int) ≤ 366 := by
  by_cases h9 : Y < 399
  ·have := y3 h9
   have : yT (Y + 1) ≤ yT Y + 366 := by unfold yT; omega
   omega
  ·have : Y = 399 := by omega
   subst this
   have : yT 399 = 145731 := by decide +kernel
   omega
 generalize hRR : (k : Int) - ((yT Y : Nat) : Int) = R at *
 have hyear : IntKind.i64.wrap (IntKind.i64.wrap ((q : Int) * 400) + (Y : Int)) = 400 * (q : Int) + (Y : Int) := by
  simp (disch := omega) only [wi]
  omega
 rw [wi (q : Int) (by omega) (by omega), hyear]
 rw [wi ((5 * R + 2) / 153 + 2) (by omega) (by omega), tm0 (show (0 : Int) ≤ (5 * R + 2) / 153 + 2 by omega), wi (((5 * R + 2) / 153 + 2) % 12 + 1) (by omega) (by omega)]
 have hM : 0 ≤ (5 * R + 2) / 153 ∧ (5 * R + 2) / 153 ≤ 11 ∧ (R ≤ 305 → (5 * R + 2) / 153 ≤ 9) ∧ (306 ≤ R → 10 ≤ (5 * R + 2) / 153) := by omega
 generalize (5 * R + 2) / 153 = M at *
 by_cases h306 : 306 ≤ R
 ·have hMM : M = 10 ∨ M = 11 := by omega
  have hm : (M + 2) % 12 + 1 ≤ 2 := by rcases hMM with h | h <;> rw [h] <;> decide
  rw [aa hm, wi (400 * (q : Int) + (Y : Int) + 1) (by omega) (by omega)]
  refine ⟨_, _, _, rfl, ⟨?_, ?_⟩, by omega⟩
  ·rw [hb0]; omega
  ·rw [show 400 * (q : Int) + (Y : Int) + 1 + 1 = 400 * (q : Int) + (Y : Int) + 2 by omega]
   by_cases h9 : Y < 399
   ·exact hnext h9
   ·exact hlast (by omega)
 ·have hm : ¬ ((M + 2) % 12 + 1 ≤ 2) := by rw [Int.emod_eq_of_lt (by omega) (by omega)]; omega
  rw [ah hm]
  have hprev : pg (400 * (q : Int) + (Y : Int)) ≤ pg (400 * (q : Int) + (Y : Int) + 1) - 365 := by
   have := La (400 * (q : Int) + (Y : Int)) hpos
   split at this <;> omega
  refine ⟨_, _, _, rfl, ⟨?_, ?_⟩, by omega⟩
  ·omega
  ·rw [hb0]; omega
end Go.Proofs.YtiegmpnagcdgoaaGreatDoor.H
namespace Go.Proofs.YtiegmpnagcdgoaaGreatDoor.H
open Go.Sh Go.RowKit
set_option linter.unusedSimpArgs false
set_option linter.unusedVariables false
def Qv (t at' : Int) (is : Bool) (s : Bool × Int × Bool) : Bool × Int × Bool := if at' ≤ t ∧ (s.1 = false ∨ s.2.1 < at' ∨ at' = s.2.1 ∧ is = false) then (true, at', is) else s
def kU (r : RuleV) (t y : Int) (s : Bool × Int × Bool) : Bool × Int × Bool := Qv t (oz r.b y - r.doff) false (Qv t (oz r.a y - r.off) true s)
def VG (r : RuleV) (t y : Int) : Bool × Int × Bool := kU r t (y + 1) (kU r t y (kU r t (y - 1) (kU r t (y - 2) (false, 0, false))))
theorem WL (n : Nat) (t at' : Int) (is : Bool) (s : Bool × Int × Bool) : zt n at' is t s.1 s.2.1 s.2.2 = some (t, Qv t at' is s) := by
 obtain ⟨met, latest, summer⟩ := s
 unfold zt zq Qv
 dsimp only
 rw [Ll]
 by_cases h1 : at' ≤ t
 ·rw [aa h1]
  cases met with
  | false => simp [h1]
  | true =>
   simp only [Bool.not_true, cond_false]
   by_cases h2 : at' > latest
   ·rw [aa h2, if_pos ⟨h1, .inr (.inl h2)⟩]
   ·rw [ah h2]
    by_cases h3 : at' = latest
    ·rw [aa h3]
     cases is with
     | false => rw [if_pos ⟨h1, .inr (.inr ⟨h3, rfl⟩)⟩]; rfl
     | true =>
      rw [if_neg (by rintro ⟨_, h | h | h⟩; · cases h
                     ·exact h2 h
                     ·cases h.2)]
      rfl
    ·rw [ah h3, if_neg (by rintro ⟨_, h | h | h⟩; · cases h
                           ·exact h2 h
                           ·exact h3 h.1)]
 ·rw [ah h1, if_neg (by rintro ⟨h, _⟩; exact h1 h)]
theorem Jy (d : DayV) (y : Int) (h : rD d = true) (hy : 1 ≤ y ∧ y ≤ 9999) : -100000000000 ≤ oz d y ∧ oz d y ≤ 300000000000 := by
 have h1 := Qr d y h hy
 have h2 := K8 h
 unfold oz
 omega
theorem aa1 (n m : Nat) (hn : 5 < n) (r : RuleV) (ha : rD r.a = true) (hb : rD r.b = true) (h1 : -89999 ≤ r.off ∧ r.off ≤ 89999) (h2 : -89999 ≤ r.doff ∧ r.doff ≤ 89999)
 (t y Y mm dd : Int) (hy : 2 ≤ y ∧ y ≤ 9998) (hY : 2 ≤ Y ∧ Y ≤ 9996) (hlt : y < Y + 2) (s : Bool × Int × Bool) :
 nZ n (m + 1) y r.std r.dst r.off r.doff r.a.k r.a.m r.a.w r.a.d r.a.t r.b.k r.b.m r.b.w r.b.d r.b.t t Y mm dd s.2.1 s.2.2 s.1
 = nZ n m (y + 1) r.std r.dst r.off r.doff r.a.k r.a.m r.a.w r.a.d r.a.t r.b.k r.b.m r.b.w r.b.d r.b.t t Y mm dd (kU r t y s).2.1 (kU r t y s).2.2 (kU r t y s).1 := by
 have b1 := Jy r.a y ha (by omega)
 have b2 := Jy r.b y hb (by omega)
 rw [nZ, u6, wi (Y + 2) (by omega) (by omega), aa hlt, Qs n r.a y hn, Qs n r.b y hn]
 simp only [Option.bind_some]
 rw [if_pos ha, if_pos hb, if_pos hy, if_pos hy]
 simp only
 rw [wi (oz r.a y - r.off) (by omega) (by omega), wi (oz r.b y - r.doff) (by omega) (by omega), WL]
 simp only [Option.bind_some]
 rw [WL]
 simp only [Option.bind_some]
 rw [wi (y + 1) (by omega) (by omega)]
 rfl
def jY (s : Int) : Int := if (-10000000000 : Int) < (if s < (100000000000 : Int) then s else (100000000000 : Int)) then (if s < (100000000000 : Int) then s else (100000000000 : Int)) else (-10000000000 : Int)
theorem RY (s : Int) : -10000000000 ≤ jY s ∧ jY s ≤ 100000000000 := by
 unfold jY
 split <;> (try split) <;> omega
theorem RZ : pg 1600 = -135140 := by decide +kernel
theorem Oi : pg 5200 = 1179733 := by decide +kernel
theorem WM {y n : Int} (hy : 1 ≤ y) (h : InYear y n) (hn : -130000 ≤ n ∧ n ≤ 1170000) : 1600 ≤ y ∧ y ≤ 5200 := by
 have e1 := RZ
 have e2 := Oi
 constructor
 ·by_cases hlt : y < 1600
  ·have := Jw (a := y + 1) (b := 1600) (by omega) (by omega)
   have := h.2
   omega
  ·omega
 ·by_cases hgt : 5200 < y
  ·have := Jw (a := 5200) (b := y) (by omega) (by omega)
   have := h.1
   omega
  ·omega
theorem Df {r : RuleV} (h : fE r = true) : uB r.std = true ∧ -89999 ≤ r.off ∧ r.off ≤ 89999 ∧
 (r.dst = [] ∧ r.doff = 0 ∨ uB r.dst = true ∧ r.dst ≠ [] ∧ -89999 ≤ r.doff ∧ r.doff ≤ 89999 ∧ rD r.a = true ∧ rD r.b = true) := by
 unfold fE at h
 simp only [Bool.and_eq_true, GM, decide_eq_true_eq] at h
 obtain ⟨⟨h1, h2⟩, h⟩ := h
 refine ⟨h1, h2.1, h2.2, ?_⟩
 split at h
 ·rename_i hd
  simp only [Bool.and_eq_true, beq_iff_eq] at h
  exact .inl ⟨hd, h.1.1⟩
 ·rename_i hd
  simp only [Bool.and_eq_true, decide_eq_true_eq] at h
  exact .inr ⟨h.1.1.1, hd, h.1.1.2.1, h.1.1.2.2, h.1.2, h.2⟩
def MB (r : RuleV) (t y : Int) : Int × Bool := if (VG r t y).2.2 = true then (r.doff, true) else (r.off, false)
theorem at_val (n : Nat) (r : RuleV) (s : Int) (hn : 200 < n) (h : fE r = true) (hd : r.dst ≠ []) :
 ∃ y, InYear y ((jY s + r.off) / 86400) ∧ 1600 ≤ y ∧ y ≤ 5200 ∧ tC n r.std r.dst r.off r.doff r.a.k r.a.m r.a.w r.a.d r.a.t r.b.k r.b.m r.b.w r.b.d r.b.t s = some (MB r (jY s) y) := by
 obtain ⟨h1, h2, h3, h4⟩ := Df h
 obtain ⟨h4, _, h5, h6, h7, h8⟩ := h4.resolve_left (fun q => hd q.1)
 have l1 : r.std.length ≤ 10 := by unfold uB at h1; simp only [Bool.and_eq_true, decide_eq_true_eq] at h1; exact h1.1.2
 have l2 : r.dst.length ≤ 10 := by unfold uB at h4; simp only [Bool.and_eq_true, decide_eq_true_eq] at h4; exact h4.1.2
 have hc := RY s
 obtain ⟨y, mm, dd, k1, k2, k3⟩ := abS n ((jY s + r.off) / 86400) (by omega)
 have hy := WM k3 k2 (by omega)
 refine ⟨y, k2, hy.1, hy.2, ?_⟩
 unfold tC yh
 rw [right_val n _ _ _ _ _ _ _ _ _ _ _ _ _ _ (by omega) (by omega) (by omega) (by omega)]
 rw [show fE ⟨r.std, r.dst, r.off, r.doff, ⟨r.a.k, r.a.m, r.a.w, r.a.d, r.a.t⟩, ⟨r.b.k, r.b.m, r.b.w, r.b.d, r.b.t⟩⟩ = true from h]
 simp only [Option.bind_some, Bool.not_true, cond_false]
 rw [show (r.dst == ([] : Str)) = false by simpa using hd, cond_false]
 change ((yc n (IntKind.i64.wrap (jY s + r.off)) 86400).bind fun o304 => (xU n o304).bind fun o308 => (nZ n n (IntKind.i64.wrap (o308.1 - 2)) r.std r.dst r.off r.doff r.a.k r.a.m r.a.w r.a.d r.a.t r.b.k r.b.m r.b.w r.b.d r.b.t (jY s) o308.1 o308.2.1 o308.2.2.1 0 false false).bind _) = _
 rw [wi (jY s + r.off) (by omega) (by omega), X0 n _ (by omega)]
 simp only [Option.bind_some]
 rw [k1]
 simp only [Option.bind_some]
 rw [wi (y - 2) (by omega) (by omega)]
 obtain ⟨k, hk⟩ : ∃ k, n = k + 1 + 1 + 1 + 1 + 1 := ⟨n - 5, by omega⟩
 have st := fun m (z : Int) (hz : y - 2 ≤ z ∧ z < y + 2) s' => aa1 n m (by omega) r h7 h8 (by omega) (by omega) (jY s) z y mm dd (by omega) (by omega) hz.2 s'
 conv => lhs; arg 1; arg 2; rw [hk]
 rw [st _ (y - 2) (by omega) (false, 0, false), st _ (y - 2 + 1) (by omega), st _ (y - 2 + 1 + 1) (by omega), st _ (y - 2 + 1 + 1 + 1) (by omega)]
 rw [nZ, u6, wi (y + 2) (by omega) (by omega), ah (by omega)]
 simp only [Option.bind_some]
 unfold MB VG
 rw [show y - 2 + 1 = y - 1 by omega, show y - 1 + 1 = y by omega]
 cases (kU r (jY s) (y + 1) (kU r (jY s) y (kU r (jY s) (y - 1) (kU r (jY s) (y - 2) (false, 0, false))))).2.2 <;> rfl
theorem ZL (n : Nat) (r : RuleV) (s : Int) (hn : 200 < n) (h : fE r = true) (hd : r.dst = []) :
 tC n r.std r.dst r.off r.doff r.a.k r.a.m r.a.w r.a.d r.a.t r.b.k r.b.m r.b.w r.b.d r.b.t s = some (r.off, false) := by
 obtain ⟨h1, _⟩ := Df h
 have l1 : r.std.length ≤ 10 := by unfold uB at h1; simp only [Bool.and_eq_true, decide_eq_true_eq] at h1; exact h1.1.2
 unfold tC yh
 rw [right_val n _ _ _ _ _ _ _ _ _ _ _ _ _ _ (by omega) (by omega) (by rw [hd]; simp) (by rw [hd]; simp; omega)]
 rw [show fE ⟨r.std, r.dst, r.off, r.doff, ⟨r.a.k, r.a.m, r.a.w, r.a.d, r.a.t⟩, ⟨r.b.k, r.b.m, r.b.w, r.b.d, r.b.t⟩⟩ = true from h, hd]
 rfl
theorem abT (n : Nat) (r : RuleV) (s : Int) (h : fE r = false) (hs : r.std.length < 9223372036854775808) (hn : r.std.length < n) (hs' : r.dst.length < 9223372036854775808) (hn' : r.dst.length < n) :
 tC n r.std r.dst r.off r.doff r.a.k r.a.m r.a.w r.a.d r.a.t r.b.k r.b.m r.b.w r.b.d r.b.t s = some (0, false) := by
 unfold tC yh
 rw [right_val n _ _ _ _ _ _ _ _ _ _ _ _ _ _ hs hn hs' hn']
 rw [show fE ⟨r.std, r.dst, r.off, r.doff, ⟨r.a.k, r.a.m, r.a.w, r.a.d, r.a.t⟩, ⟨r.b.k, r.b.m, r.b.w, r.b.d, r.b.t⟩⟩ = false from h]
 rfl
end Go.Proofs.YtiegmpnagcdgoaaGreatDoor.H
namespace Go.Proofs.YtiegmpnagcdgoaaGreatDoor.H
open Go.Sh Go.RowKit
set_option linter.unusedSimpArgs false
set_option linter.unusedVariables false
theorem VH (n : Nat) (a : Int) (h : -1000000000000 ≤ a ∧ a ≤ 1000000000000) : l9 n a 86400 = some (a / 86400) := by
 unfold l9 l8
 rw [show ((86400 : Int) == 0) = false from rfl]
 simp only [cond_false]
 by_cases ha : 0 ≤ a
 ·rw [tm0 ha, td0 ha, ah (by omega), wi _ (by omega) (by omega)]
 ·obtain ⟨b, rfl⟩ : ∃ b : Int, a = -b := ⟨-a, by omega⟩
  rw [Int.neg_tmod, Int.neg_tdiv, tm0 (by omega), td0 (by omega)]
  by_cases hz : b % 86400 = 0
  ·rw [ah (by omega), wi _ (by omega) (by omega)]
   congr 1
   omega
  ·rw [aa (by omega)]
   simp (disch := omega) only [wi]
   congr 1
   omega
theorem R3 (n : Nat) (hn : 10000 < n) (d : Int) (hd : -130000 ≤ d ∧ d ≤ 1170000) : ∀ (m : Nat) (y : Int), y.toNat < m → 1600 ≤ y ∧ y ≤ 1970 → ∃ y', dX n m d y = some y' ∧ pg y' ≤ d ∧ 1600 ≤ y' ∧ y' ≤ 1970
 | 0, y, h, _ => by omega
 | m + 1, y, h, hy => by
  have hb := Lb y (by omega)
  rw [dX, iN, Mx n y hn (by omega)]
  simp only [Option.bind_some]
  by_cases hlt : d < pg y
  ·rw [aa hlt]
   simp (disch := omega) only [wi, td0]
   have e1 := RZ
   have h0 := Jw (a := y) (b := 1970) (by omega) (by omega)
   rw [Oh] at h0
   obtain ⟨k, hk⟩ : ∃ k : Nat, (pg y - d) / 366 = (k : Int) := ⟨((pg y - d) / 366).toNat, by omega⟩
   rw [hk]
   have hm := (IZ (k + 1) (y - 1 - k) (by omega)).2
   rw [show y - 1 - (k : Int) + ((k + 1 : Nat) : Int) = y by omega] at hm
   have hlow : 1600 ≤ y - 1 - (k : Int) := by
    by_cases hq : y - 1 - (k : Int) < 1600
    ·have hm2 := (IZ (1600 - (y - 1 - (k : Int))).toNat (y - 1 - k) (by omega)).1
     rw [show y - 1 - (k : Int) + (((1600 - (y - 1 - (k : Int))).toNat : Nat) : Int) = 1600 by omega] at hm2
     omega
    ·omega
   exact R3 n hn d hd m (y - 1 - k) (by omega) (by omega)
  ·rw [ah hlt]
   exact ⟨y, rfl, by omega, hy.1, hy.2⟩
theorem WN (n : Nat) (hn : 10000 < n) (d : Int) (hd : -130000 ≤ d ∧ d ≤ 1170000) : ∀ (m : Nat) (y : Int), (6000 - y).toNat < m → 1600 ≤ y → pg y ≤ d → ∃ y', dY n m d y = some y' ∧ InYear y' d ∧ 1600 ≤ y'
 | 0, y, h, hy, hb => by
  have h1 := Oi
  by_cases hq : 5200 < y
  ·have := Jw (a := 5200) (b := y) (by omega) (by omega)
   omega
  ·omega
 | m + 1, y, h, hy, hb => by
  have h1 := Oi
  have hyu : y ≤ 5200 := by
   by_cases hq : 5200 < y
   ·have := Jw (a := 5200) (b := y) (by omega) (by omega)
    omega
   ·omega
  have hbb := Lb (y + 1) (by omega)
  rw [dY, iO, wi (y + 1) (by omega) (by omega), Mx n (y + 1) hn (by omega)]
  simp only [Option.bind_some]
  by_cases hge : d ≥ pg (y + 1)
  ·rw [aa hge]
   simp (disch := omega) only [wi, td0]
   obtain ⟨k, hk⟩ : ∃ k : Nat, (d - pg (y + 1)) / 366 = (k : Int) := ⟨((d - pg (y + 1)) / 366).toNat, by omega⟩
   rw [hk]
   have hm := (IZ k (y + 1) (by omega)).2
   exact WN n hn d hd m (y + 1 + k) (by omega) (by omega) (by omega)
  ·rw [ah hge]
   exact ⟨y, rfl, ⟨hb, by omega⟩, hy⟩
theorem VI (n : Nat) (hn : 20000 < n) (d : Int) (hd : -130000 ≤ d ∧ d ≤ 1170000) : ∃ y, kQ n d = some y ∧ InYear y d ∧ 1600 ≤ y := by
 obtain ⟨y1, h1, h2, h3, _⟩ := R3 n (by omega) d hd n 1970 (by omega) (by omega)
 obtain ⟨y2, h4, h5, h6⟩ := WN n (by omega) d hd n y1 (by omega) h3 h2
 refine ⟨y2, ?_, h5, h6⟩
 unfold kQ kP
 rw [h1]
 simp only [Option.bind_some]
 rw [h4]
 rfl
theorem ZM (n m : Nat) (hn : 10000 < n) (r : RuleV) (ha : rD r.a = true) (hb : rD r.b = true) (h1 : -89999 ≤ r.off ∧ r.off ≤ 89999) (h2 : -89999 ≤ r.doff ∧ r.doff ≤ 89999)
 (t y Y : Int) (hy : 2 ≤ y ∧ y ≤ 9998) (hY : 2 ≤ Y ∧ Y ≤ 9996) (hle : y ≤ Y + 1) (s : Bool × Int × Bool) :
 cK n (m + 1) t Y s.2.1 s.2.2 s.1 y r.std r.dst r.off r.doff r.a.k r.a.m r.a.w r.a.d r.a.t r.b.k r.b.m r.b.w r.b.d r.b.t
 = cK n m t Y (kU r t y s).2.1 (kU r t y s).2.2 (kU r t y s).1 (y + 1) r.std r.dst r.off r.doff r.a.k r.a.m r.a.w r.a.d r.a.t r.b.k r.b.m r.b.w r.b.d r.b.t := by
 have b1 := Jy r.a y ha (by omega)
 have b2 := Jy r.b y hb (by omega)
 obtain ⟨met, latest, summer⟩ := s
 rw [cK, jf, wi (Y + 1) (by omega) (by omega), aa hle, tK, mq, OQ n r.a y hn ha (by omega), OQ n r.b y hn hb (by omega)]
 simp only [Option.bind_some]
 rw [wi (oz r.a y - r.off) (by omega) (by omega), wi (oz r.b y - r.doff) (by omega) (by omega)]
 have hj2 : oV n t latest summer met (oz r.a y - r.off) = some ((Qv t (oz r.a y - r.off) true (met, latest, summer)).2.1, (Qv t (oz r.a y - r.off) true (met, latest, summer)).2.2, (Qv t (oz r.a y - r.off) true (met, latest, summer)).1) := by
  rw [oV, mg, tH, mf]
  unfold Qv
  dsimp only
  generalize oz r.a y - r.off = u
  by_cases q1 : u ≤ t
  ·rw [aa q1]
   cases met with
   | false => simp [q1]
   | true =>
    by_cases q2 : latest < u
    ·simp [q1, q2]
    ·simp [q1, q2]
  ·rw [ah q1]
   simp [q1]
 rw [hj2]
 simp only [Option.bind_some]
 generalize hs2 : Qv t (oz r.a y - r.off) true (met, latest, summer) = s2
 obtain ⟨met2, latest2, summer2⟩ := s2
 have hstep : kU r t y (met, latest, summer) = Qv t (oz r.b y - r.doff) false (met2, latest2, summer2) := by unfold kU; rw [hs2]
 rw [hstep]
 rw [tJ, mh]
 unfold Qv
 dsimp only
 rw [wi (y + 1) (by omega) (by omega)]
 generalize oz r.b y - r.doff = u
 by_cases q1 : u ≤ t
 ·rw [aa q1]
  cases met2 with
  | false => simp [q1]
  | true =>
   by_cases q2 : latest2 ≤ u
   ·have q3 : latest2 < u ∨ u = latest2 := by omega
    simp [q1, q2, q3]
   ·have q3 : ¬ (latest2 < u ∨ u = latest2) := by omega
    simp [q1, q2, q3]
 ·rw [ah q1]
  simp [q1]
theorem rat_val (n : Nat) (r : RuleV) (s : Int) (hn : 20000 < n) (h : fE r = true) (hd : r.dst ≠ []) :
 ∃ y, InYear y ((jY s + r.off) / 86400) ∧ 1600 ≤ y ∧ y ≤ 5200 ∧ dB n r.std r.dst r.off r.doff r.a.k r.a.m r.a.w r.a.d r.a.t r.b.k r.b.m r.b.w r.b.d r.b.t s = some (MB r (jY s) y) := by
 obtain ⟨h1, h2, h3, h4⟩ := Df h
 obtain ⟨h4, _, h5, h6, h7, h8⟩ := h4.resolve_left (fun q => hd q.1)
 have l1 : r.std.length ≤ 10 := by unfold uB at h1; simp only [Bool.and_eq_true, decide_eq_true_eq] at h1; exact h1.1.2
 have l2 : r.dst.length ≤ 10 := by unfold uB at h4; simp only [Bool.and_eq_true, decide_eq_true_eq] at h4; exact h4.1.2
 have hc := RY s
 obtain ⟨y, k1, k2, k3⟩ := VI n hn ((jY s + r.off) / 86400) (by omega)
 have hy := WM (by omega) k2 (by omega)
 refine ⟨y, k2, hy.1, hy.2, ?_⟩
 unfold dB jC
 rw [rright_val n _ _ _ _ _ _ _ _ _ _ _ _ _ _ (by omega) (by omega) (by omega) (by omega)]
 rw [show fE ⟨r.std, r.dst, r.off, r.doff, ⟨r.a.k, r.a.m, r.a.w, r.a.d, r.a.t⟩, ⟨r.b.k, r.b.m, r.b.w, r.b.d, r.b.t⟩⟩ = true from h]
 simp only [Option.bind_some, Bool.not_true, cond_false]
 rw [show (r.dst == ([] : Str)) = false by simpa using hd, cond_false]
 change ((l9 n (IntKind.i64.wrap (jY s + r.off)) 86400).bind fun o316 => (kQ n o316).bind fun o329 => (cK n n (jY s) o329 0 false false (IntKind.i64.wrap (o329 - 2)) r.std r.dst r.off r.doff r.a.k r.a.m r.a.w r.a.d r.a.t r.b.k r.b.m r.b.w r.b.d r.b.t).bind _) = _
 rw [wi (jY s + r.off) (by omega) (by omega), VH n _ (by omega)]
 simp only [Option.bind_some]
 rw [k1]
 simp only [Option.bind_some]
 rw [wi (y - 2) (by omega) (by omega)]
 obtain ⟨k, hk⟩ : ∃ k, n = k + 1 + 1 + 1 + 1 + 1 := ⟨n - 5, by omega⟩
 have st := fun m (z : Int) (hz : y - 2 ≤ z ∧ z ≤ y + 1) s' => ZM n m (by omega) r h7 h8 (by omega) (by omega) (jY s) z y (by omega) (by omega) hz.2 s'
 conv => lhs; arg 1; arg 2; rw [hk]
 rw [st _ (y - 2) (by omega) (false, 0, false), st _ (y - 2 + 1) (by omega), st _ (y - 2 + 1 + 1) (by omega), st _ (y - 2 + 1 + 1 + 1) (by omega)]
 rw [cK, jf, wi (y + 1) (by omega) (by omega), ah (by omega)]
 simp only [Option.bind_some]
 unfold MB VG
 rw [show y - 2 + 1 = y - 1 by omega, show y - 1 + 1 = y by omega]
 cases (kU r (jY s) (y + 1) (kU r (jY s) y (kU r (jY s) (y - 1) (kU r (jY s) (y - 2) (false, 0, false))))).2.2 <;> rfl
theorem R4 (n : Nat) (r : RuleV) (s : Int) (h : fE r = true) (hd : r.dst = []) (hs : r.std.length < 9223372036854775808) (hn : r.std.length < n) :
 dB n r.std r.dst r.off r.doff r.a.k r.a.m r.a.w r.a.d r.a.t r.b.k r.b.m r.b.w r.b.d r.b.t s = some (r.off, false) := by
 unfold dB jC
 rw [rright_val n _ _ _ _ _ _ _ _ _ _ _ _ _ _ hs hn (by rw [hd]; simp) (by rw [hd]; simp; omega)]
 rw [show fE ⟨r.std, r.dst, r.off, r.doff, ⟨r.a.k, r.a.m, r.a.w, r.a.d, r.a.t⟩, ⟨r.b.k, r.b.m, r.b.w, r.b.d, r.b.t⟩⟩ = true from h, hd]
 rfl
theorem aa2 (n : Nat) (r : RuleV) (s : Int) (h : fE r = false) (hs : r.std.length < 9223372036854775808) (hn : r.std.length < n) (hs' : r.dst.length < 9223372036854775808) (hn' : r.dst.length < n) :
 dB n r.std r.dst r.off r.doff r.a.k r.a.m r.a.w r.a.d r.a.t r.b.k r.b.m r.b.w r.b.d r.b.t s = some (0, false) := by
 unfold dB jC
 rw [rright_val n _ _ _ _ _ _ _ _ _ _ _ _ _ _ hs hn hs' hn']
 rw [show fE ⟨r.std, r.dst, r.off, r.doff, ⟨r.a.k, r.a.m, r.a.w, r.a.d, r.a.t⟩, ⟨r.b.k, r.b.m, r.b.w, r.b.d, r.b.t⟩⟩ = false from h]
 rfl
theorem aa3 (n : Nat) (r : RuleV) (s : Int) (hn : 20000 < n) (hs : r.std.length < 9223372036854775808) (h1 : r.std.length < n) (hs' : r.dst.length < 9223372036854775808) (h1' : r.dst.length < n) :
 ∃ o, tC n r.std r.dst r.off r.doff r.a.k r.a.m r.a.w r.a.d r.a.t r.b.k r.b.m r.b.w r.b.d r.b.t s = some o ∧ dB n r.std r.dst r.off r.doff r.a.k r.a.m r.a.w r.a.d r.a.t r.b.k r.b.m r.b.w r.b.d r.b.t s = some o := by
 cases h : fE r with
 | false => exact ⟨_, abT n r s h hs h1 hs' h1', aa2 n r s h hs h1 hs' h1'⟩
 | true =>
  by_cases hd : r.dst = []
  ·exact ⟨_, ZL n r s (by omega) h hd, R4 n r s h hd hs h1⟩
  ·obtain ⟨y, a1, a2, a3, a4⟩ := at_val n r s (by omega) h hd
   obtain ⟨z, b1, b2, b3, b4⟩ := rat_val n r s hn h hd
   have := InYear.one (by omega) (by omega) a1 b1
   subst this
   exact ⟨_, a4, b4⟩
end Go.Proofs.YtiegmpnagcdgoaaGreatDoor.H
namespace Go.Proofs.YtiegmpnagcdgoaaGreatDoor.H.Z
open Go.Sh Go.RowKit
set_option linter.unusedSimpArgs false
set_option linter.unusedVariables false
abbrev Ty := Int × Bool × Str
def cT (t : Ty) : List AV := [.int .i64 t.1, .bool t.2.1, .str t.2.2]
theorem wi (x : Int) (h : -9223372036854775808 ≤ x) (h2 : x ≤ 9223372036854775807) : IntKind.i64.wrap x = x := IntWalk.i64_in _ (by omega)
def okC (low : Int) (c : UInt8) : Bool := !decide ((c.toNat : Int) < low) && !decide ((c.toNat : Int) > 126)
def textS (s : Str) (many low : Int) : Bool := decide ((s.length : Int) ≤ many) && s.all (okC low)
theorem ZN (s : Str) (i : Nat) : (pU s)[i]? = (s[i]?).map fun c => (c.toNat : Int) := by simp [pU]
theorem Qw (n : Nat) (low : Int) (s : Str) (hs : s.length < 4000000000000000000) : ∀ (r : Str) (i m : Nat), s.drop i = r → r.length < m →
 (r.all (okC low) = true → aH n m (pU s) (s.length : Int) (i : Int) low = some (Sum.inr low)) ∧
 (r.all (okC low) = false → ∃ j : Int, 0 ≤ j ∧ aH n m (pU s) (s.length : Int) (i : Int) low = some (Sum.inl (j, low)))
 | [], i, m + 1, h, _ => by
  have hi := drop_nil h
  refine ⟨fun _ => ?_, fun h => by simp at h⟩
  simp only [aH, bT]
  rw [ah (by omega)]
 | c :: r, i, m + 1, h, hm => by
  obtain ⟨h1, h2, h3⟩ := jJ h
  obtain ⟨ih1, ih2⟩ := Qw n low s hs r (i + 1) m h2 (by simpa using hm)
  have e : aH n (m + 1) (pU s) (s.length : Int) (i : Int) low = cond (!okC low c) (some (Sum.inl ((i : Int), low))) (aH n m (pU s) (s.length : Int) ((i + 1 : Nat) : Int) low) := by
   simp only [aH, bT]
   rw [aa (by omega), aa (by omega), Int.toNat_natCast, ZN, h1, vJ _ (by omega)]
   simp only [Option.map_some, Option.bind_some, HV, y7, okC]
   by_cases hl : (c.toNat : Int) < low
   ·simp [hl]
   ·by_cases hh : (c.toNat : Int) > 126 <;> simp [hl, hh]
  rw [e]
  cases hc : okC low c with
  | true =>
   simp only [List.all_cons, hc, Bool.true_and, Bool.not_true, cond_false]
   exact ⟨ih1, ih2⟩
  | false => simp [hc]
theorem UG (n : Nat) (s : Str) (many low : Int) (hm : many < 4000000000000000000) (hn : (s.length : Int) ≤ many → s.length < n) : DI n s many low = some (textS s many low) := by
 unfold DI DF textS
 by_cases h : (s.length : Int) ≤ many
 ·rw [aa h, decide_eq_true h, Bool.true_and]
  have hn' := hn h
  obtain ⟨h1, h2⟩ := Qw n low s (by omega) s 0 n (by simp) hn'
  simp only [mO, ed, pW, gI, LP]
  cases hc : s.all (okC low) with
  | true =>
   have := h1 hc
   simp only [Int.natCast_zero] at this
   rw [this]
   simp
  | false =>
   obtain ⟨j, hj, this⟩ := h2 hc
   simp only [Int.natCast_zero] at this
   rw [this]
   simp [hj]
 ·rw [ah h, decide_eq_false h, Bool.false_and]
def okT (t : Ty) : Bool := !decide (t.1 < -89999) && !decide (t.1 > 93599) && !(t.2.2 == []) && textS t.2.2 15 33
def Qx : List Ty → Nat
 | [] => 0
 | t :: r => t.2.2.length + 1 + Qx r
theorem ZO (n : Nat) (hn : 16 ≤ n) (h0 : List (List AV)) (h1 h2 : List Int) (h3 : Str) (t : Ty) : y9 n h0 h1 h2 h3 t.1 t.2.1 t.2.2 = some (!okT t, h0, h1, h2, h3, t.1, t.2.1, t.2.2) := by
 unfold y9 wD okT
 rw [UG n t.2.2 15 33 (by omega) (fun h => by omega)]
 by_cases c1 : t.1 < -89999
 ·simp [c1]
 ·by_cases c2 : t.1 > 93599
  ·simp [c1, c2]
  ·cases c3 : t.2.2 == [] <;> simp [c1, c2, c3]
theorem okT_len {t : Ty} (h : okT t = true) : t.2.2.length ≤ 15 := by
 simp only [okT, textS, Bool.and_eq_true, decide_eq_true_eq] at h
 omega
theorem UH (n : Nat) (hn : 16 ≤ n) (ts : List Ty) (h0 : List (List AV)) (h1 h2 : List Int) (h3 : Str) (hts : ts.length ≤ 255) : ∀ (r : List Ty) (i m x : Nat), ts.drop i = r → r.length < m → x ≤ 16 * i →
 qG n m (x : Int) (ts.map cT) (ts.length : Int) (i : Int) h0 h1 h2 h3 = some (if r.all okT then Sum.inr (((x + Qx r : Nat) : Int), h0, h1, h2, h3) else Sum.inl ())
 | [], i, m + 1, x, h, _, _ => by
  have hi := drop_nil h
  simp only [qG, sJ]
  rw [ah (by omega)]
  simp [Qx]
 | t :: r, i, m + 1, x, h, hm, hx => by
  obtain ⟨k1, k2, k3⟩ := jJ h
  simp only [qG, sJ]
  rw [aa (by omega), aa (by omega), Int.toNat_natCast, List.getElem?_map, k1, vJ _ (by omega)]
  simp only [Option.map_some, Option.bind_some, cT, unc, yu, yV, yX, unn, ZO n hn]
  cases hc : okT t with
  | false => simp [hc]
  | true =>
   have hl := okT_len hc
   simp only [hc, Bool.not_true, cond_false]
   have e : IntKind.i64.wrap ((x : Int) + IntKind.i64.wrap ((t.2.2.length : Int) + 1)) = ((x + (t.2.2.length + 1) : Nat) : Int) := by
    rw [wi ((t.2.2.length : Int) + 1) (by omega) (by omega), wi _ (by omega) (by omega)]; omega
   rw [e, UH n hn ts h0 h1 h2 h3 hts r (i + 1) m _ k2 (by simpa using hm) (by omega)]
   simp only [List.all_cons, hc, Bool.true_and, Qx, Nat.add_assoc, decide_true, cond_true]
def okAt (ti ix : List Int) (len k : Nat) : Bool := decide (0 ≤ ix.getD k 0) && decide (ix.getD k 0 < len) && (k == 0 || decide (ti.getD (k - 1) 0 < ti.getD k 0))
theorem aa4 {l : List Int} {i : Nat} {v : Int} (h : l[i]? = some v) : l.getD i 0 = v := by rw [List.getD_eq_getElem?_getD, h]; rfl
theorem get_of {l : List Int} {i : Nat} (h : i < l.length) : l[i]? = some (l.getD i 0) := by rw [List.getD_eq_getElem?_getD, List.getElem?_eq_getElem h]; rfl
theorem ZP (n : Nat) (h0 : List (List AV)) (ti ix : List Int) (h3 : Str) (i : Nat) (v : Int) (hv : ix[i]? = some v) (hi : i < ti.length) (hb : ti.length ≤ 4000) : za n (i : Int) v h0 ti ix h3 = some (!okAt ti ix h0.length i, h0, ti, ix, h3) := by
 unfold za wE okAt
 rw [aa4 hv]
 by_cases c1 : v < 0
 ·rw [aa c1]; simp [show ¬ (0 ≤ v) by omega]
 ·rw [ah c1, decide_eq_true (show 0 ≤ v by omega)]
  by_cases c2 : v ≥ (h0.length : Int)
  ·rw [aa c2]; simp [show ¬ (v < (h0.length : Int)) by omega]
  ·rw [ah c2, decide_eq_true (show v < (h0.length : Int) by omega)]
   by_cases c3 : (i : Int) > 0
   ·rw [aa c3, aa (by omega), Int.toNat_natCast, get_of hi, Option.bind_some, wi _ (by omega) (by omega), aa (by omega), show ((i : Int) - 1).toNat = i - 1 by omega, get_of (show i - 1 < ti.length by omega), Option.bind_some]
    have : (i == 0) = false := by simp; omega
    rw [this]
    by_cases c4 : ti.getD i 0 ≤ ti.getD (i - 1) 0
    ·rw [decide_eq_true c4, decide_eq_false (show ¬ (ti.getD (i - 1) 0 < ti.getD i 0) by omega)]; rfl
    ·rw [decide_eq_false c4, decide_eq_true (show ti.getD (i - 1) 0 < ti.getD i 0 by omega)]; rfl
   ·rw [ah c3]
    have : i = 0 := by omega
    subst this
    simp
theorem UI (n : Nat) (h0 : List (List AV)) (ti ix : List Int) (h3 : Str) (hl : ti.length = ix.length) (hb : ti.length ≤ 4000) : ∀ (k i m : Nat), i + k = ix.length → k < m →
 qH n m ix (ix.length : Int) (i : Int) h0 ti ix h3 = some (if (List.range' i k).all (okAt ti ix h0.length) then Sum.inr (h0, ti, ix, h3) else Sum.inl (h0, ti, ix, h3))
 | 0, i, m + 1, h, _ => by
  simp only [qH, sK]
  rw [ah (by omega)]
  simp
 | k + 1, i, m + 1, h, hm => by
  simp only [qH, sK]
  have hi : i < ix.length := by omega
  rw [aa (by omega), aa (by omega), Int.toNat_natCast, get_of hi, vJ _ (by omega)]
  simp only [Option.bind_some, ZP n h0 ti ix h3 i _ (get_of hi) (by omega) hb, List.range'_succ, List.all_cons]
  cases hc : okAt ti ix h0.length i with
  | false => simp
  | true =>
   simp only [Bool.not_true, cond_false, Bool.true_and]
   exact UI n h0 ti ix h3 hl hb k (i + 1) m (by omega) (by omega)
def RightS (ts : List Ty) (ti ix : List Int) (foot : Str) : Bool :=
 decide (1 ≤ ts.length) && decide (ts.length ≤ 255) && decide (ti.length ≤ 4000) && decide (ti.length = ix.length) && textS foot 100 32 && ts.all okT && (List.range' 0 ix.length).all (okAt ti ix ts.length) && decide (Qx ts ≤ 256)
theorem right_val (n : Nat) (hn : 4001 ≤ n) (ts : List Ty) (ti ix : List Int) (foot : Str) : Bn n (ts.map cT) ti ix foot = some (RightS ts ti ix foot) := by
 unfold Bn Bl Dp wC RightS
 simp only [List.length_map]
 by_cases c1 : (ts.length : Int) < 1
 ·rw [aa c1]; simp [show ¬ (1 ≤ ts.length) by omega]
 rw [ah c1, decide_eq_true (show 1 ≤ ts.length by omega)]
 by_cases c2 : (ts.length : Int) > 255
 ·rw [aa c2]; simp [show ¬ (ts.length ≤ 255) by omega]
 rw [ah c2, decide_eq_true (show ts.length ≤ 255 by omega)]
 by_cases c3 : (ti.length : Int) > 4000
 ·rw [aa c3]; simp [show ¬ (ti.length ≤ 4000) by omega]
 rw [ah c3, decide_eq_true (show ti.length ≤ 4000 by omega)]
 by_cases c4 : ti.length = ix.length
 case neg =>
  have : ((ti.length : Int) != (ix.length : Int)) = true := by simp; omega
  rw [this]; simp [c4]
 have : ((ti.length : Int) != (ix.length : Int)) = false := by simp; omega
 rw [this, decide_eq_true c4, UG n foot 100 32 (by omega) (fun h => by omega)]
 simp only [cond_false, Option.bind_some, Bool.true_and]
 cases c5 : textS foot 100 32 with
 | false => simp
 | true =>
  have e1 := UH n (by omega) ts (ts.map cT) ti ix foot (by omega) ts 0 n 0 (by simp) (by omega) (by omega)
  simp only [Int.natCast_zero, Nat.zero_add] at e1
  simp only [Bool.not_true, cond_false, List.length_map, e1, Option.bind_some]
  cases c6 : ts.all okT with
  | false => simp
  | true =>
   have e2 := UI n (ts.map cT) ti ix foot c4 (by omega) ix.length 0 n (by omega) (by omega)
   simp only [Int.natCast_zero, List.length_map] at e2
   simp only [if_true, Sum.elim_inr, e2, Option.bind_some]
   cases c7 : (List.range' 0 ix.length).all (okAt ti ix ts.length) with
   | false => simp
   | true =>
    simp only [if_true, Sum.elim_inr, Bool.true_and]
    congr 1
    rw [decide_eq_decide]; omega
end Go.Proofs.YtiegmpnagcdgoaaGreatDoor.H.Z
namespace Go.Sh
open Go.RowKit
set_option linter.unusedSimpArgs false
set_option linter.unusedVariables false
def MC (W : World) (b : Nat) : Nat := match W.heap[b]? with
 | some (.cells c _ _) => c.size
 | _ => 0
def gW (W : World) : Gh := ⟨[], MC W⟩
theorem R5 {W : World} {a : Addr} {v : Value} (h : W.cell? a = some v) : a.spot = none ∧ a.off < MC W a.block := by
 unfold World.cell? at h
 unfold MC
 split at h
 ·rename_i c t f hb
  simp only [hb]
  split at h
  ·cases h
  ·rename_i hs
   refine ⟨by simpa using hs, ?_⟩
   obtain ⟨h1, _⟩ := Array.getElem?_eq_some_iff.1 h
   exact h1
 ·cases h
theorem X4 {W : World} {b : Nat} (h : 0 < MC W b) : b < W.heap.size := by
 unfold MC at h
 split at h
 ·rename_i hb
  obtain ⟨h1, _⟩ := Array.getElem?_eq_some_iff.1 hb
  exact h1
 ·omega
inductive LD where
 | int (k : IntKind)
 | bool
 | str
 | ints (k : IntKind)
 | strs
 | sl (es : List LD)
mutual
def LD.sat : LD → AV → Prop
 | .int k, a => ∃ n, a = .int k n ∧ (Lit.int k n).wf = true
 | .bool, a => ∃ b, a = .bool b
 | .str, a => ∃ s, a = .str s ∧ s.length ≤ 9223372036854775807
 | .ints k, a => ∃ l, a = .ints false k l ∧ ∀ n ∈ l, (Lit.int k n).wf = true
 | .strs, a => ∃ l, a = .strs false l
 | .sl es, a => ∃ els, a = .sl false es.length els ∧ ∀ e ∈ els, LD.sG es e
def LD.sG : List LD → List AV → Prop
 | [], az => az = []
 | d :: ds, az => ∃ a bs, az = a :: bs ∧ LD.sat d a ∧ LD.sG ds bs
end
theorem KM : ∀ {ds es : List LD} {az bs : List AV}, LD.sG ds az → LD.sG es bs → LD.sG (ds ++ es) (az ++ bs)
 | [], _, _, _, h, k => by simp only [LD.sG] at h; subst h; exact k
 | d :: ds, _, _, _, h, k => by
  simp only [LD.sG] at h
  obtain ⟨a, bs, rfl, h1, h2⟩ := h
  simp only [List.cons_append, LD.sG]
  exact ⟨a, _, rfl, h1, KM h2 k⟩
theorem OV : ∀ {ds : List LD} {az : List AV}, LD.sG ds az → az.length = ds.length
 | [], _, h => by simp only [LD.sG] at h; subst h; rfl
 | d :: ds, _, h => by
  simp only [LD.sG] at h
  obtain ⟨a, bs, rfl, h1, h2⟩ := h
  simp [OV h2]
theorem ME {g : Gh} {w : World} : ∀ {az bs : List AV} {vs us : List Value}, VRs g w az vs → VRs g w bs us → VRs g w (az ++ bs) (vs ++ us)
 | [], _, _, _, h, k => by simp only [VRs] at h; subst h; exact k
 | a :: az, _, _, _, h, k => by
  simp only [VRs] at h
  obtain ⟨v, us, rfl, h1, h2⟩ := h
  simp only [List.cons_append, VRs]
  exact ⟨v, _, rfl, h1, ME h2 k⟩
theorem Qy {d : LD} {a : AV} {v : Value} (h : LD.sat d a) : owns a v = [] := by
 cases d <;> simp only [LD.sat] at h
 ·obtain ⟨n, rfl, _⟩ := h; cases v <;> rfl
 ·obtain ⟨n, rfl⟩ := h; cases v <;> rfl
 ·obtain ⟨n, rfl, _⟩ := h; cases v <;> rfl
 ·obtain ⟨n, rfl, _⟩ := h; cases v <;> rfl
 ·obtain ⟨n, rfl⟩ := h; cases v <;> rfl
 ·obtain ⟨n, rfl, _⟩ := h; cases v <;> rfl
theorem R6 : ∀ {ds : List LD} {az : List AV} (vs : List Value), LD.sG ds az → aD az vs = []
 | [], _, vs, h => by simp only [LD.sG] at h; subst h; cases vs <;> rfl
 | d :: ds, _, vs, h => by
  simp only [LD.sG] at h
  obtain ⟨a, bs, rfl, h1, h2⟩ := h
  cases vs with
  | nil => rfl
  | cons v vs => simp only [aD, Qy h1, R6 vs h2, List.nil_append]
theorem X5 {d : LD} {a : AV} (h : LD.sat d a) : xB a = true := by
 cases d <;> simp only [LD.sat] at h
 ·obtain ⟨n, rfl, _⟩ := h; rfl
 ·obtain ⟨n, rfl⟩ := h; rfl
 ·obtain ⟨n, rfl, _⟩ := h; rfl
 ·obtain ⟨n, rfl, _⟩ := h; rfl
 ·obtain ⟨n, rfl⟩ := h; rfl
 ·obtain ⟨n, rfl, _⟩ := h; rfl
theorem Qz : ∀ {ds : List LD} {az : List AV}, LD.sG ds az → nQ az = true
 | [], _, h => by simp only [LD.sG] at h; subst h; rfl
 | d :: ds, _, h => by
  simp only [LD.sG] at h
  obtain ⟨a, bs, rfl, h1, h2⟩ := h
  simp only [nQ, X5 h1, Qz h2, Bool.and_self]
theorem UJ {g : Gh} {w : World} {d : LD} {a : AV} {v : Value} (h : LD.sat d a) (hv : VR g w a v) : v.oneCell' = true := by
 cases d <;> simp only [LD.sat] at h
 ·obtain ⟨n, rfl, _⟩ := h; simp only [VR] at hv; subst hv; rfl
 ·obtain ⟨n, rfl⟩ := h; simp only [VR] at hv; subst hv; rfl
 ·obtain ⟨n, rfl, _⟩ := h; simp only [VR] at hv; obtain ⟨s, rfl, _⟩ := hv; rfl
 ·obtain ⟨n, rfl, _⟩ := h; simp only [VR] at hv; obtain ⟨a, n, c, rfl, _⟩ := hv; rfl
 ·obtain ⟨n, rfl⟩ := h; simp only [VR] at hv; obtain ⟨a, n, c, rfl, _⟩ := hv; rfl
 ·obtain ⟨n, rfl, _⟩ := h; simp only [VR] at hv; obtain ⟨a, n, c, vs, rfl, _⟩ := hv; rfl
theorem NF {g : Gh} {w : World} : ∀ {ds : List LD} {az : List AV} {vs : List Value}, LD.sG ds az → VRs g w az vs → ∀ u ∈ vs, u.oneCell' = true
 | [], _, _, h, k => by simp only [LD.sG] at h; subst h; simp only [VRs] at k; subst k; intro u hu; cases hu
 | d :: ds, _, _, h, k => by
  simp only [LD.sG] at h
  obtain ⟨a, bs, rfl, h1, h2⟩ := h
  simp only [VRs] at k
  obtain ⟨v, us, rfl, k1, k2⟩ := k
  intro u hu
  rcases List.mem_cons.1 hu with rfl | hu
  ·exact UJ h1 k1
  ·exact NF h2 k2 u hu
def Tg : List LD → LD
 | [.int k] => .ints k
 | [.str] => .strs
 | es => .sl es
def ZQ (P : Program) (g : TypeId → Option (List LD)) : Nat → List Field → Option (List LD)
 | _, [] => some []
 | off, f :: fs => match g f.type with
  | some l => if f.offset = off ∧ l.length = P.cellsOf f.type then (ZQ P g (off + l.length) fs).map (l ++ ·) else none
  | none => none
def UK (P : Program) : Nat → TypeId → Option (List LD)
 | 0, _ => none
 | n + 1, t => match P.underlying t with
  | some .bool => some [.bool]
  | some (.int k) => some [.int k]
  | some .string => some [.str]
  | some (.slice e) => match UK P n e with
   | some es => if es.length = P.cellsOf e ∧ 0 < es.length then some [Tg es] else none
   | none => none
  | some (.struct fs) => match ZQ P (UK P n) 0 fs.toList with
   | some l => if l.length = P.cellsOf t then some l else none
   | none => none
  | some (.array k e) => match UK P n e with
   | some es => if es.length = P.cellsOf e ∧ k * es.length = P.cellsOf t then some (List.replicate k es).flatten else none
   | none => none
  | _ => none
variable {H : Type} {enc : TypeId × Value → H} {P : Program} {W : World}
theorem X6 {a : Addr} {n : Nat} {cs : List Value} (h : W.cells? 0 a n = some cs) : cs.length = n ∧ ∀ i, i < n → W.cell? (a.add i) = cs[i]? := by
 unfold World.cells? at h
 rw [if_pos (Nat.zero_le _)] at h
 have h1 := mapM_some_length h
 simp only [List.length_range] at h1
 exact ⟨h1, fun i hi => mapM_some_get h i i (by simp [hi])⟩
theorem add_add (a : Addr) (i j : Nat) : (a.add i).add j = a.add (i + j) := by
 unfold Addr.add
 by_cases hi : i = 0
 ·subst hi; simp
 ·by_cases hj : j = 0
  ·subst hj; simp [hi]
  ·simp only [if_neg hi, if_neg hj, if_neg (show ¬ i + j = 0 by omega)]
   simp [Nat.add_assoc]
theorem UL {a : Addr} {q : Nat} {v : Value} (h : W.cell? (a.add q) = some v) (hs : a.spot = none) : a.off + q < MC W a.block ∧ W.cell? ⟨a.block, a.off + q, none⟩ = some v := by
 have h2 : a.add q = ⟨a.block, a.off + q, none⟩ := by
  unfold Addr.add
  split
  ·rename_i h0
   subst h0
   cases a
   simp only at hs
   subst hs
   simp
  ·rfl
 rw [h2] at h
 exact ⟨(R5 h).2, h⟩
theorem elems {n : Nat} {e : TypeId} {es : List LD} (hsz : es.length = P.cellsOf e) (hpos : 0 < es.length) (a : Addr) (len : Nat)
 (hel : ∀ i, i < len → ∃ az cs', W.cells? 0 (a.add (i * P.cellsOf e)) (P.cellsOf e) = some cs' ∧ VRs (gW W) W az cs' ∧ LD.sG es az) :
 ∃ els vs, els.length = len ∧ vs.length = len * es.length ∧ VRss (gW W) W els vs ∧ (∀ x ∈ els, LD.sG es x) ∧ (∀ q, q < vs.length → W.cell? (a.add q) = vs[q]?) ∧ ∀ u ∈ vs, u.oneCell' = true := by
 induction len with
 | zero => exact ⟨[], [], rfl, by simp, by simp [VRss], by simp, by simp, by simp⟩
 | succ len ih =>
  obtain ⟨els, vs, h1, h2, h3, h4, h5, h6⟩ := ih fun i hi => hel i (by omega)
  obtain ⟨az, cs', k1, k2, k3⟩ := hel len (by omega)
  obtain ⟨c1, c2⟩ := X6 k1
  refine ⟨els ++ [az], vs ++ cs', by simp [h1], by simp [h2, c1, hsz, Nat.add_mul], VRss.append h3 (by simp only [VRss]; exact ⟨cs', [], by simp, k2, rfl⟩), ?_, ?_, ?_⟩
  ·intro x hx
   rcases List.mem_append.1 hx with hx | hx
   ·exact h4 x hx
   ·simp at hx; subst hx; exact k3
  ·intro q hq
   by_cases hlt : q < vs.length
   ·rw [List.getElem?_append_left hlt]; exact h5 q hlt
   ·rw [List.getElem?_append_right (by omega)]
    have hq' : q - vs.length < P.cellsOf e := by simp only [List.length_append] at hq; omega
    have := c2 (q - vs.length) hq'
    rw [add_add] at this
    rw [← this, ← hsz, ← h2]
    congr 2
    omega
  ·intro u hu
   rcases List.mem_append.1 hu with hu | hu
   ·exact h6 u hu
   ·exact NF k3 k2 u hu
theorem WO {k : IntKind} : ∀ {els : List (List AV)} {vs : List Value}, VRss (gW W) W els vs → (∀ x ∈ els, LD.sG [.int k] x) → ∃ l : List Int, vs = l.map (Value.int k) ∧ l.length = els.length ∧ ∀ n ∈ l, (Lit.int k n).wf = true
 | [], vs, h, _ => by simp only [VRss] at h; subst h; exact ⟨[], rfl, rfl, by simp⟩
 | e :: els, vs, h, hs => by
  simp only [VRss] at h
  obtain ⟨p, q, rfl, h1, h2⟩ := h
  obtain ⟨l, rfl, hl, hw⟩ := WO h2 fun x hx => hs x (by simp [hx])
  have he := hs e (by simp)
  simp only [LD.sG] at he
  obtain ⟨a, bs, rfl, ha, rfl⟩ := he
  simp only [LD.sat] at ha
  obtain ⟨n, rfl, hn⟩ := ha
  simp only [VRs, VR] at h1
  obtain ⟨v, us, rfl, rfl, rfl⟩ := h1
  exact ⟨n :: l, rfl, by simp [hl], by intro m hm; rcases List.mem_cons.1 hm with rfl | hm; exact hn; exact hw m hm⟩
theorem WP : ∀ {els : List (List AV)} {vs : List Value}, VRss (gW W) W els vs → (∀ x ∈ els, LD.sG [.str] x) → ∃ l : List Str, vs = l.map (fun s => Value.string ⟨s.toArray⟩) ∧ l.length = els.length
 | [], vs, h, _ => by simp only [VRss] at h; subst h; exact ⟨[], rfl, rfl⟩
 | e :: els, vs, h, hs => by
  simp only [VRss] at h
  obtain ⟨p, q, rfl, h1, h2⟩ := h
  obtain ⟨l, rfl, hl⟩ := WP h2 fun x hx => hs x (by simp [hx])
  have he := hs e (by simp)
  simp only [LD.sG] at he
  obtain ⟨a, bs, rfl, ha, rfl⟩ := he
  simp only [LD.sat] at ha
  obtain ⟨s, rfl, _⟩ := ha
  simp only [VRs, VR] at h1
  obtain ⟨v, us, rfl, ⟨z, rfl, rfl⟩, rfl⟩ := h1
  exact ⟨z.data.toList :: l, by simp, by simp [hl]⟩
theorem R7 {es : List LD} (hpos : 0 < es.length) {a : Option Addr} {len cap : Nat} {els : List (List AV)} {vs : List Value} (hlc : len ≤ cap) (h1 : els.length = len) (h2 : vs.length = len * es.length) (h3 : VRss (gW W) W els vs) (h4 : ∀ x ∈ els, LD.sG es x)
 (h5 : 0 < vs.length → ∃ ad, a = some ad ∧ ∀ q, q < vs.length → W.cell? (ad.add q) = vs[q]?) (h6 : ∀ u ∈ vs, u.oneCell' = true) (h7 : a = none → len = 0 ∧ cap = 0) :
 ∃ av, VR (gW W) W av (.slice a len cap) ∧ LD.sat (Tg es) av := by
 have hrow : Row (gW W) W false a len cap es.length vs := by
  refine ⟨h2, hlc, Nat.zero_le _, fun hp => ?_, (fun h => by cases h), h7, h6⟩
  obtain ⟨ad, rfl, k5⟩ := h5 hp
  refine ⟨ad, rfl, ?_⟩
  have hs : ad.spot = none := by
   have h0 := k5 0 hp
   rw [List.getElem?_eq_getElem hp] at h0
   exact (R5 (a := ad.add 0) h0).1
  have hl := k5 (vs.length - 1) (by omega)
  rw [List.getElem?_eq_getElem (by omega)] at hl
  refine ⟨hs, ?_, fun j hj => ?_⟩
  ·have := (UL hl hs).1
   show ad.off + vs.length ≤ MC W ad.block
   omega
  ·have hj' := k5 j hj
   rw [List.getElem?_eq_getElem hj] at hj' ⊢
   exact (UL hj' hs).2
 have gen : ∃ av, VR (gW W) W av (.slice a len cap) ∧ LD.sat (.sl es) av := by
  refine ⟨.sl false es.length els, ?_, ?_⟩
  ·simp only [VR]
   exact ⟨a, len, cap, vs, rfl, hrow, h1, fun e he => ⟨OV (h4 e he), Qz (h4 e he)⟩, h3⟩
  ·simp only [LD.sat]
   exact ⟨els, rfl, h4⟩
 unfold Tg
 split
 ·rename_i k
  obtain ⟨l, rfl, hl, hw⟩ := WO h3 h4
  refine ⟨.ints false k l, ?_, ?_⟩
  ·simp only [VR]
   exact ⟨a, len, cap, rfl, hrow⟩
  ·simp only [LD.sat]
   exact ⟨l, rfl, hw⟩
 ·obtain ⟨l, rfl, hl⟩ := WP h3 h4
  refine ⟨.strs false l, ?_, ?_⟩
  ·simp only [VR]
   exact ⟨a, len, cap, rfl, hrow⟩
  ·simp only [LD.sat]
   exact ⟨l, rfl⟩
 ·exact gen
theorem OW {sp : Nat → Bool} {held : Bool} {g : TypeId → Option (List LD)} {m : Nat} (hg : ∀ t lds, g t = some lds → ∀ (cs : List Value) x, DataW.trod enc P W 0 sp held m t cs = some x → ∃ az, VRs (gW W) W az cs ∧ LD.sG lds az) :
 ∀ (fs : List Field) (off : Nat) (l : List LD) (cs : List Value), ZQ P g off fs = some l → off + l.length = cs.length → (∀ f ∈ fs, ∃ x, DataW.trod enc P W 0 sp held m f.type ((cs.drop f.offset).take (P.cellsOf f.type)) = some x) → ∃ az, VRs (gW W) W az (cs.drop off) ∧ LD.sG l az
 | [], off, l, cs, h, hl, _ => by
  simp only [ZQ, Option.some.injEq] at h
  subst h
  simp only [List.length_nil, Nat.add_zero] at hl
  exact ⟨[], by simp [VRs]; omega, by simp [LD.sG]⟩
 | f :: fs, off, l, cs, h, hl, hf => by
  simp only [ZQ] at h
  split at h
  ·rename_i d hd
   split at h
   ·rename_i hc
    obtain ⟨h1, h2⟩ := hc
    obtain ⟨l', h3, rfl⟩ := Option.map_eq_some_iff.1 h
    simp only [List.length_append] at hl
    obtain ⟨az', k1, k2⟩ := OW hg fs _ l' cs h3 (by omega) fun f' hf' => hf f' (by simp [hf'])
    obtain ⟨x, hx⟩ := hf f (by simp)
    obtain ⟨az, k3, k4⟩ := hg _ _ hd _ x hx
    refine ⟨az ++ az', ?_, KM k4 k2⟩
    have e : cs.drop off = (cs.drop off).take d.length ++ cs.drop (off + d.length) := by
     rw [← List.drop_drop, List.take_append_drop]
    rw [e]
    rw [h1, ← h2] at k3
    exact ME k3 k1
   ·cases h
  ·cases h
theorem opened {sp : Nat → Bool} {held : Bool} : ∀ (n : Nat) (t : TypeId) (lds : List LD), UK P n t = some lds → ∀ (m : Nat) (cs : List Value) (x : DataW H × List MemPlace), DataW.trod enc P W 0 sp held m t cs = some x → ∃ az, VRs (gW W) W az cs ∧ LD.sG lds az := by
 intro n
 induction n with
 | zero => intro t lds h; cases h
 | succ n ih =>
  intro t lds h m cs x hx
  unfold UK at h
  split at h
  ·rename_i hu
   injection h with h; subst h
   obtain ⟨b, rfl, _⟩ := DataW.trod_bool hu hx
   exact ⟨[.bool b], by simp [VRs, VR], by simp [LD.sG, LD.sat]⟩
  ·rename_i k hu
   injection h with h; subst h
   obtain ⟨b, rfl, _, hw⟩ := DataW.trod_int hu hx
   exact ⟨[.int k b], by simp [VRs, VR], by simp [LD.sG, LD.sat, hw]⟩
  ·rename_i hu
   injection h with h; subst h
   obtain ⟨s, rfl, _, hsz⟩ := DataW.trod_string hu hx
   exact ⟨[.str s.data.toList], by simp only [VRs, VR]; exact ⟨_, _, rfl, ⟨s, rfl, rfl⟩, rfl⟩, by simp only [LD.sG, LD.sat]; exact ⟨_, _, rfl, ⟨_, rfl, by simpa [maxLen] using hsz⟩, rfl⟩⟩
  ·rename_i e hu
   split at h
   ·rename_i es hes
    split at h
    ·rename_i hc
     injection h with h; subst h
     rcases Deep.open_slice hu hx with ⟨rfl, _⟩ | ⟨a, len, cap, m', n', D, Pl, rfl, _, hl, _, hm, _, hel⟩
     ·obtain ⟨av, h1, h2⟩ := R7 (W := W) (es := es) hc.2 (a := none) (len := 0) (cap := 0) (els := []) (vs := []) (Nat.le_refl _) rfl (by simp) (by simp [VRss]) (by simp) (by simp) (by simp) (fun _ => ⟨rfl, rfl⟩)
      exact ⟨[av], by simp only [VRs]; exact ⟨_, _, rfl, h1, rfl⟩, by simp [LD.sG, h2]⟩
     ·have hlm : len ≤ m' := by rw [hm]; split <;> omega
      obtain ⟨els, vs, h1, h2, h3, h4, h5, h6⟩ := elems (n := n') (W := W) hc.1 hc.2 a len (fun i hi => by
       obtain ⟨cs', k1, k2⟩ := hel i (by omega)
       obtain ⟨az, k3, k4⟩ := ih e es hes _ _ _ k2
       exact ⟨az, cs', k1, k3, k4⟩)
      obtain ⟨av, k1, k2⟩ := R7 (W := W) (es := es) hc.2 (a := some a) (cap := cap) hl h1 h2 h3 h4 (fun _ => ⟨a, rfl, h5⟩) h6 (fun h => by cases h)
      exact ⟨[av], by simp only [VRs]; exact ⟨_, _, rfl, k1, rfl⟩, by simp [LD.sG, k2]⟩
    ·cases h
   ·cases h
  ·rename_i fs hu
   split at h
   ·rename_i l hl
    split at h
    ·rename_i hc
     injection h with h; subst h
     obtain ⟨xs, m', rfl, _, hlen, hxl, hf⟩ := DataW.trod_struct hu hx
     obtain ⟨az, h1, h2⟩ := OW (sp := sp) (held := held) (enc := enc) (g := UK P n) (m := m') (fun t lds h cs x hx => ih t lds h m' cs x hx) fs.toList 0 l cs hl (by omega) (fun f hfm => by
      obtain ⟨i, hi, he⟩ := List.mem_iff_getElem.1 hfm
      have hi' : i < fs.size := by simpa using hi
      have := hf i f (by rw [Array.getElem?_eq_getElem hi']; congr)
      rw [this, List.getElem?_eq_getElem (by omega)]
      exact ⟨_, rfl⟩)
     exact ⟨az, by simpa using h1, h2⟩
    ·cases h
   ·cases h
  ·rename_i k e hu
   split at h
   ·rename_i es hes
    split at h
    ·rename_i hc
     injection h with h; subst h
     obtain ⟨xs, m', rfl, _, hlen, hxl, hf⟩ := DataW.trod_array hu hx
     have hk : ∀ j, j ≤ k → ∃ az, VRs (gW W) W az (cs.take (j * es.length)) ∧ LD.sG (List.replicate j es).flatten az := by
      intro j
      induction j with
      | zero => intro _; exact ⟨[], by simp [VRs], by simp [LD.sG]⟩
      | succ j ihj =>
       intro hj
       obtain ⟨az, h1, h2⟩ := ihj (by omega)
       have h3 := hf j (by omega)
       rw [List.getElem?_eq_getElem (by omega)] at h3
       obtain ⟨bs, h4, h5⟩ := ih e es hes _ _ _ h3
       refine ⟨az ++ bs, ?_, ?_⟩
       ·have e1 : cs.take ((j + 1) * es.length) = cs.take (j * es.length) ++ (cs.drop (j * es.length)).take es.length := by
         rw [Nat.add_mul, Nat.one_mul, List.take_add]
        rw [e1]
        rw [← hc.1] at h4
        exact ME h1 h4
       ·rw [List.replicate_succ', List.flatten_append]
        simpa using KM h2 h5
     obtain ⟨az, h1, h2⟩ := hk k (Nat.le_refl _)
     rw [List.take_of_length_le (by omega)] at h1
     exact ⟨az, h1, h2⟩
    ·cases h
   ·cases h
  ·cases h
theorem UM {sp : Nat → Bool} {held : Bool} {n : Nat} {t : TypeId} {d : LD} {v : Value} {x : DataW H} {ps : List MemPlace} (hl : UK P n t = some [d]) (hv : v.cells = #[v]) (h : DataW.Trod enc P W 0 sp held t v x ps) : ∃ a, VR (gW W) W a v ∧ LD.sat d a := by
 obtain ⟨fuel, hf⟩ := h
 obtain ⟨az, h1, h2⟩ := opened n t _ hl _ _ _ hf
 simp only [LD.sG] at h2
 obtain ⟨a, bs, rfl, h3, rfl⟩ := h2
 rw [hv] at h1
 simp only [VRs] at h1
 obtain ⟨u, us, he, h4, h5⟩ := h1
 simp only [List.cons.injEq] at he
 obtain ⟨rfl, rfl⟩ := he
 exact ⟨a, h4, h3⟩
theorem ZR {sp : Nat → Bool} {held : Bool} {n : Nat} {t : TypeId} {ds : List LD} {vs : Array Value} {x : DataW H} {ps : List MemPlace} (hl : UK P n t = some ds) (h : DataW.Trod enc P W 0 sp held t (.agg vs) x ps) : ∃ az, VR (gW W) W (.agg az) (.agg vs) ∧ LD.sG ds az := by
 obtain ⟨fuel, hf⟩ := h
 obtain ⟨az, h1, h2⟩ := opened n t _ hl _ _ _ hf
 refine ⟨az, ?_, h2⟩
 simp only [VR]
 exact ⟨vs, rfl, h1⟩
theorem ZT {ds : List LD} {az : List AV} {vs : Array Value} (h : LD.sG ds az) : owns (.agg az) (.agg vs) = [] := by simp only [owns, R6 _ h]
theorem ZU {f : FuncId} {sp : FSpec} (h : FSound P f sp) {args : List AV} {H0 : List AObj} (vs : List Value) (hvs : VRs (gW W) W args vs) (hown : aD args vs = []) (hgood : GdH W.heap)
 (hsp : sp args [] (AV × List AObj) (fun v H => some (v, H)) = some (.bool true, H0)) : Calls P f vs.toArray W fun e W' => e = .returned (.bool true) ∧ Below W.heap.size W W' :=
 Vt h W vs (gW W) rfl hvs hown (fun b hb => X4 hb) hgood hsp
theorem wf_i64 {n : Int} (h : (Lit.int .i64 n).wf = true) : -9223372036854775808 ≤ n ∧ n ≤ 9223372036854775807 := by
 simp only [Lit.wf, Bool.and_eq_true, decide_eq_true_eq] at h
 exact h
end Go.Sh
namespace Go.Proofs.YtiegmpnagcdgoaaGreatDoor.H.Z
open Go.Sh Go.RowKit
set_option linter.unusedSimpArgs false
set_option linter.unusedVariables false
def come (ti : List Int) (sec : Int) : Nat := ti.countP fun x => decide (x ≤ sec)
theorem aa5 (i j : Nat) (hj : i + j ≤ 8000) : IntKind.i64.wrap (Int.fdiv (IntKind.u64.wrap (IntKind.i64.wrap ((i : Int) + (j : Int)))) (2 ^ 1)) = (((i + j) / 2 : Nat) : Int) := by
 rw [wi ((i : Int) + (j : Int)) (by omega) (by omega), IntWalk.u64_in _ (by omega), show ((2 : Int) ^ 1) = 2 from rfl, Int.fdiv_eq_ediv_of_nonneg _ (by omega), wi _ (by omega) (by omega)]
 omega
theorem KN (n : Nat) (h0 : List (List AV)) (ti ix : List Int) (h3 : Str) (sec : Int) (hb : ti.length ≤ 4000) : ∀ (d i j m : Nat), j - i ≤ d → i ≤ j → j ≤ ti.length → d < m → (0 < i → ti.getD (i - 1) 0 ≤ sec) → (j < ti.length → sec < ti.getD j 0) →
 ∃ k : Nat, lV n m (i : Int) (j : Int) h0 ti ix h3 sec = some ((k : Int), h0, ti, ix, h3, sec) ∧ k ≤ ti.length ∧ (0 < k → ti.getD (k - 1) 0 ≤ sec) ∧ (k < ti.length → sec < ti.getD k 0)
 | d, i, j, 0, _, _, _, hm, _, _ => absurd hm (by omega)
 | 0, i, j, m + 1, hd, hij, hj, hm, h1, h2 => by
  refine ⟨i, ?_, by omega, h1, (show j = i by omega) ▸ h2⟩
  simp only [lV, nY]
  rw [ah (by omega)]
 | d + 1, i, j, m + 1, hd, hij, hj, hm, h1, h2 => by
  by_cases hlt : i < j
  ·have hh : (i + j) / 2 < ti.length := by omega
   simp only [lV, nY]
   rw [aa (by omega), aa5 i j (by omega)]
   simp only [KD, DX]
   rw [aa (by omega), Int.toNat_natCast, get_of hh]
   simp only [Option.bind_some]
   by_cases hc : ti.getD ((i + j) / 2) 0 > sec
   ·rw [decide_eq_true hc]
    simp only [Bool.not_true, cond_false]
    exact KN n h0 ti ix h3 sec hb d i ((i + j) / 2) m (by omega) (by omega) (by omega) (by omega) h1 (fun _ => hc)
   ·rw [decide_eq_false hc]
    simp only [Bool.not_false, cond_true]
    rw [vJ _ (by omega)]
    exact KN n h0 ti ix h3 sec hb d ((i + j) / 2 + 1) j m (by omega) (by omega) (by omega) (by omega) (fun _ => by simp only [Nat.add_sub_cancel]; omega) h2
  ·refine ⟨i, ?_, by omega, h1, (show j = i by omega) ▸ h2⟩
   simp only [lV, nY]
   rw [ah (by omega)]
theorem Ti {ti ix : List Int} {len : Nat} (hl : ti.length = ix.length) (h : (List.range' 0 ix.length).all (okAt ti ix len) = true) : ∀ (b a : Nat), a < b → b < ti.length → ti.getD a 0 < ti.getD b 0
 | 0, a, h1, _ => absurd h1 (by omega)
 | b + 1, a, h1, h2 => by
  have h3 := List.all_eq_true.1 h (b + 1) (by rw [List.mem_range'_1]; omega)
  simp only [okAt, Bool.and_eq_true, Bool.or_eq_true, decide_eq_true_eq, beq_iff_eq] at h3
  have h4 : ti.getD b 0 < ti.getD (b + 1) 0 := by
   rcases h3.2 with h | h
   ·omega
   ·simpa using h
  rcases Nat.lt_or_ge a b with h5 | h5
  ·have := Ti hl h b a h5 (by omega)
   omega
  ·have : a = b := by omega
   subst this; exact h4
theorem Tj {ti : List Int} {sec : Int} {k : Nat} (hm : ∀ (b a : Nat), a < b → b < ti.length → ti.getD a 0 < ti.getD b 0) (hk : k ≤ ti.length) (h1 : 0 < k → ti.getD (k - 1) 0 ≤ sec) (h2 : k < ti.length → sec < ti.getD k 0) : come ti sec = k := by
 have e : come ti sec = (ti.take k).countP (fun x => decide (x ≤ sec)) + (ti.drop k).countP (fun x => decide (x ≤ sec)) := by
  unfold come
  conv => lhs; rw [← List.take_append_drop k ti]
  rw [List.countP_append]
 have e1 : (ti.take k).countP (fun x => decide (x ≤ sec)) = (ti.take k).length := by
  rw [List.countP_eq_length]
  intro x hx
  obtain ⟨i, hi, rfl⟩ := List.mem_iff_getElem.1 hx
  rw [List.length_take] at hi
  rw [List.getElem_take]
  have h3 : ti[i] = ti.getD i 0 := by rw [List.getD_eq_getElem?_getD, List.getElem?_eq_getElem (by omega)]; rfl
  rw [h3, decide_eq_true_eq]
  have h4 := h1 (by omega)
  rcases Nat.lt_or_ge i (k - 1) with h5 | h5
  ·have := hm (k - 1) i h5 (by omega)
   omega
  ·have : i = k - 1 := by omega
   subst this; exact h4
 have e2 : (ti.drop k).countP (fun x => decide (x ≤ sec)) = 0 := by
  rw [List.countP_eq_zero]
  intro x hx
  obtain ⟨i, hi, rfl⟩ := List.mem_iff_getElem.1 hx
  rw [List.length_drop] at hi
  rw [List.getElem_drop]
  have h3 : ti[k + i] = ti.getD (k + i) 0 := by rw [List.getD_eq_getElem?_getD, List.getElem?_eq_getElem (by omega)]; rfl
  rw [h3, decide_eq_true_eq]
  have h4 := h2 (by omega)
  rcases Nat.eq_zero_or_pos i with h5 | h5
  ·subst h5; simp only [Nat.add_zero]; omega
  ·have := hm (k + i) k (by omega) (by omega)
   omega
 rw [e, e1, e2, List.length_take]
 omega
def stdS (ts : List Ty) : Int := match ts.findIdx? fun t => !t.2.1 with
 | some j => j
 | none => 0
theorem WQ (n : Nat) (ts : List Ty) (hts : ts.length ≤ 255) : ∀ (r : List Ty) (i m : Nat), ts.drop i = r → r.length < m →
 tF n m (ts.map cT) (ts.length : Int) (i : Int) = some (match r.findIdx? fun t => !t.2.1 with | some j => Sum.inl ((i + j : Nat) : Int) | none => Sum.inr ())
 | [], i, m + 1, h, _ => by
  have hi := drop_nil h
  simp only [tF, u7]
  rw [ah (by omega)]
  simp
 | t :: r, i, m + 1, h, hm => by
  obtain ⟨k1, k2, k3⟩ := jJ h
  simp only [tF, u7]
  rw [aa (by omega), aa (by omega), Int.toNat_natCast, List.getElem?_map, k1, vJ _ (by omega)]
  simp only [Option.map_some, Option.bind_some, cT, unc, yu, yV, yX, unn, KF, DY, List.findIdx?_cons]
  cases hd : t.2.1 with
  | false => simp
  | true =>
   simp only [Bool.not_true, cond_false, decide_true, cond_true, Bool.false_eq_true, if_false]
   rw [WQ n ts hts r (i + 1) m k2 (by simpa using hm)]
   cases r.findIdx? (fun t => !t.2.1) with
   | none => rfl
   | some j => simp only [Option.map_some]; congr 2; omega
def AtS (ts : List Ty) (ti ix : List Int) (foot : Str) (sec : Int) : Int :=
 if RightS ts ti ix foot then (if 0 < come ti sec then ix.getD (come ti sec - 1) 0 else stdS ts) else 0
theorem right_parts {ts : List Ty} {ti ix : List Int} {foot : Str} (h : RightS ts ti ix foot = true) : 1 ≤ ts.length ∧ ts.length ≤ 255 ∧ ti.length ≤ 4000 ∧ ti.length = ix.length ∧ textS foot 100 32 = true ∧ ts.all okT = true ∧ (List.range' 0 ix.length).all (okAt ti ix ts.length) = true ∧ Qx ts ≤ 256 := by
 simp only [RightS, Bool.and_eq_true, decide_eq_true_eq] at h
 obtain ⟨⟨⟨⟨⟨⟨⟨h1, h2⟩, h3⟩, h4⟩, h5⟩, h6⟩, h7⟩, h8⟩ := h
 exact ⟨h1, h2, h3, h4, h5, h6, h7, h8⟩
theorem come_le (ti : List Int) (sec : Int) : come ti sec ≤ ti.length := List.countP_le_length
theorem at_val (n : Nat) (hn : 4001 ≤ n) (ts : List Ty) (ti ix : List Int) (foot : Str) (sec : Int) : IQ n (ts.map cT) ti ix foot sec = some (AtS ts ti ix foot sec) := by
 unfold IQ IP AtS
 rw [right_val n hn]
 simp only [Option.bind_some]
 cases hR : RightS ts ti ix foot with
 | false => rfl
 | true =>
  obtain ⟨h1, h2, h3, h4, h5, h6, h7, h8⟩ := right_parts hR
  obtain ⟨k, e1, e2, e3, e4⟩ := KN n (ts.map cT) ti ix foot sec h3 ti.length 0 ti.length n (by omega) (by omega) (by omega) (by omega) (fun h => absurd h (by omega)) (fun h => absurd h (by omega))
  have hk := Tj (Ti h4 h7) e2 e3 e4
  simp only [Int.natCast_zero] at e1
  simp only [Bool.not_true, cond_false, Ie, zu, e1, Option.bind_some, if_true, hk]
  by_cases hp : 0 < k
  ·rw [aa (by omega), wi _ (by omega) (by omega), aa (by omega), if_pos hp, show ((k : Int) - 1).toNat = k - 1 by omega, get_of (show k - 1 < ix.length by omega)]
   rfl
  ·rw [ah (by omega), if_neg hp]
   have e5 := WQ n ts h2 ts 0 n (by simp) (by omega)
   simp only [Int.natCast_zero] at e5
   simp only [KG, DZ, List.length_map, e5, Option.bind_some, stdS]
   cases ts.findIdx? (fun t => !t.2.1) with
   | none => rfl
   | some j =>
    simp only [Sum.elim_inl, Option.bind_some, Nat.zero_add]
    congr 1
    split <;> omega
theorem open_types : ∀ {els : List (List AV)}, (∀ e ∈ els, LD.sG [.int .i64, .bool, .str] e) → ∃ ts : List Ty, els = ts.map cT ∧ ∀ t ∈ ts, -9223372036854775808 ≤ t.1 ∧ t.1 ≤ 9223372036854775807 ∧ t.2.2.length ≤ 9223372036854775807
 | [], _ => ⟨[], rfl, by simp⟩
 | e :: els, h => by
  obtain ⟨ts, rfl, h1⟩ := open_types (els := els) fun e he => h e (by simp [he])
  have h2 := h e (by simp)
  simp only [LD.sG, LD.sat] at h2
  obtain ⟨a, l1, rfl, ⟨n, rfl, hn⟩, b, l2, rfl, ⟨d, rfl⟩, c, l3, rfl, ⟨s, rfl, hs⟩, rfl⟩ := h2
  refine ⟨(n, d, s) :: ts, rfl, fun t ht => ?_⟩
  rcases List.mem_cons.1 ht with rfl | ht
  ·have := wf_i64 hn
   exact ⟨this.1, this.2, hs⟩
  ·exact h1 t ht
end Go.Proofs.YtiegmpnagcdgoaaGreatDoor.H.Z
namespace Go.Proofs.YtiegmpnagcdgoaaGreatDoor.H.Z
open Go.Sh Go.RowKit
set_option linter.unusedSimpArgs false
set_option linter.unusedVariables false
end Go.Proofs.YtiegmpnagcdgoaaGreatDoor.H.Z
namespace Go.Proofs.YtiegmpnagcdgoaaGreatDoor.H.Z
open Go.Sh Go.RowKit
set_option linter.unusedSimpArgs false
set_option linter.unusedVariables false
theorem X7 (n : Nat) (s : Str) (lo : Int) (i : Nat) (c : UInt8) (h : s[i]? = some c) : jU n s lo 126 (i : Int) = some (!okC lo c) := by
 unfold jU iH okC
 rw [aa (by omega), Int.toNat_natCast, h]
 simp only [Option.bind_some]
 by_cases hl : (c.toNat : Int) < lo
 ·rw [aa hl]; simp [hl]
 ·rw [ah hl, aa (by omega)]
  simp [hl]
theorem R8 (n : Nat) (s : Str) (lo : Int) (hs : s.length ≤ 9223372036854775807) : ∀ (r : Str) (i m : Nat), s.drop i = r → r.length < m →
 cu n m s lo 126 (i : Int) = some (if r.all (okC lo) then Sum.inr () else Sum.inl ())
 | [], i, m + 1, hd, _ => by
  have hi := drop_nil hd
  simp only [cu, eP]
  rw [ah (by omega)]
  rfl
 | c :: r, i, m + 1, hd, hm => by
  obtain ⟨k1, k2, k3⟩ := jJ hd
  simp only [List.length_cons] at hm
  simp only [cu, eP]
  rw [aa (by omega), X7 n s lo i c k1, vJ _ (by omega)]
  simp only [Option.bind_some, List.all_cons]
  by_cases hc : okC lo c = true
  ·simp only [hc, Bool.not_true, cond_false, Bool.true_and]
   exact R8 n s lo hs r (i + 1) m k2 (by omega)
  ·simp [hc]
theorem De (n : Nat) (s : Str) (a b lo : Int) (hs : s.length ≤ 9223372036854775807) (hn : s.length < n) : kD n s a b lo 126 = some (s.all (okC lo) && (decide ((s.length : Int) ≥ a) && decide ((s.length : Int) ≤ b))) := by
 unfold kD kC
 have e := R8 n s lo hs s 0 n (by simp) hn
 simp only [Int.natCast_zero] at e
 rw [e]
 simp only [Option.bind_some]
 cases hc : s.all (okC lo) with
 | false => rfl
 | true =>
  simp only [if_true, Sum.elim_inr, Bool.true_and]
  by_cases h : (s.length : Int) ≥ a
  ·rw [aa h, decide_eq_true h, Bool.true_and]
  ·rw [ah h, decide_eq_false h, Bool.false_and]
theorem abU (t : Ty) : okT t = (!decide (t.1 < -89999) && !decide (t.1 > 93599) && (t.2.2.all (okC 33) && (decide ((t.2.2.length : Int) ≥ 1) && decide ((t.2.2.length : Int) ≤ 15)))) := by
 unfold okT textS
 have e : (!(t.2.2 == [])) = decide ((t.2.2.length : Int) ≥ 1) := by
  cases t.2.2 with
  | nil => rfl
  | cons c s => simp; omega
 rw [e]
 cases decide (t.1 < -89999) <;> cases decide (t.1 > 93599) <;> cases decide ((t.2.2.length : Int) ≥ 1) <;> cases decide ((t.2.2.length : Int) ≤ 15) <;> cases t.2.2.all (okC 33) <;> rfl
theorem X8 (n : Nat) (ts : List Ty) (h1 h2 : List Int) (h3 : Str) (i : Nat) (t : Ty) (ht : ts[i]? = some t) (hl : t.2.2.length ≤ 9223372036854775807) (hn : t.2.2.length < n) : kE n (i : Int) (ts.map cT) h1 h2 h3 = some (!okT t, ts.map cT, h1, h2, h3) := by
 unfold kE jo
 rw [abU, aa (by omega), Int.toNat_natCast, List.getElem?_map, ht]
 simp only [Option.map_some, Option.bind_some, cT, unc, yu, yV, yX, unn, decide_true, cond_true]
 by_cases c1 : t.1 < -89999
 ·rw [aa c1]; simp [c1]
 rw [ah c1, aa (by omega)]
 by_cases c2 : t.1 > 93599
 ·rw [aa c2]; simp [c1, c2]
 rw [ah c2, aa (by omega), De n _ _ _ _ hl hn, decide_eq_false c1, decide_eq_false c2]
 rfl
theorem R9 (n : Nat) (ts : List Ty) (h1 h2 : List Int) (h3 : Str) (hts : ts.length ≤ 255) (hall : ∀ t ∈ ts, t.2.2.length ≤ 9223372036854775807 ∧ t.2.2.length < n) : ∀ (r : List Ty) (i m x : Nat), ts.drop i = r → r.length < m → x ≤ 16 * i →
 dw n m (x : Int) (i : Int) (ts.map cT) h1 h2 h3 = some (if r.all okT then Sum.inr (((x + Qx r : Nat) : Int), ts.map cT, h1, h2, h3) else Sum.inl (ts.map cT, h1, h2, h3))
 | [], i, m + 1, x, h, _, _ => by
  have hi := drop_nil h
  simp only [dw, gp]
  rw [ah (by rw [List.length_map]; omega)]
  simp [Qx]
 | t :: r, i, m + 1, x, h, hm, hx => by
  obtain ⟨k1, k2, k3⟩ := jJ h
  obtain ⟨q1, q2⟩ := hall t (List.mem_of_getElem? k1)
  simp only [List.length_cons] at hm
  simp only [dw, gp]
  rw [aa (by rw [List.length_map]; omega), aa (by omega), X8 n ts h1 h2 h3 i t k1 q1 q2, Int.toNat_natCast, List.getElem?_map, k1, vJ _ (by omega)]
  simp only [Option.map_some, Option.bind_some, cT, unc, yu, yV, yX, unn, decide_true, cond_true]
  cases hc : okT t with
  | false => simp [hc]
  | true =>
   have hl := okT_len hc
   simp only [hc, Bool.not_true, cond_false]
   have e : IntKind.i64.wrap (IntKind.i64.wrap ((x : Int) + (t.2.2.length : Int)) + 1) = ((x + (t.2.2.length + 1) : Nat) : Int) := by
    rw [wi ((x : Int) + (t.2.2.length : Int)) (by omega) (by omega), wi _ (by omega) (by omega)]; omega
   rw [e]
   have := R9 n ts h1 h2 h3 hts hall r (i + 1) m _ k2 (by omega) (show x + (t.2.2.length + 1) ≤ 16 * (i + 1) by omega)
   refine this.trans ?_
   simp only [List.all_cons, hc, Bool.true_and, Qx, Nat.add_assoc]
theorem X9 (n : Nat) (x : Int) (hx : ¬ x > 256) (h0 : List (List AV)) (ti ix : List Int) (h3 : Str) (i : Nat) (hi : i < ti.length) (hl : ti.length = ix.length) (hb : ti.length ≤ 4000) : iB n x (i : Int) h0 ti ix h3 = some (!okAt ti ix h0.length i, h0, ti, ix, h3) := by
 unfold iB gq okAt
 rw [ah hx, aa (by omega), Int.toNat_natCast, get_of (show i < ix.length by omega), Option.bind_some]
 by_cases c1 : ix.getD i 0 < 0
 ·rw [aa c1]; simp only [decide_eq_false (show ¬ (0 ≤ ix.getD i 0) by omega)]; rfl
 ·rw [ah c1, decide_eq_true (show 0 ≤ ix.getD i 0 by omega), aa (by omega), Option.bind_some]
  by_cases c2 : ix.getD i 0 ≥ (h0.length : Int)
  ·rw [aa c2]; simp only [decide_eq_false (show ¬ (ix.getD i 0 < (h0.length : Int)) by omega)]; rfl
  ·rw [ah c2, decide_eq_true (show ix.getD i 0 < (h0.length : Int) by omega)]
   by_cases c3 : (i : Int) > 0
   ·rw [aa c3, aa (by omega), get_of hi, Option.bind_some, wi _ (by omega) (by omega), aa (by omega), show ((i : Int) - 1).toNat = i - 1 by omega, get_of (show i - 1 < ti.length by omega), Option.bind_some]
    have : (i == 0) = false := by simp; omega
    rw [this]
    by_cases c4 : ti.getD i 0 ≤ ti.getD (i - 1) 0
    ·rw [decide_eq_true c4, decide_eq_false (show ¬ (ti.getD (i - 1) 0 < ti.getD i 0) by omega)]; rfl
    ·rw [decide_eq_false c4, decide_eq_true (show ti.getD (i - 1) 0 < ti.getD i 0 by omega)]; rfl
   ·rw [ah c3]
    have : i = 0 := by omega
    subst this
    rfl
theorem Sa (n : Nat) (x : Int) (hx : ¬ x > 256) (h0 : List (List AV)) (ti ix : List Int) (h3 : Str) (hl : ti.length = ix.length) (hb : ti.length ≤ 4000) : ∀ (k i m : Nat), i + k = ix.length → k < m →
 bL n m x (i : Int) h0 ti ix h3 = some (if (List.range' i k).all (okAt ti ix h0.length) then Sum.inr (h0, ti, ix, h3) else Sum.inl (h0, ti, ix, h3))
 | 0, i, m + 1, h, _ => by
  simp only [bL, dG]
  rw [ah (by omega)]
  simp
 | k + 1, i, m + 1, h, hm => by
  simp only [bL, dG]
  have hi : i < ix.length := by omega
  rw [aa (by omega), vJ _ (by omega)]
  simp only [X9 n x hx h0 ti ix h3 i (by omega) hl hb, Option.bind_some, List.range'_succ, List.all_cons]
  cases hc : okAt ti ix h0.length i with
  | false => simp
  | true =>
   simp only [Bool.not_true, cond_false, Bool.true_and]
   exact Sa n x hx h0 ti ix h3 hl hb k (i + 1) m (by omega) (by omega)
theorem rright_val (n : Nat) (hn : 4001 ≤ n) (ts : List Ty) (ti ix : List Int) (foot : Str) (hall : ∀ t ∈ ts, t.2.2.length ≤ 9223372036854775807 ∧ t.2.2.length < n) (hf : foot.length ≤ 9223372036854775807 ∧ foot.length < n) : lI n (ts.map cT) ti ix foot = some (RightS ts ti ix foot) := by
 unfold lI lH pF jm RightS
 simp only [List.length_map]
 by_cases c1 : (ts.length : Int) < 1
 ·rw [aa c1]; simp [show ¬ (1 ≤ ts.length) by omega]
 rw [ah c1, decide_eq_true (show 1 ≤ ts.length by omega)]
 by_cases c2 : (ts.length : Int) > 255
 ·rw [aa c2]; simp [show ¬ (ts.length ≤ 255) by omega]
 rw [ah c2, decide_eq_true (show ts.length ≤ 255 by omega)]
 by_cases c3 : (ti.length : Int) > 4000
 ·rw [aa c3]; simp [show ¬ (ti.length ≤ 4000) by omega]
 rw [ah c3, decide_eq_true (show ti.length ≤ 4000 by omega)]
 by_cases c4 : ti.length = ix.length
 case neg =>
  have : ((ti.length : Int) != (ix.length : Int)) = true := by simp; omega
  rw [this]; simp [c4]
 have : ((ti.length : Int) != (ix.length : Int)) = false := by simp; omega
 rw [this, decide_eq_true c4, De n foot 0 100 32 (by omega) (by omega)]
 have e0 : (foot.all (okC 32) && (decide ((foot.length : Int) ≥ 0) && decide ((foot.length : Int) ≤ 100))) = textS foot 100 32 := by
  unfold textS
  rw [decide_eq_true (show (foot.length : Int) ≥ 0 by omega), Bool.true_and, Bool.and_comm]
 simp only [e0, cond_false, Option.bind_some, Bool.true_and]
 cases c5 : textS foot 100 32 with
 | false => simp
 | true =>
  have e1 := R9 n ts ti ix foot (by omega) hall ts 0 n 0 (by simp) (by omega) (by omega)
  simp only [Int.natCast_zero, Nat.zero_add] at e1
  simp only [Bool.not_true, cond_false, e1, Option.bind_some]
  cases c6 : ts.all okT with
  | false => simp
  | true =>
   simp only [if_true, Sum.elim_inr]
   by_cases c8 : Qx ts ≤ 256
   ·have e2 := Sa n (Qx ts : Int) (by omega) (ts.map cT) ti ix foot c4 (by omega) ix.length 0 n (by omega) (by omega)
    simp only [Int.natCast_zero, List.length_map] at e2
    simp only [e2, Option.bind_some]
    cases c7 : (List.range' 0 ix.length).all (okAt ti ix ts.length) with
    | false => simp
    | true =>
     simp only [if_true, Sum.elim_inr, Bool.true_and]
     congr 1
     rw [decide_eq_decide]; omega
   ·rw [decide_eq_false c8, Bool.and_false]
    obtain ⟨m, rfl⟩ : ∃ m, n = m + 1 := ⟨n - 1, by omega⟩
    simp only [bL, dG, iB, gq]
    by_cases c9 : (0 : Int) < (ti.length : Int)
    ·rw [aa c9, aa (by omega)]
     rfl
    ·rw [ah c9]
     simp only [Option.bind_some, Sum.elim_inr]
     rw [decide_eq_false (by omega)]
end Go.Proofs.YtiegmpnagcdgoaaGreatDoor.H.Z
namespace Go.Proofs.YtiegmpnagcdgoaaGreatDoor.H.Z
open Go.Sh Go.RowKit
set_option linter.unusedSimpArgs false
set_option linter.unusedVariables false
theorem ZV (n : Nat) (h0 : List (List AV)) (ti ix : List Int) (h3 : Str) (sec : Int) (hb : ti.length ≤ 4000) (hl : ti.length = ix.length) (hm0 : ∀ (b a : Nat), a < b → b < ti.length → ti.getD a 0 < ti.getD b 0) : ∀ (k m : Nat), k ≤ ti.length → k < m → (k < ti.length → sec < ti.getD k 0) →
 fO n m sec ((k : Int) - 1) h0 ti ix h3 = some (if 0 < come ti sec then Sum.inl (ix.getD (come ti sec - 1) 0, h0, ti, ix, h3) else Sum.inr (h0, ti, ix, h3))
 | 0, m + 1, _, _, h2 => by
  simp only [fO, jg]
  have hc : come ti sec = 0 := Tj hm0 (by omega) (fun h => absurd h (by omega)) h2
  rw [ah (by omega), if_neg (by omega)]
 | k + 1, m + 1, hk, hm, h2 => by
  simp only [fO, jg]
  rw [show (((k + 1 : Nat) : Int) - 1) = (k : Int) by omega, aa (by omega), aa (by omega), Int.toNat_natCast, get_of (show k < ti.length by omega), Option.bind_some]
  by_cases hc : ti.getD k 0 ≤ sec
  ·have he : come ti sec = k + 1 := Tj hm0 hk (fun _ => by simpa using hc) h2
   rw [aa hc, aa (by omega), get_of (show k < ix.length by omega), Option.bind_some, he, if_pos (by omega), Nat.add_sub_cancel]
  ·rw [ah hc, wi _ (by omega) (by omega)]
   exact ZV n h0 ti ix h3 sec hb hl hm0 k m (by omega) (by omega) (fun _ => by omega)
theorem ZW (n : Nat) (ts : List Ty) (h1 h2 : List Int) (h3 : Str) (hts : ts.length ≤ 255) : ∀ (r : List Ty) (i m : Nat), ts.drop i = r → r.length < m →
 fP n m (i : Int) (ts.map cT) h1 h2 h3 = some (match r.findIdx? fun t => !t.2.1 with | some j => Sum.inl (((i + j : Nat) : Int), ts.map cT, h1, h2, h3) | none => Sum.inr (ts.map cT, h1, h2, h3))
 | [], i, m + 1, h, _ => by
  have hi := drop_nil h
  simp only [fP, jh]
  rw [ah (by rw [List.length_map]; omega)]
  simp
 | t :: r, i, m + 1, h, hm => by
  obtain ⟨k1, k2, k3⟩ := jJ h
  simp only [List.length_cons] at hm
  simp only [fP, jh]
  rw [aa (by rw [List.length_map]; omega), aa (by omega), Int.toNat_natCast, List.getElem?_map, k1, vJ _ (by omega)]
  simp only [Option.map_some, Option.bind_some, cT, unc, yu, yV, yX, unn, List.findIdx?_cons, decide_true, cond_true]
  cases hd : t.2.1 with
  | false => simp
  | true =>
   simp only [Bool.not_true, cond_false, Bool.false_eq_true, if_false]
   refine (ZW n ts h1 h2 h3 hts r (i + 1) m k2 (by omega)).trans ?_
   cases r.findIdx? (fun t => !t.2.1) with
   | none => rfl
   | some j => simp only [Option.map_some]; congr 3; omega
theorem rat_val (n : Nat) (hn : 4001 ≤ n) (ts : List Ty) (ti ix : List Int) (foot : Str) (sec : Int) (hall : ∀ t ∈ ts, t.2.2.length ≤ 9223372036854775807 ∧ t.2.2.length < n) (hf : foot.length ≤ 9223372036854775807 ∧ foot.length < n) : uO n (ts.map cT) ti ix foot sec = some (AtS ts ti ix foot sec) := by
 unfold uO qf AtS
 rw [rright_val n hn ts ti ix foot hall hf]
 simp only [Option.bind_some]
 cases hR : RightS ts ti ix foot with
 | false => rfl
 | true =>
  obtain ⟨h1, h2, h3, h4, h5, h6, h7, h8⟩ := right_parts hR
  have e1 := ZV n (ts.map cT) ti ix foot sec h3 h4 (Ti h4 h7) ti.length n (by omega) (by omega) (fun h => absurd h (by omega))
  simp only [Bool.not_true, cond_false, if_true]
  rw [wi _ (by omega) (by omega), e1]
  by_cases hp : 0 < come ti sec
  ·rw [if_pos hp, if_pos hp]; rfl
  ·rw [if_neg hp, if_neg hp]
   have e5 := ZW n ts ti ix foot h2 ts 0 n (by simp) (by omega)
   simp only [Int.natCast_zero] at e5
   simp only [Option.bind_some, Sum.elim_inr, e5, stdS]
   cases ts.findIdx? (fun t => !t.2.1) with
   | none => rfl
   | some j => simp only [Sum.elim_inl, Option.bind_some, Nat.zero_add]
theorem UN (n : Nat) (ts : List Ty) (ti ix : List Int) (foot : Str) (g0 : List (List AV)) (g1 g2 : List Int) (g3 : Str) (hts : ts.length ≤ 300) : ∀ (r : List Ty) (i m : Nat) (acc : List (List AV)) (h1 h2 : List Int) (h3 : Str), ts.drop i = r → r.length < m → acc.length + r.length ≤ 300 →
 dm n m (i : Int) (ts.map cT) ti ix foot g0 g1 g2 g3 acc h1 h2 h3 = some (ts.map cT, ti, ix, foot, g0, g1, g2, g3, acc ++ r.map cT, h1, h2, h3)
 | [], i, m + 1, acc, h1, h2, h3, h, _, _ => by
  have hi := drop_nil h
  simp only [dm, gm]
  rw [ah (by rw [List.length_map]; omega)]
  simp
 | t :: r, i, m + 1, acc, h1, h2, h3, h, hm, ha => by
  obtain ⟨k1, k2, k3⟩ := jJ h
  simp only [List.length_cons] at hm ha
  simp only [dm, gm]
  rw [aa (by rw [List.length_map]; omega), aa (by omega), Int.toNat_natCast, List.getElem?_map, k1, vJ _ (by omega)]
  simp only [Option.map_some, Option.bind_some, cT, unc, yu, yV, yX, unn, decide_true, cond_true]
  rw [aa (by simp only [List.length_cons, List.length_nil]; omega)]
  refine (UN n ts ti ix foot g0 g1 g2 g3 hts r (i + 1) m _ h1 h2 h3 k2 (by omega) (by simp only [List.length_append, List.length_cons, List.length_nil]; omega)).trans ?_
  simp [cT]
theorem plain_val (n : Nat) (hn : 301 ≤ n) (ts : List Ty) (ti ix : List Int) (foot : Str) (hts : ts.length ≤ 300) : ja n (ts.map cT) ti ix foot = some (ts.map cT, ti, ix, foot) := by
 unfold ja lG
 have e := UN n ts ti ix foot [] [] [] [] hts ts 0 n [] ti ix foot (by simp) (by omega) (by simp; omega)
 simp only [Int.natCast_zero] at e
 rw [e]
 rfl
theorem lens_bound : ∀ (ts : List Ty), ∃ n, ∀ t ∈ ts, t.2.2.length < n
 | [] => ⟨0, by simp⟩
 | t :: r => by
  obtain ⟨n, h⟩ := lens_bound r
  refine ⟨n + (t.2.2.length + 1), fun u hu => ?_⟩
  rcases List.mem_cons.1 hu with rfl | hu
  ·omega
  ·have := h u hu; omega
end Go.Proofs.YtiegmpnagcdgoaaGreatDoor.H.Z
namespace Go.Proofs.YtiegmpnagcdgoaaGreatDoor.H
open Go.Sh Go.RowKit
set_option linter.unusedSimpArgs false
set_option linter.unusedVariables false
def Fx : List Int → Int → List Int
 | [], a => [a]
 | b :: l, a => if a < b then a :: b :: l else if a = b then b :: l else b :: Fx l a
def Tk (l : List Int) : Prop := l.Pairwise (· < ·)
theorem QA : ∀ (l : List Int) (a x : Int), x ∈ Fx l a ↔ x = a ∨ x ∈ l
 | [], a, x => by simp [Fx]
 | b :: l, a, x => by
  unfold Fx
  split
  ·simp
  ·split
   ·rename_i h
    subst h
    simp
   ·rw [List.mem_cons, QA l a x, List.mem_cons]
    constructor
    ·rintro (h | h | h) <;> simp [h]
    ·rintro (h | h | h) <;> simp [h]
theorem Sb : ∀ (l : List Int) (a : Int), Tk l → Tk (Fx l a)
 | [], a, _ => by simp [Fx, Tk]
 | b :: l, a, h => by
  obtain ⟨h1, h2⟩ := List.pairwise_cons.1 h
  unfold Fx
  split
  ·rename_i hab
   refine List.pairwise_cons.2 ⟨fun x hx => ?_, h⟩
   rcases List.mem_cons.1 hx with rfl | hx
   ·exact hab
   ·exact Int.lt_trans hab (h1 x hx)
  ·split
   ·exact h
   ·rename_i h3 h4
    refine List.pairwise_cons.2 ⟨fun x hx => ?_, Sb l a h2⟩
    rcases (QA l a x).1 hx with rfl | hx
    ·omega
    ·exact h1 x hx
def yo (l all : List Int) : List Int := all.foldl Fx l
theorem QB : ∀ (all l : List Int), Tk l → Tk (yo l all)
 | [], l, h => h
 | a :: all, l, h => QB all (Fx l a) (Sb l a h)
theorem Oj : ∀ (all l : List Int) (x : Int), x ∈ yo l all ↔ x ∈ l ∨ x ∈ all
 | [], l, x => by simp [yo]
 | a :: all, l, x => by
  have := Oj all (Fx l a) x
  unfold yo at this ⊢
  rw [List.foldl_cons, this, QA]
  simp only [List.mem_cons]
  constructor
  ·rintro ((h | h) | h) <;> simp [h]
  ·rintro (h | h | h) <;> simp [h]
theorem QC {l : List Int} (h : Tk l) : l.Nodup := h.imp fun {a b} h e => by omega
theorem ZX {l l' : List Int} (h : Tk l) (h' : Tk l') (hm : ∀ x, x ∈ l ↔ x ∈ l') : l = l' := by
 refine List.Perm.eq_of_pairwise (le := fun a b => a < b) (fun a b _ _ h1 h2 => by omega) h h' ?_
 exact (List.perm_ext_iff_of_nodup (QC h) (QC h')).2 hm
theorem NG : ∀ (es : List (Int × Int)) (a b : Int), (zH es a b).map (·.1) = if a ∈ es.map (·.1) then es.map (·.1) else es.map (·.1) ++ [a]
 | [], a, b => by simp [zH]
 | (x, y) :: es, a, b => by
  unfold zH
  by_cases h : x = a
  ·subst h
   simp
  ·have hb : (x == a) = false := by simpa using h
   rw [hb, cond_false, List.map_cons, NG es a b]
   simp only [List.map_cons, List.mem_cons]
   by_cases h2 : a ∈ es.map (·.1)
   ·rw [if_pos h2, if_pos (.inr h2)]
   ·rw [if_neg h2, if_neg (fun h3 => h3.elim (fun h3 => h h3.symm) h2)]
    rfl
theorem ZY (es : List (Int × Int)) (a b x : Int) : x ∈ (zH es a b).map (·.1) ↔ x = a ∨ x ∈ es.map (·.1) := by
 rw [NG]
 split
 ·rename_i h
  constructor
  ·exact .inr
  ·rintro (rfl | h2)
   ·exact h
   ·exact h2
 ·simp [or_comm]
theorem VJ {es : List (Int × Int)} (a b : Int) (h : (es.map (·.1)).Nodup) : ((zH es a b).map (·.1)).Nodup := by
 rw [NG]
 split
 ·exact h
 ·rename_i h2
  refine List.nodup_append.2 ⟨h, by simp, fun x hx y hy e => ?_⟩
  simp at hy
  subst hy; subst e
  exact h2 hx
def I1 (es : List (Int × Int)) (all : List Int) : List (Int × Int) := all.foldl (fun es a => zH es a 1) es
theorem QD : ∀ (all : List Int) (es : List (Int × Int)) (x : Int), x ∈ (I1 es all).map (·.1) ↔ x ∈ es.map (·.1) ∨ x ∈ all
 | [], es, x => by simp [I1]
 | a :: all, es, x => by
  have := QD all (zH es a 1) x
  unfold I1 at this ⊢
  rw [List.foldl_cons, this, ZY]
  simp only [List.mem_cons]
  constructor
  ·rintro ((h | h) | h)
   ·exact .inr (.inl h)
   ·exact .inl h
   ·exact .inr (.inr h)
  ·rintro (h | h | h)
   ·exact .inl (.inr h)
   ·exact .inl (.inl h)
   ·exact .inr h
theorem QE : ∀ (all : List Int) (es : List (Int × Int)), (es.map (·.1)).Nodup → ((I1 es all).map (·.1)).Nodup
 | [], es, h => h
 | a :: all, es, h => QE all (zH es a 1) (VJ a 1 h)
theorem UO {l : List Int} (h : l.Nodup) : Tk (l.mergeSort leI) := by
 have tr : ∀ a b c : Int, leI a b = true → leI b c = true → leI a c = true := fun a b c h1 h2 => by simp only [leI, decide_eq_true_eq] at *; exact Int.le_trans h1 h2
 have to : ∀ a b : Int, (leI a b || leI b a) = true := fun a b => by simp only [leI, Bool.or_eq_true, decide_eq_true_eq]; exact Int.le_total a b
 have h1 := List.pairwise_mergeSort tr to l
 have h2 : (l.mergeSort leI).Nodup := (List.mergeSort_perm l leI).nodup_iff.2 h
 have h3 := List.Pairwise.and h1 h2
 exact h3.imp fun {a b} hh => by
  have h4 := hh.1
  have h5 := hh.2
  simp only [leI, decide_eq_true_eq] at h4
  omega
theorem KO (all : List Int) : ((I1 [] all).map (·.1)).mergeSort leI = yo [] all := by
 refine ZX (UO (QE all [] (by simp))) (QB all [] List.Pairwise.nil) fun x => ?_
 rw [(List.mergeSort_perm _ leI).mem_iff, QD, Oj]
 simp
theorem NH : ∀ (all : List Int) (es : List (Int × Int)), (I1 es all).length ≤ es.length + all.length
 | [], es => by simp [I1]
 | a :: all, es => by
  have h1 := NH all (zH es a 1)
  have h2 : (zH es a 1).length ≤ es.length + 1 := by
   have := congrArg List.length (NG es a 1)
   split at this <;> simp at this <;> omega
  unfold I1 at h1 ⊢
  rw [List.foldl_cons, List.length_cons]
  omega
end Go.Proofs.YtiegmpnagcdgoaaGreatDoor.H
namespace Go.Proofs.YtiegmpnagcdgoaaGreatDoor.H
open Go.Sh Go.RowKit
set_option linter.unusedSimpArgs false
set_option linter.unusedVariables false
theorem Jz (n : Nat) (a : Int) (h : -9223372036854775808 ≤ a ∧ a ≤ 9223372036854775807) : qA n a 1000000 = some (a / 1000000) := by
 unfold qA BO
 rw [show ((1000000 : Int) == 0) = false from rfl]
 simp only [cond_false]
 by_cases ha : 0 ≤ a
 ·rw [tm0 ha, td0 ha, ah (by omega), wi _ (by omega) (by omega)]
 ·obtain ⟨b, rfl⟩ : ∃ b : Int, a = -b := ⟨-a, by omega⟩
  rw [Int.neg_tmod, Int.neg_tdiv, tm0 (by omega), td0 (by omega)]
  by_cases hz : b % 1000000 = 0
  ·rw [ah (by omega), wi _ (by omega) (by omega)]
   congr 1
   omega
  ·rw [aa (by omega)]
   simp (disch := omega) only [wi]
   congr 1
   omega
theorem Dh (n : Nat) (a : Int) (h : -9223372036854775808 ≤ a ∧ a ≤ 9223372036854775807) : gG n a 1000000 = some (a / 1000000) := by
 unfold gG l7
 rw [show ((1000000 : Int) == 0) = false from rfl]
 simp only [cond_false]
 by_cases ha : 0 ≤ a
 ·rw [tm0 ha, td0 ha, ah (by omega), wi _ (by omega) (by omega)]
 ·obtain ⟨b, rfl⟩ : ∃ b : Int, a = -b := ⟨-a, by omega⟩
  rw [Int.neg_tmod, Int.neg_tdiv, tm0 (by omega), td0 (by omega)]
  by_cases hz : b % 1000000 = 0
  ·rw [ah (by omega), wi _ (by omega) (by omega)]
   congr 1
   omega
  ·rw [aa (by omega)]
   simp (disch := omega) only [wi]
   congr 1
   omega
theorem Tm {ts : List Z.Ty} {ti ix : List Int} {foot : Str} (h : Z.RightS ts ti ix foot = true) (t : Int) : 0 ≤ Z.AtS ts ti ix foot t ∧ Z.AtS ts ti ix foot t < ts.length := by
 obtain ⟨h1, h2, h3, h4, h5, h6, h7, h8⟩ := Z.right_parts h
 unfold Z.AtS
 rw [if_pos h]
 by_cases hc : 0 < Z.come ti t
 ·rw [if_pos hc]
  have hle := Z.come_le ti t
  have hk := List.all_eq_true.1 h7 (Z.come ti t - 1) (List.mem_range'_1.2 ⟨by omega, by omega⟩)
  unfold Z.okAt at hk
  simp only [Bool.and_eq_true, decide_eq_true_eq] at hk
  exact hk.1
 ·rw [if_neg hc]
  unfold Z.stdS
  cases hf : ts.findIdx? fun t => !t.2.1 with
  | none => simp only; omega
  | some j =>
   obtain ⟨hj, _⟩ := List.findIdx?_eq_some_iff_getElem.1 hf
   simp only
   omega
def QF (ti : List Int) (t : Int) : Bool := ti.length == 0 || decide (ti.getD (ti.length - 1) 0 ≤ t)
theorem UQ {ti : List Int} (hz : ti.length ≠ 0) (hb : ti.length ≤ 4000) : ti[(IntKind.i64.wrap ((ti.length : Int) - 1)).toNat]? = some (ti.getD (ti.length - 1) 0) := by
 rw [wi _ (by omega) (by omega), show ((ti.length : Int) - 1).toNat = ti.length - 1 by omega]
 exact Z.get_of (by omega)
theorem ZZ (n : Nat) (t : Int) (h1 : List (List AV)) (ti h3 : List Int) (h4 h5 h6 : Str) (h7 h8 h9 h10 h11 h12 h13 h14 h15 h16 h17 h18 : Int) (hb : ti.length ≤ 4000) :
 qC n t h1 ti h3 h4 h5 h6 h7 h8 h9 h10 h11 h12 h13 h14 h15 h16 h17 h18 = some (QF ti t, t, h1, ti, h3, h4, h5, h6, h7, h8, h9, h10, h11, h12, h13, h14, h15, h16, h17, h18) := by
 unfold qC lU QF
 by_cases hz : ti.length = 0
 ·rw [hz]; rfl
 ·rw [show ((ti.length : Int) == (0 : Int)) = false by simpa using hz, cond_false, aa (by rw [wi _ (by omega) (by omega)]; omega), UQ hz hb, show (ti.length == 0) = false by simpa using hz]
  simp only [Option.bind_some, Bool.false_or]
theorem I4 {ts : List Z.Ty} {a : Int} (h0 : 0 ≤ a) (h1 : a < ts.length) {R : Type} (K : Int → Option R) :
 ((ts.map Z.cT)[a.toNat]?).bind (fun e => unc e fun c r => yu .i64 c fun x => unc r fun c r => yV c fun y => unc r fun c r => yX c fun z => unn r (K x)) = K (ts.getD a.toNat (0, false, [])).1 := by
 have h2 : a.toNat < ts.length := by omega
 rw [List.getElem?_map, List.getElem?_eq_getElem h2, List.getD_eq_getElem?_getD, List.getElem?_eq_getElem h2]
 rfl
end Go.Proofs.YtiegmpnagcdgoaaGreatDoor.H
namespace Go.Proofs.YtiegmpnagcdgoaaGreatDoor.H
open Go.Sh Go.RowKit
set_option linter.unusedSimpArgs false
set_option linter.unusedVariables false
theorem JA {ts : List Z.Ty} {ti ix : List Int} {foot : Str} (h : Z.RightS ts ti ix foot = true) {n : Nat} (hn : 4001 ≤ n) : ∀ t ∈ ts, t.2.2.length ≤ 9223372036854775807 ∧ t.2.2.length < n := by
 obtain ⟨_, _, _, _, _, h6, _, _⟩ := Z.right_parts h
 intro t ht
 have := Z.okT_len (List.all_eq_true.1 h6 t ht)
 omega
theorem JB {ts : List Z.Ty} {ti ix : List Int} {foot : Str} (h : Z.RightS ts ti ix foot = true) : foot.length ≤ 100 := by
 obtain ⟨_, _, _, _, h5, _, _, _⟩ := Z.right_parts h
 unfold Z.textS at h5
 simp only [Bool.and_eq_true, decide_eq_true_eq] at h5
 omega
theorem Ol (n : Nat) (t : Int) (h0 : List (List AV)) (ti h2 : List Int) (h3 h4 h5 : Str) (h6 h7 h8 h9 h10 h11 h12 h13 h14 h15 h16 h17 : Int) (b : Bool) (hb : ti.length ≤ 4000) :
 bI n t (ti.length : Int) h0 ti h2 h3 h4 h5 h6 h7 h8 h9 h10 h11 h12 h13 h14 h15 h16 h17 true b = some (QF ti t, h0, ti, h2, h3, h4, h5, h6, h7, h8, h9, h10, h11, h12, h13, h14, h15, h16, h17, true, b) := by
 unfold bI bu QF
 by_cases hz : ti.length = 0
 ·rw [hz]; rfl
 ·rw [cond_true, show ((ti.length : Int) == (0 : Int)) = false by simpa using hz, cond_false, aa (by rw [wi _ (by omega) (by omega)]; omega), UQ hz hb, show (ti.length == 0) = false by simpa using hz]
  simp only [Option.bind_some, Bool.false_or]
theorem Fy (n : Nat) (hn : 20000 < n) (ts : List Z.Ty) (ti ix : List Int) (foot : Str) (r : RuleV) (hR : Z.RightS ts ti ix foot = true) (hs : r.std.length ≤ 200) (hd : r.dst.length ≤ 200) (sec : Int) :
 ∃ o, fK n sec (ts.map Z.cT) ti ix foot r.std r.dst r.off r.doff r.a.k r.a.m r.a.w r.a.d r.a.t r.b.k r.b.m r.b.w r.b.d r.b.t = some (o, ts.map Z.cT, ti, ix, foot, r.std, r.dst, r.off, r.doff, r.a.k, r.a.m, r.a.w, r.a.d, r.a.t, r.b.k, r.b.m, r.b.w, r.b.d, r.b.t) ∧
  aj n (ts.map Z.cT) ti ix foot r.std r.dst r.off r.doff r.a.k r.a.m r.a.w r.a.d r.a.t r.b.k r.b.m r.b.w r.b.d r.b.t true false sec = some o := by
 obtain ⟨_, _, hb, _, _, _, _, _⟩ := Z.right_parts hR
 unfold fK oP rP kL aj aI
 rw [ZZ n _ _ ti _ _ _ _ _ _ _ _ _ _ _ _ _ _ _ _ hb, cond_false, Ol n _ _ ti _ _ _ _ _ _ _ _ _ _ _ _ _ _ _ _ _ hb]
 simp only [Option.bind_some]
 cases QF ti (if (-10000000000 : Int) < (if sec < (100000000000 : Int) then sec else (100000000000 : Int)) then (if sec < (100000000000 : Int) then sec else (100000000000 : Int)) else (-10000000000 : Int)) with
 | true =>
  obtain ⟨o, h1, h2⟩ := aa3 n r (if (-10000000000 : Int) < (if sec < (100000000000 : Int) then sec else (100000000000 : Int)) then (if sec < (100000000000 : Int) then sec else (100000000000 : Int)) else (-10000000000 : Int)) hn (by omega) (by omega) (by omega) (by omega)
  simp only [cond_true]
  rw [h1, h2]
  exact ⟨o.1, rfl, rfl⟩
 | false =>
  simp only [cond_false]
  rw [Z.at_val n (by omega), Z.rat_val n (by omega) ts ti ix foot _ (JA hR (by omega)) (by have := JB hR; omega)]
  obtain ⟨k1, k2⟩ := Tm hR (if (-10000000000 : Int) < (if sec < (100000000000 : Int) then sec else (100000000000 : Int)) then (if sec < (100000000000 : Int) then sec else (100000000000 : Int)) else (-10000000000 : Int))
  simp only [Option.bind_some]
  rw [aa k1, aa k1, I4 k1 k2, I4 k1 k2]
  exact ⟨_, rfl, rfl⟩
theorem JC (n : Nat) (hn : 20000 < n) (ts : List Z.Ty) (ti ix : List Int) (foot : Str) (a4 a5 : Str) (a6 a7 a8 a9 a10 a11 a12 a13 a14 a15 a16 a17 : Int) (hR : Z.RightS ts ti ix foot = true) (sec : Int) :
 ∃ o, iK n sec (ts.map Z.cT) ti ix foot = some (o, ts.map Z.cT, ti, ix, foot) ∧
  aj n (ts.map Z.cT) ti ix foot a4 a5 a6 a7 a8 a9 a10 a11 a12 a13 a14 a15 a16 a17 false false sec = some o := by
 unfold iK oU rQ kM aj aI bI bu
 simp only [Option.bind_some, cond_false]
 rw [Z.at_val n (by omega), Z.rat_val n (by omega) ts ti ix foot _ (JA hR (by omega)) (by have := JB hR; omega)]
 obtain ⟨k1, k2⟩ := Tm hR (if (-10000000000 : Int) < (if sec < (100000000000 : Int) then sec else (100000000000 : Int)) then (if sec < (100000000000 : Int) then sec else (100000000000 : Int)) else (-10000000000 : Int))
 simp only [Option.bind_some]
 rw [aa k1, aa k1, I4 k1 k2, I4 k1 k2]
 exact ⟨_, rfl, rfl⟩
end Go.Proofs.YtiegmpnagcdgoaaGreatDoor.H
namespace Go.Proofs.YtiegmpnagcdgoaaGreatDoor.H
open Go.Sh Go.RowKit
set_option linter.unusedSimpArgs false
set_option linter.unusedVariables false
theorem VK (n : Nat) (a : Int) (h : -9223372036854775808 ≤ a ∧ a ≤ 9223372036854775807) : zP n a 86400000000 = some (a / 86400000000, a % 86400000000, true) := by
 unfold zP CY
 rw [DU, wW]
 rw [show ((86400000000 : Int) == 0) = false from rfl, show ((86400000000 : Int) == -1) = false from rfl]
 simp only [cond_false, Option.bind_some]
 have htm : -86400000000 < Int.tmod a 86400000000 ∧ Int.tmod a 86400000000 < 86400000000 := by
  by_cases ha : 0 ≤ a
  ·rw [tm0 ha]; omega
  ·obtain ⟨b, rfl⟩ : ∃ b : Int, a = -b := ⟨-a, by omega⟩
   rw [Int.neg_tmod, tm0 (by omega)]; omega
 rw [DV, wX, K9 n _ (by omega), K9 n 86400000000 (by omega)]
 simp only [Option.bind_some]
 by_cases ha : 0 ≤ a
 ·rw [tm0 ha, td0 ha]
  rw [if_neg (by omega), if_neg (by omega)]
  simp (disch := omega) only [wi]
  rw [show ((0 : Int) != 0) = false from rfl]
  cases (a % 86400000000 != 0) <;> rfl
 ·obtain ⟨b, rfl⟩ : ∃ b : Int, a = -b := ⟨-a, by omega⟩
  rw [Int.neg_tmod, Int.neg_tdiv, tm0 (by omega), td0 (by omega)]
  by_cases hz : b % 86400000000 = 0
  ·rw [show (-(b % 86400000000) != 0) = false by simp [hz]]
   simp only [cond_false, Option.bind_some]
   simp (disch := omega) only [wi]
   congr 2
   ·omega
   ·congr 1
    omega
  ·rw [show (-(b % 86400000000) != 0) = true by simp [hz]]
   rw [if_pos (by omega), if_neg (by omega)]
   rw [show ((1 : Int) != 0) = true from rfl]
   simp only [cond_true, Option.bind_some]
   simp (disch := omega) only [wi]
   congr 2
   ·omega
   ·congr 1
    omega
theorem Z0 (n : Nat) (a : Int) : ∃ o, xU n a = some o ∧ ((a < -719162 ∨ 2932896 < a) → o.2.2.2 = 6) := by
 unfold xU CZ DW wY
 rw [IY n 1 1 1 (by omega) (by omega) (by omega), IY n 9999 12 31 (by omega) (by omega) (by omega), OU, Qu]
 simp only [Option.bind_some]
 by_cases h1 : a < -719162
 ·rw [aa h1]
  exact ⟨_, rfl, fun _ => rfl⟩
 ·rw [ah h1]
  simp only [Option.bind_some]
  by_cases h2 : a > 2932896
  ·rw [decide_eq_true h2]
   exact ⟨_, rfl, fun _ => rfl⟩
  ·rw [decide_eq_false h2, cond_false]
   have hx : ∀ (c : Bool) (x y : Int × Int × Int × Int), ∃ o, cond c (some x) (some y) = some o := fun c x y => by cases c <;> exact ⟨_, rfl⟩
   obtain ⟨o, ho⟩ := hx _ _ _
   exact ⟨o, ho, fun h => by omega⟩
theorem UR (n : Nat) (x : Int) (h : -9223372036854775808 ≤ x ∧ x ≤ 9223372036854775807) : ∃ o, bA n x = some o ∧ ((x < -1000000000000000000 ∨ 1000000000000000000 < x) → o.2.2.2.2.2.2.2 = 6) := by
 unfold bA sW
 rw [VK n x h]
 obtain ⟨o, h1, h2⟩ := Z0 n (x / 86400000000)
 simp only [Option.bind_some, h1]
 by_cases he : o.2.2.2 = 0
 ·rw [he]
  refine ⟨_, rfl, fun hx => ?_⟩
  have := h2 (by omega)
  omega
 ·rw [show (o.2.2.2 != (0 : Int)) = true by simpa using he]
  exact ⟨_, rfl, fun hx => h2 (by omega)⟩
end Go.Proofs.YtiegmpnagcdgoaaGreatDoor.H
namespace Go.Proofs.YtiegmpnagcdgoaaGreatDoor.H
open Go.Sh Go.RowKit
set_option linter.unusedSimpArgs false
set_option linter.unusedVariables false
theorem VL {s : Str} {r : RuleV} (h : JS s = some r) : fE r = true := by
 unfold JS at h
 split at h
 ·cases h
 ·dsimp only at h
  split at h
  ·rename_i hh
   injection h with h
   subst h
   exact hh.2.2
  ·cases h
theorem UT {s : Str} (h : uB s = true) : s.length ≤ 10 := by
 unfold uB at h
 simp only [Bool.and_eq_true, decide_eq_true_eq] at h
 exact h.1.2
theorem Ec {r : RuleV} (h : fE r = true) : r.std.length ≤ 200 ∧ r.dst.length ≤ 200 := by
 obtain ⟨h1, _, _, h2⟩ := Df h
 have := UT h1
 rcases h2 with ⟨h2, _⟩ | ⟨h2, _⟩
 ·rw [h2]; simp; omega
 ·have := UT h2; omega
theorem WR (n : Nat) (hn : 4001 ≤ n) (ts : List Z.Ty) (ti ix : List Int) (foot : Str) :
 CX n (ts.map Z.cT) ti ix foot = some (if Z.RightS ts ti ix foot = true then (if foot = [] then Sum.inr (Sum.inr (ts.map Z.cT, ti, ix, foot)) else match JS foot with
  | some r => Sum.inr (Sum.inl (ts.map Z.cT, ti, ix, foot, r.std, r.dst, r.off, r.doff, r.a.k, r.a.m, r.a.w, r.a.d, r.a.t, r.b.k, r.b.m, r.b.w, r.b.d, r.b.t))
  | none => Sum.inl (70 : Int)) else Sum.inl (2 : Int)) := by
 unfold CX Gl
 rw [Z.right_val n hn]
 simp only [Option.bind_some]
 by_cases hR : Z.RightS ts ti ix foot = true
 ·obtain ⟨_, h2, h3, h4, _, _, _, _⟩ := Z.right_parts hR
  rw [hR, if_pos rfl, Bool.not_true, cond_false, aa (by rw [List.length_map]; omega), aa (by omega), aa (by omega)]
  by_cases hf : foot = []
  ·subst hf; rfl
  ·rw [show (foot == ([] : Str)) = false by simpa using hf, Bool.not_false, cond_true, XX n foot (by omega), if_neg hf]
   simp only [Option.bind_some]
   cases JS foot with
   | none => rfl
   | some r => rfl
 ·rw [if_neg hR]
  rw [Bool.not_eq_true] at hR
  rw [hR]; rfl
theorem NI (n : Nat) (hn : 4001 ≤ n) (ts : List Z.Ty) (ti ix : List Int) (foot : Str) (hall : ∀ t ∈ ts, t.2.2.length ≤ 9223372036854775807 ∧ t.2.2.length < n) (hf : foot.length ≤ 9223372036854775807 ∧ foot.length < n) (hR : Z.RightS ts ti ix foot = true) :
 fJ n (ts.map Z.cT) ti ix foot = some (if foot = [] then (ts.map Z.cT, ti, ix, foot, [], [], (0 : Int), (0 : Int), (0 : Int), (0 : Int), (0 : Int), (0 : Int), (0 : Int), (0 : Int), (0 : Int), (0 : Int), (0 : Int), (0 : Int), false, (0 : Int)) else match JS foot with
  | some r => (ts.map Z.cT, ti, ix, foot, r.std, r.dst, r.off, r.doff, r.a.k, r.a.m, r.a.w, r.a.d, r.a.t, r.b.k, r.b.m, r.b.w, r.b.d, r.b.t, true, (0 : Int))
  | none => ([], [], [], [], [], [], (0 : Int), (0 : Int), (0 : Int), (0 : Int), (0 : Int), (0 : Int), (0 : Int), (0 : Int), (0 : Int), (0 : Int), (0 : Int), (0 : Int), false, (70 : Int))) := by
 unfold fJ kJ
 rw [Z.rright_val n hn ts ti ix foot hall hf, hR]
 simp only [Option.bind_some, Bool.not_true, cond_false]
 by_cases hf : foot = []
 ·subst hf; rfl
 ·rw [show (foot == ([] : Str)) = false by simpa using hf, cond_false, VD n foot (by omega), if_neg hf]
  simp only [Option.bind_some]
  cases JS foot with
  | none => rfl
  | some r => rfl
theorem VM (n : Nat) (hn : 4001 ≤ n) (ts : List Z.Ty) (ti ix : List Int) (foot : Str) (hall : ∀ t ∈ ts, t.2.2.length ≤ 9223372036854775807 ∧ t.2.2.length < n) (hf : foot.length ≤ 9223372036854775807 ∧ foot.length < n) : ∃ o, fJ n (ts.map Z.cT) ti ix foot = some o := by
 by_cases hR : Z.RightS ts ti ix foot = true
 ·exact ⟨_, NI n hn ts ti ix foot hall hf hR⟩
 ·unfold fJ kJ
  rw [Bool.not_eq_true] at hR
  rw [Z.rright_val n hn ts ti ix foot hall hf, hR]
  exact ⟨_, rfl⟩
theorem VN (n : Nat) (hn : 4001 ≤ n) (ts : List Z.Ty) (ti ix : List Int) (foot : Str) (utc : Bool) (hall : ∀ t ∈ ts, t.2.2.length ≤ 9223372036854775807 ∧ t.2.2.length < n) (hf : foot.length ≤ 9223372036854775807 ∧ foot.length < n) :
 utc = true ∧ gY n (ts.map Z.cT) ti ix foot utc = some (Sum.inl ([], [], [], [], [], [], (0 : Int), (0 : Int), (0 : Int), (0 : Int), (0 : Int), (0 : Int), (0 : Int), (0 : Int), (0 : Int), (0 : Int), (0 : Int), (0 : Int), false, true, true)) ∨
 (∃ x, gY n (ts.map Z.cT) ti ix foot utc = some (Sum.inl x) ∧ x.2.2.2.2.2.2.2.2.2.2.2.2.2.2.2.2.2.2.2.2 = false) ∨
 Z.RightS ts ti ix foot = true ∧ ts.length ≤ 40 ∧ ti.length ≤ 300 ∧ (
  (∃ r : RuleV, fE r = true ∧ gY n (ts.map Z.cT) ti ix foot utc = some (Sum.inr (Sum.inl (ts.map Z.cT, ti, ix, foot, r.std, r.dst, r.off, r.doff, r.a.k, r.a.m, r.a.w, r.a.d, r.a.t, r.b.k, r.b.m, r.b.w, r.b.d, r.b.t, true, true, ts.map Z.cT, ti, ix, foot, r.std, r.dst, r.off, r.doff, r.a.k, r.a.m, r.a.w, r.a.d, r.a.t, r.b.k, r.b.m, r.b.w, r.b.d, r.b.t)))) ∨
  gY n (ts.map Z.cT) ti ix foot utc = some (Sum.inr (Sum.inr (ts.map Z.cT, ti, ix, foot, [], [], (0 : Int), (0 : Int), (0 : Int), (0 : Int), (0 : Int), (0 : Int), (0 : Int), (0 : Int), (0 : Int), (0 : Int), (0 : Int), (0 : Int), false, true, ts.map Z.cT, ti, ix, foot)))) := by
 unfold gY nM
 cases utc with
 | true => exact .inl ⟨rfl, rfl⟩
 | false =>
  refine .inr ?_
  rw [cond_false, qE, jX]
  by_cases c1 : ((ts.map Z.cT).length : Int) > 40
  ·rw [aa c1]
   exact .inl ⟨_, rfl, rfl⟩
  rw [ah c1]
  simp only [Option.bind_some]
  by_cases c2 : (ti.length : Int) > 300
  ·rw [decide_eq_true c2]
   exact .inl ⟨_, rfl, rfl⟩
  rw [decide_eq_false c2, cond_false, WR n hn]
  rw [List.length_map] at c1
  have hp := Z.plain_val n (by omega) ts ti ix foot (by omega)
  simp only [Option.bind_some]
  by_cases hR : Z.RightS ts ti ix foot = true
  ·rw [if_pos hR]
   by_cases hz : foot = []
   ·rw [if_pos hz]
    simp only [Sum.elim_inr]
    rw [hp]
    simp only [Option.bind_some]
    rw [NI n hn ts ti ix foot hall hf hR, if_pos hz]
    exact .inr ⟨hR, by omega, by omega, .inr rfl⟩
   ·rw [if_neg hz]
    cases hr : JS foot with
    | none =>
     simp only [Sum.elim_inl]
     rw [hp]
     simp only [Option.bind_some]
     rw [NI n hn ts ti ix foot hall hf hR, if_neg hz, hr]
     exact .inl ⟨_, rfl, rfl⟩
    | some r =>
     simp only [Sum.elim_inr, Sum.elim_inl]
     rw [hp]
     simp only [Option.bind_some]
     rw [NI n hn ts ti ix foot hall hf hR, if_neg hz, hr]
     exact .inr ⟨hR, by omega, by omega, .inl ⟨r, VL hr, rfl⟩⟩
  ·rw [if_neg hR]
   obtain ⟨o, ho⟩ := VM n hn ts ti ix foot hall hf
   simp only [Sum.elim_inl]
   rw [hp]
   simp only [Option.bind_some]
   rw [ho]
   exact .inl ⟨_, rfl, rfl⟩
end Go.Proofs.YtiegmpnagcdgoaaGreatDoor.H
namespace Go.Proofs.YtiegmpnagcdgoaaGreatDoor.H
open Go.Sh Go.RowKit
set_option linter.unusedSimpArgs false
set_option linter.unusedVariables false
theorem UU : ∀ (es : List (Int × Int)) (a : Int), (∀ p ∈ es, p.2 = 1) → ∀ p ∈ zH es a 1, p.2 = 1
 | [], a, _, p, hp => by
  simp [zH] at hp
  rw [hp]
 | (x, y) :: es, a, h, p, hp => by
  unfold zH at hp
  by_cases hx : (x == a) = true
  ·rw [hx, cond_true] at hp
   rcases List.mem_cons.1 hp with rfl | hp
   ·rfl
   ·exact h p (List.mem_cons_of_mem _ hp)
  ·rw [Bool.not_eq_true] at hx
   rw [hx, cond_false] at hp
   rcases List.mem_cons.1 hp with rfl | hp
   ·exact h _ (List.mem_cons_self ..)
   ·exact UU es a (fun q hq => h q (List.mem_cons_of_mem _ hq)) p hp
theorem Sc : ∀ (all : List Int) (es : List (Int × Int)), (∀ p ∈ es, p.2 = 1) → ∀ p ∈ I1 es all, p.2 = 1
 | [], es, h => h
 | a :: all, es, h => Sc all (zH es a 1) (UU es a h)
theorem Tn (all : List Int) (h : ∀ a ∈ all, sM a = true) : ((I1 [] all).all fun p => sM p.1 && sM p.2) = true := by
 rw [List.all_eq_true]
 intro p hp
 have h1 : p.1 ∈ (I1 [] all).map (·.1) := List.mem_map_of_mem hp
 rw [QD] at h1
 have h2 := Sc all [] (by simp) p hp
 rw [h2, h p.1 (by simpa using h1)]
 rfl
theorem Sd (n : Nat) (ts : List Z.Ty) (hts : ts.length ≤ 255) (h64 : ∀ t ∈ ts, sM t.1 = true) (h0 : List (List AV)) (h1 h2 : List Int) (h3 s1 s2 : Str) (b2 b3 b4 b5 b6 b7 b8 b9 b10 b11 b12 b13 : Int) : ∀ (q : List Z.Ty) (i m : Nat) (es : List (Int × Int)), ts.drop i = q → q.length < m →
 dO n m (ts.map Z.cT) ((ts.map Z.cT).length : Int) (i : Int) h0 h1 h2 h3 s1 s2 b2 b3 b4 b5 b6 b7 b8 b9 b10 b11 b12 b13 es = some (h0, h1, h2, h3, s1, s2, b2, b3, b4, b5, b6, b7, b8, b9, b10, b11, b12, b13, I1 es (q.map (·.1)))
 | [], i, m + 1, es, h, _ => by
  have hi := drop_nil h
  simp only [dO, gT]
  rw [ah (by rw [List.length_map]; omega)]
  rfl
 | t :: q, i, m + 1, es, h, hm => by
  obtain ⟨k1, k2, k3⟩ := jJ h
  simp only [List.length_cons] at hm
  have ht : t ∈ ts := List.mem_of_getElem? k1
  simp only [dO, gT]
  rw [aa (by rw [List.length_map]; omega), aa (by omega), Int.toNat_natCast, List.getElem?_map, k1, vJ _ (by omega)]
  simp only [Option.map_some, Option.bind_some, Z.cT, unc, yu, yV, yX, unn, decide_true, cond_true]
  rw [h64 t ht, show sM 1 = true from rfl]
  simp only [Bool.and_self, cond_true]
  exact Sd n ts hts h64 h0 h1 h2 h3 s1 s2 b2 b3 b4 b5 b6 b7 b8 b9 b10 b11 b12 b13 q (i + 1) m _ k2 (by omega)
theorem Sg (n : Nat) (ts : List Z.Ty) (hts : ts.length ≤ 255) (h64 : ∀ t ∈ ts, sM t.1 = true) (h0 : List (List AV)) (h1 h2 : List Int) (h3 : Str) : ∀ (q : List Z.Ty) (i m : Nat) (es : List (Int × Int)), ts.drop i = q → q.length < m →
 dP n m (ts.map Z.cT) ((ts.map Z.cT).length : Int) (i : Int) h0 h1 h2 h3 es = some (h0, h1, h2, h3, I1 es (q.map (·.1)))
 | [], i, m + 1, es, h, _ => by
  have hi := drop_nil h
  simp only [dP, gU]
  rw [ah (by rw [List.length_map]; omega)]
  rfl
 | t :: q, i, m + 1, es, h, hm => by
  obtain ⟨k1, k2, k3⟩ := jJ h
  simp only [List.length_cons] at hm
  have ht : t ∈ ts := List.mem_of_getElem? k1
  simp only [dP, gU]
  rw [aa (by rw [List.length_map]; omega), aa (by omega), Int.toNat_natCast, List.getElem?_map, k1, vJ _ (by omega)]
  simp only [Option.map_some, Option.bind_some, Z.cT, unc, yu, yV, yX, unn, decide_true, cond_true]
  rw [h64 t ht, show sM 1 = true from rfl]
  simp only [Bool.and_self, cond_true]
  exact Sg n ts hts h64 h0 h1 h2 h3 q (i + 1) m _ k2 (by omega)
def uC (ts : List Z.Ty) (o : Option RuleV) : List Int := ts.map (·.1) ++ (match o with
 | some r => r.off :: (if r.dst = [] then [] else [r.doff])
 | none => [])
theorem Z4 {t : Z.Ty} (h : Z.okT t = true) : sM t.1 = true := by
 unfold Z.okT at h
 simp only [Bool.and_eq_true, Bool.not_eq_true', decide_eq_false_iff_not] at h
 simp only [sM, Bool.and_eq_true, decide_eq_true_eq]
 omega
theorem VO (n : Nat) (hn : 4001 ≤ n) (ts : List Z.Ty) (ti ix : List Int) (foot : Str) (hR : Z.RightS ts ti ix foot = true) :
 nK n (ts.map Z.cT) ti ix foot = some (yo [] (uC ts none), ts.map Z.cT, ti, ix, foot) := by
 obtain ⟨_, h2, _, _, _, h6, _, _⟩ := Z.right_parts hR
 have h64 : ∀ t ∈ ts, sM t.1 = true := fun t ht => Z4 (List.all_eq_true.1 h6 t ht)
 unfold nK nJ
 have e := Sg n ts h2 h64 (ts.map Z.cT) ti ix foot ts 0 n [] (by simp) (by omega)
 simp only [Int.natCast_zero] at e
 rw [e]
 simp only [Option.bind_some, bV, bU]
 have hl := NH (ts.map (·.1)) []
 simp only [List.length_nil, List.length_map] at hl
 rw [Tn _ (by intro a ha; obtain ⟨t, ht, rfl⟩ := List.mem_map.1 ha; exact h64 t ht), Bool.and_true, aa (by omega), KO]
 simp [uC]
theorem aa6 {r : RuleV} (h : fE r = true) : sM r.off = true ∧ (r.dst ≠ [] → sM r.doff = true) := by
 obtain ⟨_, h1, h2, h3⟩ := Df h
 simp only [sM, Bool.and_eq_true, decide_eq_true_eq]
 refine ⟨by omega, fun hd => ?_⟩
 rcases h3 with ⟨h3, _⟩ | ⟨_, _, h4, h5, _⟩
 ·exact absurd h3 hd
 ·omega
theorem UV (es : List (Int × Int)) (l l' : List Int) : I1 es (l ++ l') = I1 (I1 es l) l' := List.foldl_append
theorem QG (n : Nat) (hn : 4001 ≤ n) (ts : List Z.Ty) (ti ix : List Int) (foot : Str) (r : RuleV) (hR : Z.RightS ts ti ix foot = true) (hr : fE r = true) :
 nH n (ts.map Z.cT) ti ix foot r.std r.dst r.off r.doff r.a.k r.a.m r.a.w r.a.d r.a.t r.b.k r.b.m r.b.w r.b.d r.b.t = some (yo [] (uC ts (some r)), ts.map Z.cT, ti, ix, foot, r.std, r.dst, r.off, r.doff, r.a.k, r.a.m, r.a.w, r.a.d, r.a.t, r.b.k, r.b.m, r.b.w, r.b.d, r.b.t) := by
 obtain ⟨_, h2, _, _, _, h6, _, _⟩ := Z.right_parts hR
 obtain ⟨i1, i2⟩ := aa6 hr
 have h64 : ∀ t ∈ ts, sM t.1 = true := fun t ht => Z4 (List.all_eq_true.1 h6 t ht)
 have hts : ∀ a ∈ ts.map (·.1), sM a = true := by intro a ha; obtain ⟨t, ht, rfl⟩ := List.mem_map.1 ha; exact h64 t ht
 unfold nH nG
 have e := Sd n ts h2 h64 (ts.map Z.cT) ti ix foot r.std r.dst r.off r.doff r.a.k r.a.m r.a.w r.a.d r.a.t r.b.k r.b.m r.b.w r.b.d r.b.t ts 0 n [] (by simp) (by omega)
 simp only [Int.natCast_zero] at e
 rw [e]
 simp only [Option.bind_some, bV, bU]
 rw [i1, show sM 1 = true from rfl, Bool.and_self, cond_true]
 by_cases hd : r.dst = []
 ·rw [show (r.dst == ([] : Str)) = true by simpa using hd, Bool.not_true, cond_false]
  have ea : zH (I1 [] (ts.map (·.1))) r.off 1 = I1 [] (uC ts (some r)) := by
   simp only [uC, if_pos hd]
   rw [UV]
   rfl
  have hl := NH (uC ts (some r)) []
  have hl2 : (uC ts (some r)).length = ts.length + 1 := by simp [uC, hd]
  simp only [List.length_nil] at hl
  rw [ea, Tn _ (by
   intro a ha
   simp only [uC, if_pos hd] at ha
   rcases List.mem_append.1 ha with ha | ha
   ·exact hts a ha
   ·rw [List.mem_singleton.1 ha]; exact i1), Bool.and_true, aa (by omega), KO]
 ·rw [show (r.dst == ([] : Str)) = false by simpa using hd, Bool.not_false, cond_true, i2 hd, Bool.and_true, cond_true]
  have ea : zH (zH (I1 [] (ts.map (·.1))) r.off 1) r.doff 1 = I1 [] (uC ts (some r)) := by
   simp only [uC, if_neg hd]
   rw [UV]
   rfl
  have hl := NH (uC ts (some r)) []
  have hl2 : (uC ts (some r)).length = ts.length + 2 := by simp [uC, hd]
  simp only [List.length_nil] at hl
  rw [ea, Tn _ (by
   intro a ha
   simp only [uC, if_neg hd] at ha
   rcases List.mem_append.1 ha with ha | ha
   ·exact hts a ha
   ·rcases List.mem_cons.1 ha with rfl | ha
    ·exact i1
    ·rw [List.mem_singleton.1 ha]; exact i2 hd), Bool.and_true, aa (by omega), KO]
end Go.Proofs.YtiegmpnagcdgoaaGreatDoor.H
namespace Go.Proofs.YtiegmpnagcdgoaaGreatDoor.H
open Go.Sh Go.RowKit
set_option linter.unusedSimpArgs false
set_option linter.unusedVariables false
theorem QH (n : Nat) (ts : List Z.Ty) (hts : ts.length ≤ 255) (h1 h2 : List Int) (h3 h4 h5 : Str) (h6 h7 h8 h9 h10 h11 h12 h13 h14 h15 h16 h17 : Int) (h18 h19 : Bool) : ∀ (q : List Z.Ty) (i m : Nat) (acc : List Int), ts.drop i = q → q.length < m → acc.length + q.length ≤ 1000 →
 aW n m acc (i : Int) (ts.map Z.cT) h1 h2 h3 h4 h5 h6 h7 h8 h9 h10 h11 h12 h13 h14 h15 h16 h17 h18 h19 = some (acc ++ q.map (·.1), ts.map Z.cT, h1, h2, h3, h4, h5, h6, h7, h8, h9, h10, h11, h12, h13, h14, h15, h16, h17, h18, h19)
 | [], i, m + 1, acc, h, _, _ => by
  have hi := drop_nil h
  simp only [aW, bN]
  rw [ah (by rw [List.length_map]; omega)]
  simp
 | t :: q, i, m + 1, acc, h, hm, ha => by
  obtain ⟨k1, k2, k3⟩ := jJ h
  simp only [List.length_cons] at hm ha
  simp only [aW, bN]
  rw [aa (by rw [List.length_map]; omega), aa (by omega), Int.toNat_natCast, List.getElem?_map, k1, vJ _ (by omega)]
  simp only [Option.map_some, Option.bind_some, Z.cT, unc, yu, yV, yX, unn, decide_true, cond_true]
  rw [aa (by simp only [List.length_cons, List.length_nil]; omega)]
  refine (QH n ts hts h1 h2 h3 h4 h5 h6 h7 h8 h9 h10 h11 h12 h13 h14 h15 h16 h17 h18 h19 q (i + 1) m _ k2 (by omega) (by simp only [List.length_append, List.length_cons, List.length_nil]; omega)).trans ?_
  simp
def upto (l : List Int) (v : Int) : List Int := l.takeWhile fun x => decide (x ≤ v)
theorem QI : ∀ (l : List Int) (v : Int), Fx l v = if v ∈ upto l v then l else upto l v ++ v :: l.drop (upto l v).length
 | [], v => by simp [upto, Fx]
 | b :: l, v => by
  unfold Fx upto
  by_cases h1 : b ≤ v
  ·rw [List.takeWhile_cons_of_pos (by simpa using h1), if_neg (by omega)]
   by_cases h2 : v = b
   ·subst h2
    simp
   ·rw [if_neg h2, QI l v]
    unfold upto
    by_cases h3 : v ∈ l.takeWhile fun x => decide (x ≤ v)
    ·rw [if_pos h3, if_pos (List.mem_cons_of_mem _ h3)]
    ·rw [if_neg h3, if_neg (by rw [List.mem_cons]; exact fun h => h.elim h2 h3)]
     simp
  ·rw [List.takeWhile_cons_of_neg (by simpa using h1), if_pos (by omega)]
   simp
theorem WS (l : List Int) (v : Int) : (upto l v).length ≤ l.length := (List.takeWhile_prefix _).length_le
theorem Si (l : List Int) (v : Int) : l.take (upto l v).length = upto l v := (List.prefix_iff_eq_take.1 (List.takeWhile_prefix _)).symm
theorem UW (n : Nat) (all out : List Int) (j : Nat) (v : Int) (hv : all[j]? = some v) (hb : out.length ≤ 2000) : ∀ (q : List Int) (k m : Nat) (b : Bool), out.drop k = q → q.length < m →
 aX n m all out.length out.length (j : Int) (k : Int) b out = some (((k + (upto q v).length : Nat) : Int), b || decide (v ∈ upto q v), out)
 | [], k, m + 1, b, h, _ => by
  have hi := drop_nil h
  simp only [aX, bQ, fA, bP]
  rw [ah (by omega)]
  simp [upto]
 | x :: q, k, m + 1, b, h, hm => by
  obtain ⟨k1, k2, k3⟩ := jJ h
  simp only [List.length_cons] at hm
  simp only [aX, bQ, fA, bP]
  rw [aa (by omega), aa (by omega), aa (by omega), Int.toNat_natCast, Nat.mul_one, k1]
  simp only [Option.bind_some]
  rw [aa (by omega), Int.toNat_natCast, hv]
  simp only [Option.bind_some]
  by_cases hx : x ≤ v
  ·rw [decide_eq_true hx, cond_true, ji, dQ]
   have hu : upto (x :: q) v = x :: upto q v := by unfold upto; rw [List.takeWhile_cons_of_pos (by simpa using hx)]
   have hj : (cond b (some (true, out)) (cond (decide ((0 : Int) ≤ (k : Int))) (cond (decide ((k : Int) < (out.length : Int))) ((out[Int.toNat (k : Int) * 1]?).bind fun y612 => (cond (decide ((0 : Int) ≤ (j : Int))) ((all[(j : Int).toNat]?).bind fun e613 => (some (y612 == e613, out))) none)) none) none)) = some (b || x == v, out) := by
    cases b with
    | true => rfl
    | false =>
     rw [cond_false, aa (by omega), aa (by omega), Int.toNat_natCast, Nat.mul_one, k1]
     simp only [Option.bind_some]
     rw [aa (by omega), Int.toNat_natCast, hv]
     rfl
   rw [hj]
   simp only [Option.bind_some]
   rw [vJ _ (by omega), UW n all out j v hv hb q (k + 1) m _ k2 (by omega), hu]
   congr 2
   ·simp only [List.length_cons]; omega
   ·congr 1
    rw [Bool.or_assoc]
    congr 1
    simp only [List.mem_cons]
    rw [Bool.decide_or]
    congr 1
    by_cases e : x = v
    ·simp [e]
    ·simp [e, Ne.symm e]
  ·rw [decide_eq_false hx, cond_false]
   have hu : upto (x :: q) v = [] := by unfold upto; rw [List.takeWhile_cons_of_neg (by simpa using hx)]
   rw [hu]
   simp
theorem Z5 (n : Nat) (all out : List Int) (j : Nat) (v : Int) (hv : all[j]? = some v) (hb : out.length ≤ 1500) (hn : 2000 ≤ n) :
 fB n all out.length out.length (j : Int) out = some (all, (Fx out v).length, (Fx out v).length, (j : Int), Fx out v) := by
 have e := UW n all out j v hv (by omega) out 0 n false (by simp) (by omega)
 simp only [Int.natCast_zero, Nat.zero_add, Bool.false_or] at e
 unfold fB dR
 rw [e]
 simp only [Option.bind_some]
 by_cases h : v ∈ upto out v
 ·rw [decide_eq_true h, Bool.not_true, cond_false, QI out v, if_pos h]
 ·have hp := WS out v
  have e2 : (([] : List Int) ++ (out.drop ((upto out v).length * 1)).take (out.length - (upto out v).length)) = out.drop (upto out v).length := by
   rw [List.nil_append, Nat.mul_one, List.take_of_length_le (by rw [List.length_drop]; omega)]
  have e3 : (out.take (upto out v).length ++ [v]).take ((upto out v).length + [v].length) = upto out v ++ [v] := by
   rw [Si, List.take_of_length_le (by simp)]
  rw [decide_eq_false h, Bool.not_false, cond_true]
  simp only [Int.toNat_natCast, e2, e3]
  have l1 : (out.take (upto out v).length).length = (upto out v).length := by rw [Si]
  have l2 : ((upto out v).length + [v].length) + (out.drop (upto out v).length).length = (Fx out v).length := by
   rw [QI, if_neg h]
   simp only [List.length_append, List.length_cons, List.length_nil, List.length_drop]
   omega
  have l3 : (Fx out v).length ≤ 1501 := by
   rw [← l2, List.length_drop]
   simp only [List.length_cons, List.length_nil]
   omega
  rw [aa (by omega), aa (by omega), aa (by omega), aa (by simp only [List.length_nil]; omega), aa (by omega), aa (by omega), aa (by omega), hv]
  simp only [Option.bind_some, l2]
  have c1 : (decide True && (decide (0 < (upto out v).length + [v].length) || Nat.beq out.length 0) && decide (((upto out v).length + [v].length) * 8 ≤ 140737488355328)) = true := by
   simp only [Bool.and_eq_true, Bool.or_eq_true, decide_eq_true_eq, List.length_cons, List.length_nil]
   exact ⟨⟨trivial, .inl (by omega)⟩, by omega⟩
  have c2 : (decide ((upto out v).length + [v].length = (out.take (upto out v).length ++ [v]).length) && (decide (0 < (Fx out v).length) || Nat.beq ((upto out v).length + [v].length) 0) && decide ((Fx out v).length * 8 ≤ 140737488355328)) = true := by
   simp only [Bool.and_eq_true, Bool.or_eq_true, decide_eq_true_eq, List.length_append, l1]
   exact ⟨⟨trivial, .inl (by rw [← l2]; simp only [List.length_cons]; omega)⟩, by omega⟩
  rw [c1, cond_true, c2, cond_true, e3]
  have e4 : upto out v ++ [v] ++ out.drop (upto out v).length = Fx out v := by
   rw [QI, if_neg h]
   simp
  rw [e4]
theorem WT (l : List Int) (v : Int) : (Fx l v).length ≤ l.length + 1 := by
 have hp := WS l v
 rw [QI]
 split
 ·omega
 ·simp only [List.length_append, List.length_cons, List.length_drop]
  omega
theorem UX (n : Nat) (hn : 2000 ≤ n) (all : List Int) (hall : all.length ≤ 500) : ∀ (q : List Int) (j m : Nat) (out : List Int), all.drop j = q → q.length < m → out.length + q.length ≤ 1000 →
 aO n m all out.length out.length (j : Int) out = some ((yo out q).length, (yo out q).length, yo out q)
 | [], j, m + 1, out, h, _, _ => by
  have hi := drop_nil h
  simp only [aO, bR]
  rw [ah (by omega)]
  rfl
 | v :: q, j, m + 1, out, h, hm, ho => by
  obtain ⟨k1, k2, k3⟩ := jJ h
  simp only [List.length_cons] at hm ho
  simp only [aO, bR]
  rw [aa (by omega), Z5 n all out j v k1 (by omega) hn]
  simp only [Option.bind_some]
  rw [vJ _ (by omega)]
  have := WT out v
  exact UX n hn all hall q (j + 1) m (Fx out v) k2 (by omega) (by omega)
end Go.Proofs.YtiegmpnagcdgoaaGreatDoor.H
namespace Go.Proofs.YtiegmpnagcdgoaaGreatDoor.H
open Go.Sh Go.RowKit
set_option linter.unusedVariables false
set_option linter.unusedSimpArgs false
set_option maxHeartbeats 4000000
set_option maxRecDepth 100000
def qg (n : Nat) (a0 : Int) (h0 : List (List AV)) (h1 h2 : List Int) (h3 h4 h5 : Str) (h6 h7 h8 h9 h10 h11 h12 h13 h14 h15 h16 h17 : Int) (R : Type) (K : (Int × Int × Int × Int × Int × Int × Int × Int × (List (List AV)) × (List Int) × (List Int) × Str × Str × Str × Int × Int × Int × Int × Int × Int × Int × Int × Int × Int × Int × Int) → Option R) : Option R := (qA n a0 (1000000 : Int)).bind fun o648 => ((fK n o648 h0 h1 h2 h3 h4 h5 h6 h7 h8 h9 h10 h11 h12 h13 h14 h15 h16 h17).bind fun o649 => (cond ((decide ((IntKind.i64.wrap (a0 + (IntKind.i64.wrap (o649.1 * (1000000 : Int))))) < a0)) == (decide ((IntKind.i64.wrap (o649.1 * (1000000 : Int))) < (0 : Int)))) ((bA n (IntKind.i64.wrap (a0 + (IntKind.i64.wrap (o649.1 * (1000000 : Int)))))).bind fun o650 => (K (o650.1, o650.2.1, o650.2.2.1, o650.2.2.2.1, o650.2.2.2.2.1, o650.2.2.2.2.2.1, o650.2.2.2.2.2.2.1, o650.2.2.2.2.2.2.2, o649.2.1, o649.2.2.1, o649.2.2.2.1, o649.2.2.2.2.1, o649.2.2.2.2.2.1, o649.2.2.2.2.2.2.1, o649.2.2.2.2.2.2.2.1, o649.2.2.2.2.2.2.2.2.1, o649.2.2.2.2.2.2.2.2.2.1, o649.2.2.2.2.2.2.2.2.2.2.1, o649.2.2.2.2.2.2.2.2.2.2.2.1, o649.2.2.2.2.2.2.2.2.2.2.2.2.1, o649.2.2.2.2.2.2.2.2.2.2.2.2.2.1, o649.2.2.2.2.2.2.2.2.2.2.2.2.2.2.1, o649.2.2.2.2.2.2.2.2.2.2.2.2.2.2.2.1, o649.2.2.2.2.2.2.2.2.2.2.2.2.2.2.2.2.1, o649.2.2.2.2.2.2.2.2.2.2.2.2.2.2.2.2.2.1, o649.2.2.2.2.2.2.2.2.2.2.2.2.2.2.2.2.2.2))) (K ((0 : Int), (0 : Int), (0 : Int), (0 : Int), (0 : Int), (0 : Int), (0 : Int), (6 : Int), o649.2.1, o649.2.2.1, o649.2.2.2.1, o649.2.2.2.2.1, o649.2.2.2.2.2.1, o649.2.2.2.2.2.2.1, o649.2.2.2.2.2.2.2.1, o649.2.2.2.2.2.2.2.2.1, o649.2.2.2.2.2.2.2.2.2.1, o649.2.2.2.2.2.2.2.2.2.2.1, o649.2.2.2.2.2.2.2.2.2.2.2.1, o649.2.2.2.2.2.2.2.2.2.2.2.2.1, o649.2.2.2.2.2.2.2.2.2.2.2.2.2.1, o649.2.2.2.2.2.2.2.2.2.2.2.2.2.2.1, o649.2.2.2.2.2.2.2.2.2.2.2.2.2.2.2.1, o649.2.2.2.2.2.2.2.2.2.2.2.2.2.2.2.2.1, o649.2.2.2.2.2.2.2.2.2.2.2.2.2.2.2.2.2.1, o649.2.2.2.2.2.2.2.2.2.2.2.2.2.2.2.2.2.2))))
def uP n a0 h0 h1 h2 h3 h4 h5 h6 h7 h8 h9 h10 h11 h12 h13 h14 h15 h16 h17 := qg n a0 h0 h1 h2 h3 h4 h5 h6 h7 h8 h9 h10 h11 h12 h13 h14 h15 h16 h17 _ some
def yU : FS := ⟨[.q 0 0, .n], [.c 82 [.L false 3, .l .i64, .l .i64, .s, .q 1 0], .c 87 [.s, .s, .n, .n, .c, .n, .n, .n, .n, .c, .n, .n, .n, .n]], [([.a [.n, .n, .n, .n, .n, .n, .n], .n], [.c 82 [.L false 3, .l .i64, .l .i64, .s, .q 1 0], .c 87 [.s, .s, .n, .n, .c, .n, .n, .n, .n, .c, .n, .n, .n, .n]])]⟩
def Ed (n : Nat) : FSpec := yU.sp (uP n)
theorem I5 (n : Nat) : FSound Tryz.prog 17 (Ed n) := fs2 (S := yU) (b := qg n) Tryz.func17 rfl rfl [.cell 4 47 7 true, .tmp 5] (.s .a (.s (.r [(2, .cl 39 (uq n)), (3, .cl 12 (nI n))]) (.s (.s .a (.s .a (.s (.s (.r [(1, .cl 18 (qR n)), (3, .tk [23])]) .a) .a))) .a))) (Zx (qg n) (by intros; unfold qg; simp only [ay])) (ai (qJ n) (ai (og n) (ai (rO n) trivial)))
def qh (n : Nat) (a0 : Int) (h0 : List (List AV)) (h1 h2 : List Int) (h3 : Str) (R : Type) (K : (Int × Int × Int × Int × Int × Int × Int × Int × (List (List AV)) × (List Int) × (List Int) × Str) → Option R) : Option R := (qA n a0 (1000000 : Int)).bind fun o707 => ((iK n o707 h0 h1 h2 h3).bind fun o708 => (cond ((decide ((IntKind.i64.wrap (a0 + (IntKind.i64.wrap (o708.1 * (1000000 : Int))))) < a0)) == (decide ((IntKind.i64.wrap (o708.1 * (1000000 : Int))) < (0 : Int)))) ((bA n (IntKind.i64.wrap (a0 + (IntKind.i64.wrap (o708.1 * (1000000 : Int)))))).bind fun o709 => (K (o709.1, o709.2.1, o709.2.2.1, o709.2.2.2.1, o709.2.2.2.2.1, o709.2.2.2.2.2.1, o709.2.2.2.2.2.2.1, o709.2.2.2.2.2.2.2, o708.2.1, o708.2.2.1, o708.2.2.2.1, o708.2.2.2.2))) (K ((0 : Int), (0 : Int), (0 : Int), (0 : Int), (0 : Int), (0 : Int), (0 : Int), (6 : Int), o708.2.1, o708.2.2.1, o708.2.2.2.1, o708.2.2.2.2))))
def uQ n a0 h0 h1 h2 h3 := qh n a0 h0 h1 h2 h3 _ some
def EU : FS := ⟨[.q 0 0, .n], [.c 82 [.L false 3, .l .i64, .l .i64, .s, .x (.ptr none)]], [([.a [.n, .n, .n, .n, .n, .n, .n], .n], [.c 82 [.L false 3, .l .i64, .l .i64, .s, .x (.ptr none)]])]⟩
def Ee (n : Nat) : FSpec := EU.sp (uQ n)
theorem I6 (n : Nat) : FSound Tryz.prog 17 (Ee n) := fs2 (S := EU) (b := qh n) Tryz.func17 rfl rfl [.cell 4 47 7 true, .tmp 5] (.s .a (.s (.r [(2, .cl 39 (uq n)), (3, .cl 12 (nL n))]) (.s (.s .a (.s .a (.s (.s (.r [(1, .cl 18 (qR n)), (3, .tk [23])]) .a) .a))) .a))) (nt5 (qh n) (by intros; unfold qh; simp only [ay])) (ai (qJ n) (ai (oh n) (ai (rO n) trivial)))
def AA (n : Nat) : FSpec := RA BS.p (zQ n) (RA yU.p (Ed n) (Ee n))
theorem GQ (n : Nat) : FSound Tryz.prog 17 (AA n) := Hm (Cw n) (Hm (I5 n) (I6 n))
end Go.Proofs.YtiegmpnagcdgoaaGreatDoor.H
namespace Go.Proofs.YtiegmpnagcdgoaaGreatDoor.H
open Go.Sh Go.RowKit
set_option linter.unusedVariables false
set_option linter.unusedSimpArgs false
set_option maxHeartbeats 4000000
set_option maxRecDepth 100000
def fD (n : Nat) (x0 x1 : List Int) (x5 : Int) (R : Type) (A_ : (List Int) → (List Int) → Int → Option R) (K : ((Unit) ⊕ (Unit)) → Option R) : Option R := cond (decide (x5 < (x0.length : Int))) (cond (decide (0 ≤ x5)) ((x0[x5.toNat]?).bind fun e620 => (cond (decide (0 ≤ x5)) ((x1[x5.toNat]?).bind fun e621 => (cond (e620 != e621) (K (Sum.inl ())) (A_ x0 x1 (IntKind.i64.wrap (x5 + (1 : Int)))))) none)) none) (K (Sum.inr ()))
def cO (n : Nat) : Nat → (List Int) → (List Int) → Int → Option ((Unit) ⊕ (Unit))
 | 0, _, _, _ => none
 | m + 1, x0, x1, x5 => fD n x0 x1 x5 _ (cO n m) some
def rE : PS := ⟨[], [(0, .l .i64), (1, .l .i64), (5, .n)], some [], [⟨.ret, [], [(4, .x (.bool false))], [], none⟩, ⟨(.exit 0), [], [], [], none⟩], none, none⟩
theorem EI (n : Nat) : Snd ⟨Tryz.prog, 0, 26⟩ (rE.x (cO n n)) (fb Tryz.f14 43) := mK (S := rE) (b := fD n) (f := cO n) n (.s .a (.s (.u (.s (.d [] [(3, .no), (7, .no)]) .a)) .a)) (nl3 (fD n) (by intros; unfold fD; simp only [ay])) trivial
def kV (n : Nat) (a0 a1 : List Int) (R : Type) (K : Bool → Option R) : Option R := cond ((a0.length : Int) != (a1.length : Int)) (K false) ((cO n n a0 a1 (0 : Int)).bind fun o622 => (Sum.elim (fun o623 => K false) (fun o624 => K true) o622))
def iD n a0 a1 := kV n a0 a1 _ some
def AB : FS := ⟨[.l .i64, .l .i64], [], [([.b], [])]⟩
def oC (n : Nat) : FSpec := AB.sp (iD n)
theorem qF (n : Nat) : FSound Tryz.prog 14 (oC n) := fs2 (S := AB) (b := kV n) Tryz.func14 rfl rfl [.tmp 4] (.s .a (.s .a (.s (.s .a (.u (.p (rE.x (cO n n))))) .a))) (nt2 (kV n) (by intros; unfold kV; simp only [ay])) (ai (EI n) trivial)
def fQ (n : Nat) (x2 x10 : Int) (h0_0 : List (List AV)) (h0_1 h0_2 : List Int) (h0_3 h0_4 h0_5 : Str) (h0_6 h0_7 h0_8 h0_9 h0_10 h0_11 h0_12 h0_13 h0_14 h0_15 h0_16 h0_17 : Int) (h0_18 h0_19 : Bool) (R : Type) (K : W21 → Option R) : Option R := (kw n x2).bind fun o664 => ((aj n h0_0 h0_1 h0_2 h0_3 h0_4 h0_5 h0_6 h0_7 h0_8 h0_9 h0_10 h0_11 h0_12 h0_13 h0_14 h0_15 h0_16 h0_17 h0_18 h0_19 x2).bind fun o665 => (cond ((0 : Int) != o665) (K (true, h0_0, h0_1, h0_2, h0_3, h0_4, h0_5, h0_6, h0_7, h0_8, h0_9, h0_10, h0_11, h0_12, h0_13, h0_14, h0_15, h0_16, h0_17, h0_18, h0_19)) ((kw n x10).bind fun o666 => ((aj n h0_0 h0_1 h0_2 h0_3 h0_4 h0_5 h0_6 h0_7 h0_8 h0_9 h0_10 h0_11 h0_12 h0_13 h0_14 h0_15 h0_16 h0_17 h0_18 h0_19 x10).bind fun o667 => (cond ((0 : Int) != o667) (K (true, h0_0, h0_1, h0_2, h0_3, h0_4, h0_5, h0_6, h0_7, h0_8, h0_9, h0_10, h0_11, h0_12, h0_13, h0_14, h0_15, h0_16, h0_17, h0_18, h0_19)) ((uN n ).bind fun o668 => ((aQ n h0_0 h0_1 h0_2 h0_3 h0_4 h0_5 h0_6 h0_7 h0_8 h0_9 h0_10 h0_11 h0_12 h0_13 h0_14 h0_15 h0_16 h0_17 h0_18 h0_19).bind fun o669 => ((iD n o668 o669).bind fun o670 => (K (!o670, h0_0, h0_1, h0_2, h0_3, h0_4, h0_5, h0_6, h0_7, h0_8, h0_9, h0_10, h0_11, h0_12, h0_13, h0_14, h0_15, h0_16, h0_17, h0_18, h0_19))))))))))
def iy n x2 x10 h0_0 h0_1 h0_2 h0_3 h0_4 h0_5 h0_6 h0_7 h0_8 h0_9 h0_10 h0_11 h0_12 h0_13 h0_14 h0_15 h0_16 h0_17 h0_18 h0_19 := fQ n x2 x10 h0_0 h0_1 h0_2 h0_3 h0_4 h0_5 h0_6 h0_7 h0_8 h0_9 h0_10 h0_11 h0_12 h0_13 h0_14 h0_15 h0_16 h0_17 h0_18 h0_19 _ some
def oW : PS := ⟨[], [(2, .n), (7, .x (.ptr none)), (8, .q 0 0), (10, .n)], some [.c 36 [.L false 3, .l .i64, .l .i64, .s, .s, .s, .n, .n, .c, .n, .n, .n, .n, .c, .n, .n, .n, .n, .b, .b]], [⟨.normal, [2, 7, 8], [(51, .b)], [.c 36 [.L false 3, .l .i64, .l .i64, .s, .s, .s, .n, .n, .c, .n, .n, .n, .n, .c, .n, .n, .n, .n, .b, .b]], none⟩], none, none⟩
def fT (n : Nat) (x2 x13 : Int) (R : Type) (K : (Bool) → Option R) : Option R := cond (decide (x2 > x13)) (K true) (K (decide (x2 < (IntKind.i64.wrap (0 - x13)))))
def bY n x2 x13 := fT n x2 x13 _ some
def oZ : PS := ⟨[8, 11, 12], [(2, .n), (13, .n)], none, [⟨.normal, [2, 8, 11, 12], [(66, .b)], [], none⟩], none, none⟩
def fU (n : Nat) (x12 : Int) (R : Type) (K : (Bool) → Option R) : Option R := cond (x12 != (0 : Int)) ((aT n ).bind fun o674 => (K o674)) (K false)
def bZ n x12 := fU n x12 _ some
def o9 : PS := ⟨[], [(12, .n)], none, [⟨.normal, [], [(6, .b)], [], none⟩], none, none⟩
def eG (n : Nat) (x2 x10 : Int) (h0_0 : List (List AV)) (h0_1 h0_2 : List Int) (h0_3 : Str) (h1_0 : List (List AV)) (h1_1 h1_2 : List Int) (h1_3 h1_4 h1_5 : Str) (h1_6 h1_7 h1_8 h1_9 h1_10 h1_11 h1_12 h1_13 h1_14 h1_15 h1_16 h1_17 : Int) (h1_18 h1_19 : Bool) (h2_0 h2_1 : Str) (h2_2 h2_3 h2_4 h2_5 h2_6 h2_7 h2_8 h2_9 h2_10 h2_11 h2_12 h2_13 : Int) (R : Type) (K : (Bool × (List (List AV)) × (List Int) × (List Int) × Str × (List (List AV)) × (List Int) × (List Int) × Str × Str × Str × Int × Int × Int × Int × Int × Int × Int × Int × Int × Int × Int × Int × Bool × Bool × Str × Str × Int × Int × Int × Int × Int × Int × Int × Int × Int × Int × Int × Int) → Option R) : Option R := (fK n x2 h0_0 h0_1 h0_2 h0_3 h2_0 h2_1 h2_2 h2_3 h2_4 h2_5 h2_6 h2_7 h2_8 h2_9 h2_10 h2_11 h2_12 h2_13).bind fun o683 => ((aj n h1_0 h1_1 h1_2 h1_3 h1_4 h1_5 h1_6 h1_7 h1_8 h1_9 h1_10 h1_11 h1_12 h1_13 h1_14 h1_15 h1_16 h1_17 h1_18 h1_19 x2).bind fun o684 => (cond (o683.1 != o684) (K (true, o683.2.1, o683.2.2.1, o683.2.2.2.1, o683.2.2.2.2.1, h1_0, h1_1, h1_2, h1_3, h1_4, h1_5, h1_6, h1_7, h1_8, h1_9, h1_10, h1_11, h1_12, h1_13, h1_14, h1_15, h1_16, h1_17, h1_18, h1_19, o683.2.2.2.2.2.1, o683.2.2.2.2.2.2.1, o683.2.2.2.2.2.2.2.1, o683.2.2.2.2.2.2.2.2.1, o683.2.2.2.2.2.2.2.2.2.1, o683.2.2.2.2.2.2.2.2.2.2.1, o683.2.2.2.2.2.2.2.2.2.2.2.1, o683.2.2.2.2.2.2.2.2.2.2.2.2.1, o683.2.2.2.2.2.2.2.2.2.2.2.2.2.1, o683.2.2.2.2.2.2.2.2.2.2.2.2.2.2.1, o683.2.2.2.2.2.2.2.2.2.2.2.2.2.2.2.1, o683.2.2.2.2.2.2.2.2.2.2.2.2.2.2.2.2.1, o683.2.2.2.2.2.2.2.2.2.2.2.2.2.2.2.2.2.1, o683.2.2.2.2.2.2.2.2.2.2.2.2.2.2.2.2.2.2)) ((fK n x10 o683.2.1 o683.2.2.1 o683.2.2.2.1 o683.2.2.2.2.1 o683.2.2.2.2.2.1 o683.2.2.2.2.2.2.1 o683.2.2.2.2.2.2.2.1 o683.2.2.2.2.2.2.2.2.1 o683.2.2.2.2.2.2.2.2.2.1 o683.2.2.2.2.2.2.2.2.2.2.1 o683.2.2.2.2.2.2.2.2.2.2.2.1 o683.2.2.2.2.2.2.2.2.2.2.2.2.1 o683.2.2.2.2.2.2.2.2.2.2.2.2.2.1 o683.2.2.2.2.2.2.2.2.2.2.2.2.2.2.1 o683.2.2.2.2.2.2.2.2.2.2.2.2.2.2.2.1 o683.2.2.2.2.2.2.2.2.2.2.2.2.2.2.2.2.1 o683.2.2.2.2.2.2.2.2.2.2.2.2.2.2.2.2.2.1 o683.2.2.2.2.2.2.2.2.2.2.2.2.2.2.2.2.2.2).bind fun o685 => ((aj n h1_0 h1_1 h1_2 h1_3 h1_4 h1_5 h1_6 h1_7 h1_8 h1_9 h1_10 h1_11 h1_12 h1_13 h1_14 h1_15 h1_16 h1_17 h1_18 h1_19 x10).bind fun o686 => (cond (o685.1 != o686) (K (true, o685.2.1, o685.2.2.1, o685.2.2.2.1, o685.2.2.2.2.1, h1_0, h1_1, h1_2, h1_3, h1_4, h1_5, h1_6, h1_7, h1_8, h1_9, h1_10, h1_11, h1_12, h1_13, h1_14, h1_15, h1_16, h1_17, h1_18, h1_19, o685.2.2.2.2.2.1, o685.2.2.2.2.2.2.1, o685.2.2.2.2.2.2.2.1, o685.2.2.2.2.2.2.2.2.1, o685.2.2.2.2.2.2.2.2.2.1, o685.2.2.2.2.2.2.2.2.2.2.1, o685.2.2.2.2.2.2.2.2.2.2.2.1, o685.2.2.2.2.2.2.2.2.2.2.2.2.1, o685.2.2.2.2.2.2.2.2.2.2.2.2.2.1, o685.2.2.2.2.2.2.2.2.2.2.2.2.2.2.1, o685.2.2.2.2.2.2.2.2.2.2.2.2.2.2.2.1, o685.2.2.2.2.2.2.2.2.2.2.2.2.2.2.2.2.1, o685.2.2.2.2.2.2.2.2.2.2.2.2.2.2.2.2.2.1, o685.2.2.2.2.2.2.2.2.2.2.2.2.2.2.2.2.2.2)) ((nH n o685.2.1 o685.2.2.1 o685.2.2.2.1 o685.2.2.2.2.1 o685.2.2.2.2.2.1 o685.2.2.2.2.2.2.1 o685.2.2.2.2.2.2.2.1 o685.2.2.2.2.2.2.2.2.1 o685.2.2.2.2.2.2.2.2.2.1 o685.2.2.2.2.2.2.2.2.2.2.1 o685.2.2.2.2.2.2.2.2.2.2.2.1 o685.2.2.2.2.2.2.2.2.2.2.2.2.1 o685.2.2.2.2.2.2.2.2.2.2.2.2.2.1 o685.2.2.2.2.2.2.2.2.2.2.2.2.2.2.1 o685.2.2.2.2.2.2.2.2.2.2.2.2.2.2.2.1 o685.2.2.2.2.2.2.2.2.2.2.2.2.2.2.2.2.1 o685.2.2.2.2.2.2.2.2.2.2.2.2.2.2.2.2.2.1 o685.2.2.2.2.2.2.2.2.2.2.2.2.2.2.2.2.2.2).bind fun o687 => ((aQ n h1_0 h1_1 h1_2 h1_3 h1_4 h1_5 h1_6 h1_7 h1_8 h1_9 h1_10 h1_11 h1_12 h1_13 h1_14 h1_15 h1_16 h1_17 h1_18 h1_19).bind fun o688 => ((iD n o687.1 o688).bind fun o689 => (K (!o689, o687.2.1, o687.2.2.1, o687.2.2.2.1, o687.2.2.2.2.1, h1_0, h1_1, h1_2, h1_3, h1_4, h1_5, h1_6, h1_7, h1_8, h1_9, h1_10, h1_11, h1_12, h1_13, h1_14, h1_15, h1_16, h1_17, h1_18, h1_19, o687.2.2.2.2.2.1, o687.2.2.2.2.2.2.1, o687.2.2.2.2.2.2.2.1, o687.2.2.2.2.2.2.2.2.1, o687.2.2.2.2.2.2.2.2.2.1, o687.2.2.2.2.2.2.2.2.2.2.1, o687.2.2.2.2.2.2.2.2.2.2.2.1, o687.2.2.2.2.2.2.2.2.2.2.2.2.1, o687.2.2.2.2.2.2.2.2.2.2.2.2.2.1, o687.2.2.2.2.2.2.2.2.2.2.2.2.2.2.1, o687.2.2.2.2.2.2.2.2.2.2.2.2.2.2.2.1, o687.2.2.2.2.2.2.2.2.2.2.2.2.2.2.2.2.1, o687.2.2.2.2.2.2.2.2.2.2.2.2.2.2.2.2.2.1, o687.2.2.2.2.2.2.2.2.2.2.2.2.2.2.2.2.2.2))))))))))
def fV n x2 x10 h0_0 h0_1 h0_2 h0_3 h1_0 h1_1 h1_2 h1_3 h1_4 h1_5 h1_6 h1_7 h1_8 h1_9 h1_10 h1_11 h1_12 h1_13 h1_14 h1_15 h1_16 h1_17 h1_18 h1_19 h2_0 h2_1 h2_2 h2_3 h2_4 h2_5 h2_6 h2_7 h2_8 h2_9 h2_10 h2_11 h2_12 h2_13 := eG n x2 x10 h0_0 h0_1 h0_2 h0_3 h1_0 h1_1 h1_2 h1_3 h1_4 h1_5 h1_6 h1_7 h1_8 h1_9 h1_10 h1_11 h1_12 h1_13 h1_14 h1_15 h1_16 h1_17 h1_18 h1_19 h2_0 h2_1 h2_2 h2_3 h2_4 h2_5 h2_6 h2_7 h2_8 h2_9 h2_10 h2_11 h2_12 h2_13 _ some
def mW : PS := ⟨[], [(2, .n), (7, .q 0 0), (8, .q 1 0), (10, .n)], some [.c 82 [.L false 3, .l .i64, .l .i64, .s, .q 2 0], .c 36 [.L false 3, .l .i64, .l .i64, .s, .s, .s, .n, .n, .c, .n, .n, .n, .n, .c, .n, .n, .n, .n, .b, .b], .c 87 [.s, .s, .n, .n, .c, .n, .n, .n, .n, .c, .n, .n, .n, .n]], [⟨.normal, [2, 7, 8], [(51, .b)], [.c 82 [.L false 3, .l .i64, .l .i64, .s, .q 2 0], .c 36 [.L false 3, .l .i64, .l .i64, .s, .s, .s, .n, .n, .c, .n, .n, .n, .n, .c, .n, .n, .n, .n, .b, .b], .c 87 [.s, .s, .n, .n, .c, .n, .n, .n, .n, .c, .n, .n, .n, .n]], none⟩], none, none⟩
def eH (n : Nat) (x2 x10 : Int) (h0_0 : List (List AV)) (h0_1 h0_2 : List Int) (h0_3 : Str) (h1_0 : List (List AV)) (h1_1 h1_2 : List Int) (h1_3 h1_4 h1_5 : Str) (h1_6 h1_7 h1_8 h1_9 h1_10 h1_11 h1_12 h1_13 h1_14 h1_15 h1_16 h1_17 : Int) (h1_18 h1_19 : Bool) (R : Type) (K : W10 → Option R) : Option R := (iK n x2 h0_0 h0_1 h0_2 h0_3).bind fun o699 => ((aj n h1_0 h1_1 h1_2 h1_3 h1_4 h1_5 h1_6 h1_7 h1_8 h1_9 h1_10 h1_11 h1_12 h1_13 h1_14 h1_15 h1_16 h1_17 h1_18 h1_19 x2).bind fun o700 => (cond (o699.1 != o700) (K (true, o699.2.1, o699.2.2.1, o699.2.2.2.1, o699.2.2.2.2, h1_0, h1_1, h1_2, h1_3, h1_4, h1_5, h1_6, h1_7, h1_8, h1_9, h1_10, h1_11, h1_12, h1_13, h1_14, h1_15, h1_16, h1_17, h1_18, h1_19)) ((iK n x10 o699.2.1 o699.2.2.1 o699.2.2.2.1 o699.2.2.2.2).bind fun o701 => ((aj n h1_0 h1_1 h1_2 h1_3 h1_4 h1_5 h1_6 h1_7 h1_8 h1_9 h1_10 h1_11 h1_12 h1_13 h1_14 h1_15 h1_16 h1_17 h1_18 h1_19 x10).bind fun o702 => (cond (o701.1 != o702) (K (true, o701.2.1, o701.2.2.1, o701.2.2.2.1, o701.2.2.2.2, h1_0, h1_1, h1_2, h1_3, h1_4, h1_5, h1_6, h1_7, h1_8, h1_9, h1_10, h1_11, h1_12, h1_13, h1_14, h1_15, h1_16, h1_17, h1_18, h1_19)) ((nK n o701.2.1 o701.2.2.1 o701.2.2.2.1 o701.2.2.2.2).bind fun o703 => ((aQ n h1_0 h1_1 h1_2 h1_3 h1_4 h1_5 h1_6 h1_7 h1_8 h1_9 h1_10 h1_11 h1_12 h1_13 h1_14 h1_15 h1_16 h1_17 h1_18 h1_19).bind fun o704 => ((iD n o703.1 o704).bind fun o705 => (K (!o705, o703.2.1, o703.2.2.1, o703.2.2.2.1, o703.2.2.2.2, h1_0, h1_1, h1_2, h1_3, h1_4, h1_5, h1_6, h1_7, h1_8, h1_9, h1_10, h1_11, h1_12, h1_13, h1_14, h1_15, h1_16, h1_17, h1_18, h1_19))))))))))
def fZ n x2 x10 h0_0 h0_1 h0_2 h0_3 h1_0 h1_1 h1_2 h1_3 h1_4 h1_5 h1_6 h1_7 h1_8 h1_9 h1_10 h1_11 h1_12 h1_13 h1_14 h1_15 h1_16 h1_17 h1_18 h1_19 := eH n x2 x10 h0_0 h0_1 h0_2 h0_3 h1_0 h1_1 h1_2 h1_3 h1_4 h1_5 h1_6 h1_7 h1_8 h1_9 h1_10 h1_11 h1_12 h1_13 h1_14 h1_15 h1_16 h1_17 h1_18 h1_19 _ some
def mX : PS := ⟨[], [(2, .n), (7, .q 0 0), (8, .q 1 0), (10, .n)], some [.c 82 [.L false 3, .l .i64, .l .i64, .s, .x (.ptr none)], .c 36 [.L false 3, .l .i64, .l .i64, .s, .s, .s, .n, .n, .c, .n, .n, .n, .n, .c, .n, .n, .n, .n, .b, .b]], [⟨.normal, [2, 7, 8], [(51, .b)], [.c 82 [.L false 3, .l .i64, .l .i64, .s, .x (.ptr none)], .c 36 [.L false 3, .l .i64, .l .i64, .s, .s, .s, .n, .n, .c, .n, .n, .n, .n, .c, .n, .n, .n, .n, .b, .b]], none⟩], none, none⟩
theorem Cn (n : Nat) : Snd ⟨Tryz.prog, 0, 90⟩ (oW.x (iy n)) (fb Tryz.f3 79) := iY (S := oW) (b := fQ n) (.d [(2, .cl 12 (qc n)), (5, .cl 13 (aY n)), (10, .cl 12 (qc n)), (13, .cl 13 (aY n)), (18, .cl 15 (xV n)), (20, .cl 16 (jk n)), (21, .cl 14 (oC n))] [(2, .part []), (3, .peek [0] [0]), (5, .part []), (10, .part []), (11, .peek [0] [0]), (13, .part []), (18, .part []), (19, .peek [0] [0]), (20, .part []), (21, .part [])]) (abO (fQ n) (by intros; unfold fQ; simp only [ay])) (ai (qB n) (ai (bg n) (ai (qB n) (ai (bg n) (ai (Ak n) (ai (ll n) (ai (qF n) trivial)))))))
theorem Co (n : Nat) : Snd ⟨Tryz.prog, 0, 90⟩ (oZ.x (bY n)) (fb Tryz.f3 639) := iY (S := oZ) (b := fT n) .a (nt2 (fT n) (by intros; unfold fT; simp only [ay])) trivial
theorem Cq (n : Nat) : Snd ⟨Tryz.prog, 0, 90⟩ (o9.x (bZ n)) (fb Tryz.f3 2431) := iY (S := o9) (b := fU n) (.r [(3, .cl 10 (pR n))]) (nt1 (fU n) (by intros; unfold fU; simp only [ay])) (ai (qW n) trivial)
theorem AZ (n : Nat) : Snd ⟨Tryz.prog, 0, 90⟩ (mW.x (fV n)) (fb Tryz.f3 79) := iY (S := mW) (b := eG n) (.d [(2, .cl 12 (nI n)), (5, .cl 13 (aY n)), (10, .cl 12 (nI n)), (13, .cl 13 (aY n)), (18, .cl 15 (vR n)), (20, .cl 16 (jk n)), (21, .cl 14 (oC n))] [(0, .peek [0, 2] [0]), (2, .part [0, 2]), (3, .peek [1] [1]), (5, .part []), (8, .peek [0, 2] [0]), (10, .part [0, 2]), (11, .peek [1] [1]), (13, .part []), (17, .peek [0, 2] [0]), (18, .part [0, 2]), (19, .peek [1] [1]), (20, .part []), (21, .part [])]) (acH (eG n) (by intros; unfold eG; simp only [ay])) (ai (og n) (ai (bg n) (ai (og n) (ai (bg n) (ai (yK n) (ai (ll n) (ai (qF n) trivial)))))))
theorem Ba (n : Nat) : Snd ⟨Tryz.prog, 0, 90⟩ (mX.x (fZ n)) (fb Tryz.f3 79) := iY (S := mX) (b := eH n) (.d [(2, .cl 12 (nL n)), (5, .cl 13 (aY n)), (10, .cl 12 (nL n)), (13, .cl 13 (aY n)), (18, .cl 15 (vU n)), (20, .cl 16 (jk n)), (21, .cl 14 (oC n))] [(0, .peek [0] [0]), (2, .part [0]), (3, .peek [1] [1]), (5, .part []), (8, .peek [0] [0]), (10, .part [0]), (11, .peek [1] [1]), (13, .part []), (17, .peek [0] [0]), (18, .part [0]), (19, .peek [1] [1]), (20, .part []), (21, .part [])]) (acF (eH n) (by intros; unfold eH; simp only [ay])) (ai (oh n) (ai (bg n) (ai (oh n) (ai (bg n) (ai (yM n) (ai (ll n) (ai (qF n) trivial)))))))
def iW (n : Nat) (a0 : List (List AV)) (a1 a2 : List Int) (a3 : Str) (a4 : Bool) (a5 : Int) (R : Type) (K : Bool → Option R) : Option R := (gY n a0 a1 a2 a3 a4).bind fun o659 => (Sum.elim (fun o660 => cond (!o660.2.2.2.2.2.2.2.2.2.2.2.2.2.2.2.2.2.2.2.2) ((aT n ).bind fun o662 => (K o662)) ((gG n a5 (1000000 : Int)).bind fun o663 => ((iy n a5 o663 o660.1 o660.2.1 o660.2.2.1 o660.2.2.2.1 o660.2.2.2.2.1 o660.2.2.2.2.2.1 o660.2.2.2.2.2.2.1 o660.2.2.2.2.2.2.2.1 o660.2.2.2.2.2.2.2.2.1 o660.2.2.2.2.2.2.2.2.2.1 o660.2.2.2.2.2.2.2.2.2.2.1 o660.2.2.2.2.2.2.2.2.2.2.2.1 o660.2.2.2.2.2.2.2.2.2.2.2.2.1 o660.2.2.2.2.2.2.2.2.2.2.2.2.2.1 o660.2.2.2.2.2.2.2.2.2.2.2.2.2.2.1 o660.2.2.2.2.2.2.2.2.2.2.2.2.2.2.2.1 o660.2.2.2.2.2.2.2.2.2.2.2.2.2.2.2.2.1 o660.2.2.2.2.2.2.2.2.2.2.2.2.2.2.2.2.2.1 o660.2.2.2.2.2.2.2.2.2.2.2.2.2.2.2.2.2.2.1 o660.2.2.2.2.2.2.2.2.2.2.2.2.2.2.2.2.2.2.2.1).bind fun o671 => (cond o671.1 (K false) ((pO n a5).bind fun o672 => ((bY n a5 (4611686018427387904 : Int)).bind fun o673 => (cond o673 ((bZ n o672.2.2.2.2.2.2.2).bind fun o675 => (K o675)) ((aP n o671.2.1 o671.2.2.1 o671.2.2.2.1 o671.2.2.2.2.1 o671.2.2.2.2.2.1 o671.2.2.2.2.2.2.1 o671.2.2.2.2.2.2.2.1 o671.2.2.2.2.2.2.2.2.1 o671.2.2.2.2.2.2.2.2.2.1 o671.2.2.2.2.2.2.2.2.2.2.1 o671.2.2.2.2.2.2.2.2.2.2.2.1 o671.2.2.2.2.2.2.2.2.2.2.2.2.1 o671.2.2.2.2.2.2.2.2.2.2.2.2.2.1 o671.2.2.2.2.2.2.2.2.2.2.2.2.2.2.1 o671.2.2.2.2.2.2.2.2.2.2.2.2.2.2.2.1 o671.2.2.2.2.2.2.2.2.2.2.2.2.2.2.2.2.1 o671.2.2.2.2.2.2.2.2.2.2.2.2.2.2.2.2.2.1 o671.2.2.2.2.2.2.2.2.2.2.2.2.2.2.2.2.2.2.1 o671.2.2.2.2.2.2.2.2.2.2.2.2.2.2.2.2.2.2.2.1 o671.2.2.2.2.2.2.2.2.2.2.2.2.2.2.2.2.2.2.2.2 a5).bind fun o676 => ((bA n o676).bind fun o677 => (cond ((o672.1 == o677.1) && ((o672.2.1 == o677.2.1) && ((o672.2.2.1 == o677.2.2.1) && ((o672.2.2.2.1 == o677.2.2.2.1) && ((o672.2.2.2.2.1 == o677.2.2.2.2.1) && ((o672.2.2.2.2.2.1 == o677.2.2.2.2.2.1) && ((o672.2.2.2.2.2.2.1 == o677.2.2.2.2.2.2.1) && true))))))) (cond (o672.2.2.2.2.2.2.2 == o677.2.2.2.2.2.2.2) ((aT n ).bind fun o678 => (K o678)) (K false)) (K false))))))))))) (fun o661 => Sum.elim (fun o679 => cond (!o679.2.2.2.2.2.2.2.2.2.2.2.2.2.2.2.2.2.2.2.1) ((aT n ).bind fun o681 => (K o681)) ((gG n a5 (1000000 : Int)).bind fun o682 => ((fV n a5 o682 o679.2.2.2.2.2.2.2.2.2.2.2.2.2.2.2.2.2.2.2.2.1 o679.2.2.2.2.2.2.2.2.2.2.2.2.2.2.2.2.2.2.2.2.2.1 o679.2.2.2.2.2.2.2.2.2.2.2.2.2.2.2.2.2.2.2.2.2.2.1 o679.2.2.2.2.2.2.2.2.2.2.2.2.2.2.2.2.2.2.2.2.2.2.2.1 o679.1 o679.2.1 o679.2.2.1 o679.2.2.2.1 o679.2.2.2.2.1 o679.2.2.2.2.2.1 o679.2.2.2.2.2.2.1 o679.2.2.2.2.2.2.2.1 o679.2.2.2.2.2.2.2.2.1 o679.2.2.2.2.2.2.2.2.2.1 o679.2.2.2.2.2.2.2.2.2.2.1 o679.2.2.2.2.2.2.2.2.2.2.2.1 o679.2.2.2.2.2.2.2.2.2.2.2.2.1 o679.2.2.2.2.2.2.2.2.2.2.2.2.2.1 o679.2.2.2.2.2.2.2.2.2.2.2.2.2.2.1 o679.2.2.2.2.2.2.2.2.2.2.2.2.2.2.2.1 o679.2.2.2.2.2.2.2.2.2.2.2.2.2.2.2.2.1 o679.2.2.2.2.2.2.2.2.2.2.2.2.2.2.2.2.2.1 o679.2.2.2.2.2.2.2.2.2.2.2.2.2.2.2.2.2.2.1 false o679.2.2.2.2.2.2.2.2.2.2.2.2.2.2.2.2.2.2.2.2.2.2.2.2.1 o679.2.2.2.2.2.2.2.2.2.2.2.2.2.2.2.2.2.2.2.2.2.2.2.2.2.1 o679.2.2.2.2.2.2.2.2.2.2.2.2.2.2.2.2.2.2.2.2.2.2.2.2.2.2.1 o679.2.2.2.2.2.2.2.2.2.2.2.2.2.2.2.2.2.2.2.2.2.2.2.2.2.2.2.1 o679.2.2.2.2.2.2.2.2.2.2.2.2.2.2.2.2.2.2.2.2.2.2.2.2.2.2.2.2.1 o679.2.2.2.2.2.2.2.2.2.2.2.2.2.2.2.2.2.2.2.2.2.2.2.2.2.2.2.2.2.1 o679.2.2.2.2.2.2.2.2.2.2.2.2.2.2.2.2.2.2.2.2.2.2.2.2.2.2.2.2.2.2.1 o679.2.2.2.2.2.2.2.2.2.2.2.2.2.2.2.2.2.2.2.2.2.2.2.2.2.2.2.2.2.2.2.1 o679.2.2.2.2.2.2.2.2.2.2.2.2.2.2.2.2.2.2.2.2.2.2.2.2.2.2.2.2.2.2.2.2.1 o679.2.2.2.2.2.2.2.2.2.2.2.2.2.2.2.2.2.2.2.2.2.2.2.2.2.2.2.2.2.2.2.2.2.1 o679.2.2.2.2.2.2.2.2.2.2.2.2.2.2.2.2.2.2.2.2.2.2.2.2.2.2.2.2.2.2.2.2.2.2.1 o679.2.2.2.2.2.2.2.2.2.2.2.2.2.2.2.2.2.2.2.2.2.2.2.2.2.2.2.2.2.2.2.2.2.2.2.1 o679.2.2.2.2.2.2.2.2.2.2.2.2.2.2.2.2.2.2.2.2.2.2.2.2.2.2.2.2.2.2.2.2.2.2.2.2.1 o679.2.2.2.2.2.2.2.2.2.2.2.2.2.2.2.2.2.2.2.2.2.2.2.2.2.2.2.2.2.2.2.2.2.2.2.2.2).bind fun o690 => (cond o690.1 (K false) ((uP n a5 o690.2.1 o690.2.2.1 o690.2.2.2.1 o690.2.2.2.2.1 o690.2.2.2.2.2.2.2.2.2.2.2.2.2.2.2.2.2.2.2.2.2.2.2.2.2.1 o690.2.2.2.2.2.2.2.2.2.2.2.2.2.2.2.2.2.2.2.2.2.2.2.2.2.2.1 o690.2.2.2.2.2.2.2.2.2.2.2.2.2.2.2.2.2.2.2.2.2.2.2.2.2.2.2.1 o690.2.2.2.2.2.2.2.2.2.2.2.2.2.2.2.2.2.2.2.2.2.2.2.2.2.2.2.2.1 o690.2.2.2.2.2.2.2.2.2.2.2.2.2.2.2.2.2.2.2.2.2.2.2.2.2.2.2.2.2.1 o690.2.2.2.2.2.2.2.2.2.2.2.2.2.2.2.2.2.2.2.2.2.2.2.2.2.2.2.2.2.2.1 o690.2.2.2.2.2.2.2.2.2.2.2.2.2.2.2.2.2.2.2.2.2.2.2.2.2.2.2.2.2.2.2.1 o690.2.2.2.2.2.2.2.2.2.2.2.2.2.2.2.2.2.2.2.2.2.2.2.2.2.2.2.2.2.2.2.2.1 o690.2.2.2.2.2.2.2.2.2.2.2.2.2.2.2.2.2.2.2.2.2.2.2.2.2.2.2.2.2.2.2.2.2.1 o690.2.2.2.2.2.2.2.2.2.2.2.2.2.2.2.2.2.2.2.2.2.2.2.2.2.2.2.2.2.2.2.2.2.2.1 o690.2.2.2.2.2.2.2.2.2.2.2.2.2.2.2.2.2.2.2.2.2.2.2.2.2.2.2.2.2.2.2.2.2.2.2.1 o690.2.2.2.2.2.2.2.2.2.2.2.2.2.2.2.2.2.2.2.2.2.2.2.2.2.2.2.2.2.2.2.2.2.2.2.2.1 o690.2.2.2.2.2.2.2.2.2.2.2.2.2.2.2.2.2.2.2.2.2.2.2.2.2.2.2.2.2.2.2.2.2.2.2.2.2.1 o690.2.2.2.2.2.2.2.2.2.2.2.2.2.2.2.2.2.2.2.2.2.2.2.2.2.2.2.2.2.2.2.2.2.2.2.2.2.2).bind fun o691 => ((bY n a5 (4611686018427387904 : Int)).bind fun o692 => (cond o692 ((bZ n o691.2.2.2.2.2.2.2.1).bind fun o693 => (K o693)) ((aP n o690.2.2.2.2.2.1 o690.2.2.2.2.2.2.1 o690.2.2.2.2.2.2.2.1 o690.2.2.2.2.2.2.2.2.1 o690.2.2.2.2.2.2.2.2.2.1 o690.2.2.2.2.2.2.2.2.2.2.1 o690.2.2.2.2.2.2.2.2.2.2.2.1 o690.2.2.2.2.2.2.2.2.2.2.2.2.1 o690.2.2.2.2.2.2.2.2.2.2.2.2.2.1 o690.2.2.2.2.2.2.2.2.2.2.2.2.2.2.1 o690.2.2.2.2.2.2.2.2.2.2.2.2.2.2.2.1 o690.2.2.2.2.2.2.2.2.2.2.2.2.2.2.2.2.1 o690.2.2.2.2.2.2.2.2.2.2.2.2.2.2.2.2.2.1 o690.2.2.2.2.2.2.2.2.2.2.2.2.2.2.2.2.2.2.1 o690.2.2.2.2.2.2.2.2.2.2.2.2.2.2.2.2.2.2.2.1 o690.2.2.2.2.2.2.2.2.2.2.2.2.2.2.2.2.2.2.2.2.1 o690.2.2.2.2.2.2.2.2.2.2.2.2.2.2.2.2.2.2.2.2.2.1 o690.2.2.2.2.2.2.2.2.2.2.2.2.2.2.2.2.2.2.2.2.2.2.1 o690.2.2.2.2.2.2.2.2.2.2.2.2.2.2.2.2.2.2.2.2.2.2.2.1 o690.2.2.2.2.2.2.2.2.2.2.2.2.2.2.2.2.2.2.2.2.2.2.2.2.1 a5).bind fun o694 => ((bA n o694).bind fun o695 => (cond ((o691.1 == o695.1) && ((o691.2.1 == o695.2.1) && ((o691.2.2.1 == o695.2.2.1) && ((o691.2.2.2.1 == o695.2.2.2.1) && ((o691.2.2.2.2.1 == o695.2.2.2.2.1) && ((o691.2.2.2.2.2.1 == o695.2.2.2.2.2.1) && ((o691.2.2.2.2.2.2.1 == o695.2.2.2.2.2.2.1) && true))))))) (cond (o691.2.2.2.2.2.2.2.1 == o695.2.2.2.2.2.2.2) ((aT n ).bind fun o696 => (K o696)) (K false)) (K false))))))))))) (fun o680 => cond (!o680.2.2.2.2.2.2.2.2.2.2.2.2.2.2.2.2.2.2.2.1) ((aT n ).bind fun o697 => (K o697)) ((gG n a5 (1000000 : Int)).bind fun o698 => ((fZ n a5 o698 o680.2.2.2.2.2.2.2.2.2.2.2.2.2.2.2.2.2.2.2.2.1 o680.2.2.2.2.2.2.2.2.2.2.2.2.2.2.2.2.2.2.2.2.2.1 o680.2.2.2.2.2.2.2.2.2.2.2.2.2.2.2.2.2.2.2.2.2.2.1 o680.2.2.2.2.2.2.2.2.2.2.2.2.2.2.2.2.2.2.2.2.2.2.2 o680.1 o680.2.1 o680.2.2.1 o680.2.2.2.1 o680.2.2.2.2.1 o680.2.2.2.2.2.1 o680.2.2.2.2.2.2.1 o680.2.2.2.2.2.2.2.1 o680.2.2.2.2.2.2.2.2.1 o680.2.2.2.2.2.2.2.2.2.1 o680.2.2.2.2.2.2.2.2.2.2.1 o680.2.2.2.2.2.2.2.2.2.2.2.1 o680.2.2.2.2.2.2.2.2.2.2.2.2.1 o680.2.2.2.2.2.2.2.2.2.2.2.2.2.1 o680.2.2.2.2.2.2.2.2.2.2.2.2.2.2.1 o680.2.2.2.2.2.2.2.2.2.2.2.2.2.2.2.1 o680.2.2.2.2.2.2.2.2.2.2.2.2.2.2.2.2.1 o680.2.2.2.2.2.2.2.2.2.2.2.2.2.2.2.2.2.1 o680.2.2.2.2.2.2.2.2.2.2.2.2.2.2.2.2.2.2.1 false).bind fun o706 => (cond o706.1 (K false) ((uQ n a5 o706.2.1 o706.2.2.1 o706.2.2.2.1 o706.2.2.2.2.1).bind fun o710 => ((bY n a5 (4611686018427387904 : Int)).bind fun o711 => (cond o711 ((bZ n o710.2.2.2.2.2.2.2.1).bind fun o712 => (K o712)) ((aP n o706.2.2.2.2.2.1 o706.2.2.2.2.2.2.1 o706.2.2.2.2.2.2.2.1 o706.2.2.2.2.2.2.2.2.1 o706.2.2.2.2.2.2.2.2.2.1 o706.2.2.2.2.2.2.2.2.2.2.1 o706.2.2.2.2.2.2.2.2.2.2.2.1 o706.2.2.2.2.2.2.2.2.2.2.2.2.1 o706.2.2.2.2.2.2.2.2.2.2.2.2.2.1 o706.2.2.2.2.2.2.2.2.2.2.2.2.2.2.1 o706.2.2.2.2.2.2.2.2.2.2.2.2.2.2.2.1 o706.2.2.2.2.2.2.2.2.2.2.2.2.2.2.2.2.1 o706.2.2.2.2.2.2.2.2.2.2.2.2.2.2.2.2.2.1 o706.2.2.2.2.2.2.2.2.2.2.2.2.2.2.2.2.2.2.1 o706.2.2.2.2.2.2.2.2.2.2.2.2.2.2.2.2.2.2.2.1 o706.2.2.2.2.2.2.2.2.2.2.2.2.2.2.2.2.2.2.2.2.1 o706.2.2.2.2.2.2.2.2.2.2.2.2.2.2.2.2.2.2.2.2.2.1 o706.2.2.2.2.2.2.2.2.2.2.2.2.2.2.2.2.2.2.2.2.2.2.1 o706.2.2.2.2.2.2.2.2.2.2.2.2.2.2.2.2.2.2.2.2.2.2.2.1 o706.2.2.2.2.2.2.2.2.2.2.2.2.2.2.2.2.2.2.2.2.2.2.2.2 a5).bind fun o713 => ((bA n o713).bind fun o714 => (cond ((o710.1 == o714.1) && ((o710.2.1 == o714.2.1) && ((o710.2.2.1 == o714.2.2.1) && ((o710.2.2.2.1 == o714.2.2.2.1) && ((o710.2.2.2.2.1 == o714.2.2.2.2.1) && ((o710.2.2.2.2.2.1 == o714.2.2.2.2.2.1) && ((o710.2.2.2.2.2.2.1 == o714.2.2.2.2.2.2.1) && true))))))) (cond (o710.2.2.2.2.2.2.2.1 == o714.2.2.2.2.2.2.2) ((aT n ).bind fun o715 => (K o715)) (K false)) (K false))))))))))) o661) o659)
def iX n a0 a1 a2 a3 a4 a5 := iW n a0 a1 a2 a3 a4 a5 _ some
def yt : FS := ⟨[.a [.L false 3, .l .i64, .l .i64, .s], .b, .n], [], [([.b], [])]⟩
def Fz (n : Nat) : FSpec := yt.sp (iX n)
theorem Di (n : Nat) : FSound Tryz.prog 3 (Fz n) := fs2 (S := yt) (b := iW n) Tryz.func3 rfl rfl [.tmp 6] (.s .a (.s (.r [(2, .cl 9 (Cg n)), (6, .tk [16])]) (.s (.s .a (.s (.s (.r [(0, .cl 10 (pR n))]) .a) .a)) (.s (.r [(1, .cl 11 (vv n))]) (.s (.s (.p (O5 ([2, 7, 8, 10], some 0) (aaf none 1 (oW.x (iy n)) (aaf none 3 (mW.x (fV n)) (mX.x (fZ n)))))) .a) (.s (.r [(2, .cl 17 (AA n)), (5, .tk [52])]) (.s .a (.s (.s (.p (oZ.x (bY n))) (.s (.s (.p (o9.x (bZ n))) .a) .a)) (.s (.r [(2, .cl 19 (wS n)), (3, .cl 18 (qR n)), (6, .tk [72])]) (.s (.r [(9, .cl 10 (pR n))]) .a)))))))))) (nt6 (iW n) (by intros; unfold iW; simp only [ay])) (ai (G7 n) (ai (qW n) (ai (ym n) (ai (aaO [2, 7, 8, 10] (V8 (i := none) (n := 1) (Cn n) (V8 (i := none) (n := 3) (AZ n) (Ba n)))) (ai (GQ n) (ai (Co n) (ai (Cq n) (ai (Cm n) (ai (rO n) (ai (qW n) trivial))))))))))
end Go.Proofs.YtiegmpnagcdgoaaGreatDoor.H
namespace Go.Proofs.YtiegmpnagcdgoaaGreatDoor.H
open Go.Sh Go.RowKit
set_option linter.unusedSimpArgs false
set_option linter.unusedVariables false
theorem Om (n : Nat) (hn : 2000 ≤ n) (all : List Int) (hall : all.length ≤ 500) :
 ((aO n n all 0 0 (0 : Int) ([] : List Int)).bind fun o => cond (decide (o.2.1 = o.2.2.length)) (some (o.2.2.take o.1)) none) = some (yo [] all) := by
 have e := UX n hn all hall all 0 n [] (by simp) (by omega) (by simp; omega)
 simp only [Int.natCast_zero, List.length_nil] at e
 rw [e]
 simp
theorem VP (n : Nat) (hn : 4001 ≤ n) (ts : List Z.Ty) (ti ix : List Int) (foot : Str) (r : RuleV) (hR : Z.RightS ts ti ix foot = true) :
 aQ n (ts.map Z.cT) ti ix foot r.std r.dst r.off r.doff r.a.k r.a.m r.a.w r.a.d r.a.t r.b.k r.b.m r.b.w r.b.d r.b.t true false = some (yo [] (uC ts (some r))) := by
 obtain ⟨_, h2, _, _, _, _, _, _⟩ := Z.right_parts hR
 unfold aQ bJ
 have e := QH n ts h2 ti ix foot r.std r.dst r.off r.doff r.a.k r.a.m r.a.w r.a.d r.a.t r.b.k r.b.m r.b.w r.b.d r.b.t true false ts 0 n [] (by simp) (by omega) (by simp; omega)
 simp only [Int.natCast_zero] at e
 rw [cond_false, e]
 simp only [Option.bind_some, List.nil_append]
 rw [fu, bO, cond_true, aa (by simp only [List.length_map, List.length_cons, List.length_nil]; omega)]
 by_cases hd : r.dst = []
 ·rw [show (r.dst == ([] : Str)) = true by simpa using hd, Bool.not_true, cond_false]
  simp only [Option.bind_some]
  rw [show ts.map (·.1) ++ [r.off] = uC ts (some r) by simp [uC, hd]]
  exact Om n (by omega) _ (by simp [uC, hd]; omega)
 ·rw [show (r.dst == ([] : Str)) = false by simpa using hd, Bool.not_false, cond_true, aa (by simp only [List.length_append, List.length_map, List.length_cons, List.length_nil]; omega)]
  simp only [Option.bind_some]
  rw [show ts.map (·.1) ++ [r.off] ++ [r.doff] = uC ts (some r) by simp [uC, hd]]
  exact Om n (by omega) _ (by simp [uC, hd]; omega)
theorem VQ (n : Nat) (hn : 4001 ≤ n) (ts : List Z.Ty) (ti ix : List Int) (foot : Str) (a4 a5 : Str) (a6 a7 a8 a9 a10 a11 a12 a13 a14 a15 a16 a17 : Int) (hR : Z.RightS ts ti ix foot = true) :
 aQ n (ts.map Z.cT) ti ix foot a4 a5 a6 a7 a8 a9 a10 a11 a12 a13 a14 a15 a16 a17 false false = some (yo [] (uC ts none)) := by
 obtain ⟨_, h2, _, _, _, _, _, _⟩ := Z.right_parts hR
 unfold aQ bJ
 have e := QH n ts h2 ti ix foot a4 a5 a6 a7 a8 a9 a10 a11 a12 a13 a14 a15 a16 a17 false false ts 0 n [] (by simp) (by omega) (by simp; omega)
 simp only [Int.natCast_zero] at e
 rw [cond_false, e]
 simp only [Option.bind_some, List.nil_append]
 rw [fu, bO, cond_false]
 simp only [Option.bind_some]
 rw [show ts.map (·.1) = uC ts none by simp [uC]]
 exact Om n (by omega) _ (by simp [uC]; omega)
theorem WU (n : Nat) (l : List Int) (hl : l.length ≤ 2000) : ∀ (q : List Int) (i m : Nat), l.drop i = q → q.length < m → cO n m l l (i : Int) = some (Sum.inr ())
 | [], i, m + 1, h, _ => by
  have hi := drop_nil h
  simp only [cO, fD]
  rw [ah (by omega)]
 | v :: q, i, m + 1, h, hm => by
  obtain ⟨k1, k2, k3⟩ := jJ h
  simp only [List.length_cons] at hm
  simp only [cO, fD]
  rw [aa (by omega), aa (by omega), Int.toNat_natCast, k1]
  simp only [Option.bind_some]
  rw [aa (by omega)]
  simp only [bne_self_eq_false, cond_false]
  rw [vJ _ (by omega)]
  exact WU n l hl q (i + 1) m k2 (by omega)
theorem QJ (n : Nat) (hn : 2001 ≤ n) (l : List Int) (hl : l.length ≤ 2000) : iD n l l = some true := by
 unfold iD kV
 have e := WU n l hl l 0 n (by simp) (by omega)
 simp only [Int.natCast_zero] at e
 rw [bne_self_eq_false, cond_false, e]
 rfl
theorem Ld : ∀ (all l : List Int), (yo l all).length ≤ l.length + all.length
 | [], l => by simp [yo]
 | a :: all, l => by
  have h1 := Ld all (Fx l a)
  have h2 := WT l a
  unfold yo at h1 ⊢
  rw [List.foldl_cons, List.length_cons]
  omega
end Go.Proofs.YtiegmpnagcdgoaaGreatDoor.H
namespace Go.Proofs.YtiegmpnagcdgoaaGreatDoor.H
open Go.Sh Go.RowKit
set_option linter.unusedSimpArgs false
set_option linter.unusedVariables false
theorem aa7 (n : Nat) (hn : 20000 < n) (ts : List Z.Ty) (ti ix : List Int) (foot : Str) (r : RuleV) (hR : Z.RightS ts ti ix foot = true) (hr : fE r = true) (sec : Int) {o : Int}
 (h : aj n (ts.map Z.cT) ti ix foot r.std r.dst r.off r.doff r.a.k r.a.m r.a.w r.a.d r.a.t r.b.k r.b.m r.b.w r.b.d r.b.t true false sec = some o) : -93599 ≤ o ∧ o ≤ 93599 := by
 obtain ⟨_, _, hb, _, _, h6, _, _⟩ := Z.right_parts hR
 obtain ⟨g1, g2, g3, g4⟩ := Df hr
 unfold aj aI at h
 rw [cond_false, Ol n _ _ ti _ _ _ _ _ _ _ _ _ _ _ _ _ _ _ _ _ hb] at h
 simp only [Option.bind_some] at h
 revert h
 generalize (if (-10000000000 : Int) < (if sec < (100000000000 : Int) then sec else (100000000000 : Int)) then (if sec < (100000000000 : Int) then sec else (100000000000 : Int)) else (-10000000000 : Int)) = t
 intro h
 cases hov : QF ti t with
 | true =>
  rw [hov, cond_true] at h
  by_cases hd : r.dst = []
  ·rw [R4 n r t hr hd (by have := (Ec hr).1; omega) (by have := (Ec hr).1; omega)] at h
   simp only [Option.bind_some, Option.some.injEq] at h
   omega
  ·obtain ⟨y, _, _, _, hv⟩ := rat_val n r t hn hr hd
   rw [hv] at h
   simp only [Option.bind_some, Option.some.injEq] at h
   rcases g4 with ⟨g4, _⟩ | ⟨_, _, g5, g6, _⟩
   ·exact absurd g4 hd
   ·unfold MB at h
    split at h <;> simp only at h <;> omega
 | false =>
  rw [hov, cond_false, Z.rat_val n (by omega) ts ti ix foot _ (JA hR (by omega)) (by have := JB hR; omega)] at h
  obtain ⟨k1, k2⟩ := Tm hR t
  simp only [Option.bind_some] at h
  rw [aa k1, I4 k1 k2] at h
  injection h with h
  have h3 : (Z.AtS ts ti ix foot t).toNat < ts.length := by omega
  rw [List.getD_eq_getElem?_getD, List.getElem?_eq_getElem h3] at h
  have h4 := List.all_eq_true.1 h6 _ (List.getElem_mem h3)
  unfold Z.okT at h4
  simp only [Bool.and_eq_true, Bool.not_eq_true', decide_eq_false_iff_not] at h4
  simp only [Option.getD_some] at h
  omega
theorem aa8 (n : Nat) (hn : 20000 < n) (ts : List Z.Ty) (ti ix : List Int) (foot : Str) (a4 a5 : Str) (a6 a7 a8 a9 a10 a11 a12 a13 a14 a15 a16 a17 : Int) (hR : Z.RightS ts ti ix foot = true) (sec : Int) {o : Int}
 (h : aj n (ts.map Z.cT) ti ix foot a4 a5 a6 a7 a8 a9 a10 a11 a12 a13 a14 a15 a16 a17 false false sec = some o) : -93599 ≤ o ∧ o ≤ 93599 := by
 obtain ⟨_, _, hb, _, _, h6, _, _⟩ := Z.right_parts hR
 unfold aj aI bI bu at h
 simp only [Option.bind_some, cond_false] at h
 revert h
 generalize (if (-10000000000 : Int) < (if sec < (100000000000 : Int) then sec else (100000000000 : Int)) then (if sec < (100000000000 : Int) then sec else (100000000000 : Int)) else (-10000000000 : Int)) = t
 intro h
 rw [Z.rat_val n (by omega) ts ti ix foot _ (JA hR (by omega)) (by have := JB hR; omega)] at h
 obtain ⟨k1, k2⟩ := Tm hR t
 simp only [Option.bind_some] at h
 rw [aa k1, I4 k1 k2] at h
 injection h with h
 have h3 : (Z.AtS ts ti ix foot t).toNat < ts.length := by omega
 rw [List.getD_eq_getElem?_getD, List.getElem?_eq_getElem h3] at h
 have h4 := List.all_eq_true.1 h6 _ (List.getElem_mem h3)
 unfold Z.okT at h4
 simp only [Bool.and_eq_true, Bool.not_eq_true', decide_eq_false_iff_not] at h4
 simp only [Option.getD_some] at h
 omega
end Go.Proofs.YtiegmpnagcdgoaaGreatDoor.H
namespace Go.Proofs.YtiegmpnagcdgoaaGreatDoor.H
open Go.Sh Go.RowKit
set_option linter.unusedSimpArgs false
set_option linter.unusedVariables false
theorem Z6 (ts : List Z.Ty) (r : RuleV) (h : ts.length ≤ 255) : (yo [] (uC ts (some r))).length ≤ 2000 := by
 have h1 := Ld (uC ts (some r)) []
 have h2 : (uC ts (some r)).length ≤ ts.length + 2 := by
  unfold uC
  simp only
  split <;> simp
 simp only [List.length_nil] at h1
 omega
theorem Z7 (ts : List Z.Ty) (h : ts.length ≤ 255) : (yo [] (uC ts none)).length ≤ 2000 := by
 have h1 := Ld (uC ts none) []
 have h2 : (uC ts none).length = ts.length := by simp [uC]
 simp only [List.length_nil] at h1
 omega
theorem Z8 (n : Nat) (hn : 20000 < n) (ts : List Z.Ty) (ti ix : List Int) (foot : Str) (r : RuleV) (hR : Z.RightS ts ti ix foot = true) (hr : fE r = true) (a b : Int) :
 fV n a b (ts.map Z.cT) ti ix foot (ts.map Z.cT) ti ix foot r.std r.dst r.off r.doff r.a.k r.a.m r.a.w r.a.d r.a.t r.b.k r.b.m r.b.w r.b.d r.b.t true false r.std r.dst r.off r.doff r.a.k r.a.m r.a.w r.a.d r.a.t r.b.k r.b.m r.b.w r.b.d r.b.t =
  some (false, ts.map Z.cT, ti, ix, foot, ts.map Z.cT, ti, ix, foot, r.std, r.dst, r.off, r.doff, r.a.k, r.a.m, r.a.w, r.a.d, r.a.t, r.b.k, r.b.m, r.b.w, r.b.d, r.b.t, true, false, r.std, r.dst, r.off, r.doff, r.a.k, r.a.m, r.a.w, r.a.d, r.a.t, r.b.k, r.b.m, r.b.w, r.b.d, r.b.t) := by
 obtain ⟨l1, l2⟩ := Ec hr
 obtain ⟨_, h2, _, _, _, _, _, _⟩ := Z.right_parts hR
 obtain ⟨o, e1, e2⟩ := Fy n hn ts ti ix foot r hR l1 l2 a
 obtain ⟨o', e3, e4⟩ := Fy n hn ts ti ix foot r hR l1 l2 b
 unfold fV eG
 rw [e1]
 simp only [Option.bind_some]
 rw [e2]
 simp only [Option.bind_some, bne_self_eq_false, cond_false]
 rw [e3]
 simp only [Option.bind_some]
 rw [e4]
 simp only [Option.bind_some, bne_self_eq_false, cond_false]
 rw [QG n (by omega) ts ti ix foot r hR hr]
 simp only [Option.bind_some]
 rw [VP n (by omega) ts ti ix foot r hR]
 simp only [Option.bind_some]
 rw [QJ n (by omega) _ (Z6 ts r h2)]
 rfl
theorem Z9 (n : Nat) (hn : 20000 < n) (ts : List Z.Ty) (ti ix : List Int) (foot : Str) (a4 a5 : Str) (a6 a7 a8 a9 a10 a11 a12 a13 a14 a15 a16 a17 : Int) (hR : Z.RightS ts ti ix foot = true) (a b : Int) :
 fZ n a b (ts.map Z.cT) ti ix foot (ts.map Z.cT) ti ix foot a4 a5 a6 a7 a8 a9 a10 a11 a12 a13 a14 a15 a16 a17 false false =
  some (false, ts.map Z.cT, ti, ix, foot, ts.map Z.cT, ti, ix, foot, a4, a5, a6, a7, a8, a9, a10, a11, a12, a13, a14, a15, a16, a17, false, false) := by
 obtain ⟨_, h2, _, _, _, _, _, _⟩ := Z.right_parts hR
 obtain ⟨o, e1, e2⟩ := JC n hn ts ti ix foot a4 a5 a6 a7 a8 a9 a10 a11 a12 a13 a14 a15 a16 a17 hR a
 obtain ⟨o', e3, e4⟩ := JC n hn ts ti ix foot a4 a5 a6 a7 a8 a9 a10 a11 a12 a13 a14 a15 a16 a17 hR b
 unfold fZ eH
 rw [e1]
 simp only [Option.bind_some]
 rw [e2]
 simp only [Option.bind_some, bne_self_eq_false, cond_false]
 rw [e3]
 simp only [Option.bind_some]
 rw [e4]
 simp only [Option.bind_some, bne_self_eq_false, cond_false]
 rw [VO n (by omega) ts ti ix foot hR]
 simp only [Option.bind_some]
 rw [VQ n (by omega) ts ti ix foot _ _ _ _ _ _ _ _ _ _ _ _ _ _ hR]
 simp only [Option.bind_some]
 rw [QJ n (by omega) _ (Z7 ts h2)]
 rfl
theorem abV (n : Nat) (hn : 20000 < n) (a b : Int) (h0 : List (List AV)) (h1 h2 : List Int) (h3 h4 h5 : Str) (h6 h7 h8 h9 h10 h11 h12 h13 h14 h15 h16 h17 : Int) (h18 : Bool) :
 iy n a b h0 h1 h2 h3 h4 h5 h6 h7 h8 h9 h10 h11 h12 h13 h14 h15 h16 h17 h18 true = some (false, h0, h1, h2, h3, h4, h5, h6, h7, h8, h9, h10, h11, h12, h13, h14, h15, h16, h17, h18, true) := by
 unfold iy fQ kw nW aj aI uN qd aQ bJ
 simp only [Option.bind_some, cond_true, bne_self_eq_false, cond_false]
 rw [QJ n (by omega) _ (by simp)]
 rfl
end Go.Proofs.YtiegmpnagcdgoaaGreatDoor.H
namespace Go.Proofs.YtiegmpnagcdgoaaGreatDoor.H
open Go.Sh Go.RowKit
set_option linter.unusedSimpArgs false
set_option linter.unusedVariables false
theorem Ya {x : Int} (h : 9223372036854775808 ≤ x ∧ x < 18446744073709551616) : IntKind.i64.wrap x = x - 18446744073709551616 := by
 simp [IntKind.wrap, IntKind.bits, IntKind.signed]; omega
theorem VS {x : Int} (h : -18446744073709551616 ≤ x ∧ x < -9223372036854775808) : IntKind.i64.wrap x = x + 18446744073709551616 := by
 simp [IntKind.wrap, IntKind.bits, IntKind.signed]; omega
def QK (n : Nat) (u d : Int) : Option (Int × Int × Int × Int × Int × Int × Int × Int) :=
 cond ((decide ((IntKind.i64.wrap (u + (IntKind.i64.wrap (d * (1000000 : Int))))) < u)) == (decide ((IntKind.i64.wrap (d * (1000000 : Int))) < (0 : Int)))) (bA n (IntKind.i64.wrap (u + (IntKind.i64.wrap (d * (1000000 : Int)))))) (some ((0 : Int), (0 : Int), (0 : Int), (0 : Int), (0 : Int), (0 : Int), (0 : Int), (6 : Int)))
theorem MF (n : Nat) (u d : Int) (hu : -9223372036854775808 ≤ u ∧ u ≤ 9223372036854775807) (hd : -93599 ≤ d ∧ d ≤ 93599) :
 ∃ o, QK n u d = some o ∧ ((u < -4611686018427387904 ∨ 4611686018427387904 < u) → o.2.2.2.2.2.2.2 = 6) ∧ (-4611686018427387904 ≤ u ∧ u ≤ 4611686018427387904 → bA n (IntKind.i64.wrap (u + (IntKind.i64.wrap (d * (1000000 : Int))))) = some o) := by
 unfold QK
 rw [wi (d * 1000000) (by omega) (by omega)]
 by_cases h1 : u + d * 1000000 > 9223372036854775807
 ·rw [Ya ⟨by omega, by omega⟩, decide_eq_true (show u + d * 1000000 - 18446744073709551616 < u by omega), decide_eq_false (show ¬ d * 1000000 < 0 by omega)]
  exact ⟨_, rfl, fun _ => rfl, fun h => by omega⟩
 ·by_cases h2 : u + d * 1000000 < -9223372036854775808
  ·rw [VS ⟨by omega, by omega⟩, decide_eq_false (show ¬ u + d * 1000000 + 18446744073709551616 < u by omega), decide_eq_true (show d * 1000000 < 0 by omega)]
   exact ⟨_, rfl, fun _ => rfl, fun h => by omega⟩
  ·rw [wi (u + d * 1000000) (by omega) (by omega)]
   have hc : (decide (u + d * 1000000 < u) == decide (d * 1000000 < 0)) = true := by
    rw [show decide (u + d * 1000000 < u) = decide (d * 1000000 < 0) from decide_eq_decide.2 (by omega)]
    simp
   rw [hc, cond_true]
   obtain ⟨o, e1, e2⟩ := UR n (u + d * 1000000) (by omega)
   exact ⟨o, e1, fun h => e2 (by omega), fun _ => e1⟩
theorem VU (n : Nat) (u : Int) : bY n u 4611686018427387904 = some (decide (u < -4611686018427387904 ∨ 4611686018427387904 < u)) := by
 unfold bY fT
 by_cases h : u > 4611686018427387904
 ·rw [aa h, decide_eq_true (.inr h)]
 ·rw [ah h, wi _ (by omega) (by omega)]
  congr 1
  rw [decide_eq_decide]
  omega
end Go.Proofs.YtiegmpnagcdgoaaGreatDoor.H
namespace Go.Proofs.YtiegmpnagcdgoaaGreatDoor.H
open Go.Sh Go.RowKit
set_option linter.unusedSimpArgs false
set_option linter.unusedVariables false
theorem VV (n : Nat) (hn : 20000 < n) (ts : List Z.Ty) (ti ix : List Int) (foot : Str) (r : RuleV) (hR : Z.RightS ts ti ix foot = true) (hr : fE r = true) (u : Int) (hu : -9223372036854775808 ≤ u ∧ u ≤ 9223372036854775807) :
 ∃ o : Int × Int × Int × Int × Int × Int × Int × Int, uP n u (ts.map Z.cT) ti ix foot r.std r.dst r.off r.doff r.a.k r.a.m r.a.w r.a.d r.a.t r.b.k r.b.m r.b.w r.b.d r.b.t = some (o.1, o.2.1, o.2.2.1, o.2.2.2.1, o.2.2.2.2.1, o.2.2.2.2.2.1, o.2.2.2.2.2.2.1, o.2.2.2.2.2.2.2, ts.map Z.cT, ti, ix, foot, r.std, r.dst, r.off, r.doff, r.a.k, r.a.m, r.a.w, r.a.d, r.a.t, r.b.k, r.b.m, r.b.w, r.b.d, r.b.t) ∧
  ((u < -4611686018427387904 ∨ 4611686018427387904 < u) → o.2.2.2.2.2.2.2 = 6) ∧
  (-4611686018427387904 ≤ u ∧ u ≤ 4611686018427387904 → ∃ x, aP n (ts.map Z.cT) ti ix foot r.std r.dst r.off r.doff r.a.k r.a.m r.a.w r.a.d r.a.t r.b.k r.b.m r.b.w r.b.d r.b.t true false u = some x ∧ bA n x = some o) := by
 obtain ⟨l1, l2⟩ := Ec hr
 obtain ⟨d, e1, e2⟩ := Fy n hn ts ti ix foot r hR l1 l2 (u / 1000000)
 have hd := aa7 n hn ts ti ix foot r hR hr (u / 1000000) e2
 obtain ⟨o, h1, h2, h3⟩ := MF n u d hu hd
 refine ⟨o, ?_, h2, fun h => ⟨_, ?_, h3 h⟩⟩
 ·unfold uP qg
  rw [Jz n u hu]
  simp only [Option.bind_some]
  rw [e1]
  simp only [Option.bind_some]
  unfold QK at h1
  cases hc : ((decide ((IntKind.i64.wrap (u + (IntKind.i64.wrap (d * (1000000 : Int))))) < u)) == (decide ((IntKind.i64.wrap (d * (1000000 : Int))) < (0 : Int)))) with
  | true =>
   rw [hc, cond_true] at h1
   rw [cond_true, h1]
   rfl
  | false =>
   rw [hc, cond_false] at h1
   injection h1 with h1
   rw [cond_false, ← h1]
 ·unfold aP bX
  rw [Dh n u hu]
  simp only [Option.bind_some]
  rw [e2]
  rfl
theorem VW (n : Nat) (hn : 20000 < n) (ts : List Z.Ty) (ti ix : List Int) (foot : Str) (a4 a5 : Str) (a6 a7 a8 a9 a10 a11 a12 a13 a14 a15 a16 a17 : Int) (hR : Z.RightS ts ti ix foot = true) (u : Int) (hu : -9223372036854775808 ≤ u ∧ u ≤ 9223372036854775807) :
 ∃ o : Int × Int × Int × Int × Int × Int × Int × Int, uQ n u (ts.map Z.cT) ti ix foot = some (o.1, o.2.1, o.2.2.1, o.2.2.2.1, o.2.2.2.2.1, o.2.2.2.2.2.1, o.2.2.2.2.2.2.1, o.2.2.2.2.2.2.2, ts.map Z.cT, ti, ix, foot) ∧
  ((u < -4611686018427387904 ∨ 4611686018427387904 < u) → o.2.2.2.2.2.2.2 = 6) ∧
  (-4611686018427387904 ≤ u ∧ u ≤ 4611686018427387904 → ∃ x, aP n (ts.map Z.cT) ti ix foot a4 a5 a6 a7 a8 a9 a10 a11 a12 a13 a14 a15 a16 a17 false false u = some x ∧ bA n x = some o) := by
 obtain ⟨d, e1, e2⟩ := JC n hn ts ti ix foot a4 a5 a6 a7 a8 a9 a10 a11 a12 a13 a14 a15 a16 a17 hR (u / 1000000)
 have hd := aa8 n hn ts ti ix foot _ _ _ _ _ _ _ _ _ _ _ _ _ _ hR (u / 1000000) e2
 obtain ⟨o, h1, h2, h3⟩ := MF n u d hu hd
 refine ⟨o, ?_, h2, fun h => ⟨_, ?_, h3 h⟩⟩
 ·unfold uQ qh
  rw [Jz n u hu]
  simp only [Option.bind_some]
  rw [e1]
  simp only [Option.bind_some]
  unfold QK at h1
  cases hc : ((decide ((IntKind.i64.wrap (u + (IntKind.i64.wrap (d * (1000000 : Int))))) < u)) == (decide ((IntKind.i64.wrap (d * (1000000 : Int))) < (0 : Int)))) with
  | true =>
   rw [hc, cond_true] at h1
   rw [cond_true, h1]
   rfl
  | false =>
   rw [hc, cond_false] at h1
   injection h1 with h1
   rw [cond_false, ← h1]
 ·unfold aP bX
  rw [Dh n u hu]
  simp only [Option.bind_some]
  rw [e2]
  rfl
theorem VX (n : Nat) (h0 : List (List AV)) (h1 h2 : List Int) (h3 h4 h5 : Str) (h6 h7 h8 h9 h10 h11 h12 h13 h14 h15 h16 h17 : Int) (h18 : Bool) (u : Int) (hu : -9223372036854775808 ≤ u ∧ u ≤ 9223372036854775807) :
 ∃ o : Int × Int × Int × Int × Int × Int × Int × Int, pO n u = some o ∧
  ((u < -4611686018427387904 ∨ 4611686018427387904 < u) → o.2.2.2.2.2.2.2 = 6) ∧
  (-4611686018427387904 ≤ u ∧ u ≤ 4611686018427387904 → ∃ x, aP n h0 h1 h2 h3 h4 h5 h6 h7 h8 h9 h10 h11 h12 h13 h14 h15 h16 h17 h18 true u = some x ∧ bA n x = some o) := by
 obtain ⟨o, k1, k2, k3⟩ := MF n u 0 hu (by omega)
 refine ⟨o, ?_, k2, fun h => ⟨_, ?_, k3 h⟩⟩
 ·unfold pO sZ kw nW
  rw [Jz n u hu]
  simp only [Option.bind_some]
  unfold QK at k1
  cases hc : ((decide ((IntKind.i64.wrap (u + (IntKind.i64.wrap ((0 : Int) * (1000000 : Int))))) < u)) == (decide ((IntKind.i64.wrap ((0 : Int) * (1000000 : Int))) < (0 : Int)))) with
  | true =>
   rw [hc, cond_true] at k1
   rw [cond_true, k1]
   rfl
  | false =>
   rw [hc, cond_false] at k1
   injection k1 with k1
   rw [cond_false, ← k1]
 ·unfold aP bX aj aI
  rw [Dh n u hu]
  rfl
end Go.Proofs.YtiegmpnagcdgoaaGreatDoor.H
namespace Go.Proofs.YtiegmpnagcdgoaaGreatDoor.H
open Go.Sh Go.RowKit
set_option linter.unusedSimpArgs false
set_option linter.unusedVariables false
theorem VY (n : Nat) (hw : aT n = some true) (e : Int) (he : e = 6) : bZ n e = some true := by
 subst he
 unfold bZ fU
 rw [show ((6 : Int) != 0) = true from rfl, cond_true, hw]
 rfl
theorem QL (n : Nat) (hn : 20000 < n) (hw : aT n = some true) (ts : List Z.Ty) (ti ix : List Int) (foot : Str) (utc : Bool) (u : Int) (hall : ∀ t ∈ ts, t.2.2.length ≤ 9223372036854775807 ∧ t.2.2.length < n) (hf : foot.length ≤ 9223372036854775807 ∧ foot.length < n) (hu : -9223372036854775808 ≤ u ∧ u ≤ 9223372036854775807) :
 iX n (ts.map Z.cT) ti ix foot utc u = some true := by
 unfold iX iW
 rcases VN n (by omega) ts ti ix foot utc hall hf with ⟨_, e⟩ | ⟨x, e, hx⟩ | ⟨hR, _, _, ⟨r, hr, e⟩ | e⟩
 ·rw [e]
  simp only [Option.bind_some, Sum.elim_inl, Bool.not_true, cond_false]
  rw [Dh n u hu]
  simp only [Option.bind_some]
  rw [abV n hn]
  simp only [Option.bind_some, cond_false]
  obtain ⟨o, k1, k2, k3⟩ := VX n [] [] [] [] [] [] 0 0 0 0 0 0 0 0 0 0 0 0 false u hu
  rw [k1]
  simp only [Option.bind_some]
  rw [VU]
  simp only [Option.bind_some]
  by_cases hb : u < -4611686018427387904 ∨ 4611686018427387904 < u
  ·rw [aa hb, VY n hw _ (k2 hb)]
   rfl
  ·obtain ⟨x, m1, m2⟩ := k3 (by omega)
   rw [ah hb, m1]
   simp only [Option.bind_some]
   rw [m2]
   simp only [Option.bind_some, beq_self_eq_true, Bool.and_self, cond_true]
   rw [hw]
   rfl
 ·rw [e]
  simp only [Option.bind_some, Sum.elim_inl]
  rw [hx, Bool.not_false, cond_true, hw]
  rfl
 ·rw [e]
  simp only [Option.bind_some, Sum.elim_inr, Sum.elim_inl, Bool.not_true, cond_false]
  rw [Dh n u hu]
  simp only [Option.bind_some]
  rw [Z8 n hn ts ti ix foot r hR hr]
  simp only [Option.bind_some, cond_false]
  obtain ⟨o, k1, k2, k3⟩ := VV n hn ts ti ix foot r hR hr u hu
  rw [k1]
  simp only [Option.bind_some]
  rw [VU]
  simp only [Option.bind_some]
  by_cases hb : u < -4611686018427387904 ∨ 4611686018427387904 < u
  ·rw [aa hb, VY n hw _ (k2 hb)]
   rfl
  ·obtain ⟨x, m1, m2⟩ := k3 (by omega)
   rw [ah hb, m1]
   simp only [Option.bind_some]
   rw [m2]
   simp only [Option.bind_some, beq_self_eq_true, Bool.and_self, cond_true]
   rw [hw]
   rfl
 ·rw [e]
  simp only [Option.bind_some, Sum.elim_inr, Sum.elim_inl, Bool.not_true, cond_false]
  rw [Dh n u hu]
  simp only [Option.bind_some]
  rw [Z9 n hn ts ti ix foot _ _ _ _ _ _ _ _ _ _ _ _ _ _ hR]
  simp only [Option.bind_some, cond_false]
  obtain ⟨o, k1, k2, k3⟩ := VW n hn ts ti ix foot [] [] 0 0 0 0 0 0 0 0 0 0 0 0 hR u hu
  rw [k1]
  simp only [Option.bind_some]
  rw [VU]
  simp only [Option.bind_some]
  by_cases hb : u < -4611686018427387904 ∨ 4611686018427387904 < u
  ·rw [aa hb, VY n hw _ (k2 hb)]
   rfl
  ·obtain ⟨x, m1, m2⟩ := k3 (by omega)
   rw [ah hb, m1]
   simp only [Option.bind_some]
   rw [m2]
   simp only [Option.bind_some, beq_self_eq_true, Bool.and_self, cond_true]
   rw [hw]
   rfl
end Go.Proofs.YtiegmpnagcdgoaaGreatDoor.H
namespace Go.Proofs.YtiegmpnagcdgoaaGreatDoor.H
open Go.Sh Go.RowKit
set_option linter.unusedSimpArgs false
set_option linter.unusedVariables false
def CK (f : Int → Int) (loc : Int) (acc : List Int) (v : Int) : List Int := if -10000000000000000 ≤ loc - v * 1000000 ∧ loc - v * 1000000 ≤ 100000000000000000 ∧ f ((loc - v * 1000000) / 1000000) = v then acc ++ [loc - v * 1000000] else acc
def Ef (n : Nat) (ts : List Z.Ty) (ti ix : List Int) (foot : Str) (r : RuleV) (sec : Int) : Int := (aj n (ts.map Z.cT) ti ix foot r.std r.dst r.off r.doff r.a.k r.a.m r.a.w r.a.d r.a.t r.b.k r.b.m r.b.w r.b.d r.b.t true false sec).getD 0
theorem Yb (n : Nat) (hn : 20000 < n) (ts : List Z.Ty) (ti ix : List Int) (foot : Str) (r : RuleV) (hR : Z.RightS ts ti ix foot = true) (hr : fE r = true) (sec : Int) :
 fK n sec (ts.map Z.cT) ti ix foot r.std r.dst r.off r.doff r.a.k r.a.m r.a.w r.a.d r.a.t r.b.k r.b.m r.b.w r.b.d r.b.t = some (Ef n ts ti ix foot r sec, ts.map Z.cT, ti, ix, foot, r.std, r.dst, r.off, r.doff, r.a.k, r.a.m, r.a.w, r.a.d, r.a.t, r.b.k, r.b.m, r.b.w, r.b.d, r.b.t) := by
 obtain ⟨l1, l2⟩ := Ec hr
 obtain ⟨d, e1, e2⟩ := Fy n hn ts ti ix foot r hR l1 l2 sec
 rw [e1, Ef, e2]
 rfl
theorem aaa (f : Int → Int) (loc : Int) (acc : List Int) (v : Int) : (CK f loc acc v).length ≤ acc.length + 1 := by
 unfold CK
 split <;> simp
theorem Yc (n : Nat) (hn : 20000 < n) (ts : List Z.Ty) (ti ix : List Int) (foot : Str) (r : RuleV) (hR : Z.RightS ts ti ix foot = true) (hr : fE r = true) (i v loc : Int) (acc : List Int) (hv : -93599 ≤ v ∧ v ≤ 93599) (hl : -1000000000000000000 ≤ loc ∧ loc ≤ 1000000000000000000) (ha : acc.length ≤ 5000) :
 mZ n i v loc acc (ts.map Z.cT) ti ix foot r.std r.dst r.off r.doff r.a.k r.a.m r.a.w r.a.d r.a.t r.b.k r.b.m r.b.w r.b.d r.b.t = some (loc, CK (Ef n ts ti ix foot r) loc acc v, ts.map Z.cT, ti, ix, foot, r.std, r.dst, r.off, r.doff, r.a.k, r.a.m, r.a.w, r.a.d, r.a.t, r.b.k, r.b.m, r.b.w, r.b.d, r.b.t) := by
 unfold mZ jB CK
 rw [wi (v * 1000000) (by omega) (by omega), wi (loc - v * 1000000) (by omega) (by omega)]
 by_cases c1 : loc - v * 1000000 ≥ -10000000000000000
 ·rw [aa c1]
  by_cases c2 : loc - v * 1000000 ≤ 100000000000000000
  ·rw [aa c2, Jz n _ (by omega)]
   simp only [Option.bind_some]
   rw [Yb n hn ts ti ix foot r hR hr]
   simp only [Option.bind_some]
   by_cases c3 : Ef n ts ti ix foot r ((loc - v * 1000000) / 1000000) = v
   ·rw [show (Ef n ts ti ix foot r ((loc - v * 1000000) / 1000000) == v) = true by simpa using c3, cond_true, aa (by simp only [List.length_cons, List.length_nil]; omega), if_pos ⟨c1, c2, c3⟩]
   ·rw [show (Ef n ts ti ix foot r ((loc - v * 1000000) / 1000000) == v) = false by simpa using c3, cond_false, if_neg (fun h => c3 h.2.2)]
  ·rw [ah c2, if_neg (fun h => c2 h.2.1)]
 ·rw [ah c1, if_neg (fun h => c1 h.1)]
theorem Sj (n : Nat) (hn : 20000 < n) (ts : List Z.Ty) (ti ix : List Int) (foot : Str) (r : RuleV) (hR : Z.RightS ts ti ix foot = true) (hr : fE r = true) (L : List Int) (loc : Int) (hv : ∀ v ∈ L, -93599 ≤ v ∧ v ≤ 93599) (hL : L.length ≤ 2000) (hl : -1000000000000000000 ≤ loc ∧ loc ≤ 1000000000000000000) : ∀ (k m : Nat) (acc : List Int), k ≤ L.length → k < m → acc.length + k ≤ 4000 →
 aV n m ((k : Int) - 1) L loc acc (ts.map Z.cT) ti ix foot r.std r.dst r.off r.doff r.a.k r.a.m r.a.w r.a.d r.a.t r.b.k r.b.m r.b.w r.b.d r.b.t = some (L, loc, (L.take k).reverse.foldl (CK (Ef n ts ti ix foot r) loc) acc, ts.map Z.cT, ti, ix, foot, r.std, r.dst, r.off, r.doff, r.a.k, r.a.m, r.a.w, r.a.d, r.a.t, r.b.k, r.b.m, r.b.w, r.b.d, r.b.t)
 | 0, m + 1, acc, _, _, _ => by
  simp only [aV, bM]
  rw [ah (by omega)]
  simp
 | k + 1, m + 1, acc, hk, hm, ha => by
  have hk2 : k < L.length := by omega
  simp only [aV, bM]
  rw [aa (by omega), aa (by omega), show (((k + 1 : Nat) : Int) - 1).toNat = k by omega, List.getElem?_eq_getElem hk2]
  simp only [Option.bind_some]
  rw [Yc n hn ts ti ix foot r hR hr _ _ loc acc (hv _ (List.getElem_mem hk2)) hl (by omega)]
  simp only [Option.bind_some]
  rw [wi _ (by omega) (by omega), show (((k + 1 : Nat) : Int) - 1 - 1) = (k : Int) - 1 by omega]
  have := aaa (Ef n ts ti ix foot r) loc acc L[k]
  rw [Sj n hn ts ti ix foot r hR hr L loc hv hL hl k m _ (by omega) (by omega) (by omega), List.take_succ_eq_append_getElem hk2, List.reverse_append]
  rfl
end Go.Proofs.YtiegmpnagcdgoaaGreatDoor.H
namespace Go.Proofs.YtiegmpnagcdgoaaGreatDoor.H
open Go.Sh Go.RowKit
set_option linter.unusedSimpArgs false
set_option linter.unusedVariables false
theorem aa9 {ts : List Z.Ty} {ti ix : List Int} {foot : Str} {r : RuleV} (hR : Z.RightS ts ti ix foot = true) (hr : fE r = true) : ∀ v ∈ yo [] (uC ts (some r)), -93599 ≤ v ∧ v ≤ 93599 := by
 obtain ⟨_, _, _, _, _, h6, _, _⟩ := Z.right_parts hR
 obtain ⟨_, g2, g3, g4⟩ := Df hr
 intro v hv
 rw [Oj] at hv
 rcases hv with hv | hv
 ·simp at hv
 ·unfold uC at hv
  rcases List.mem_append.1 hv with hv | hv
  ·obtain ⟨t, ht, rfl⟩ := List.mem_map.1 hv
   have h4 := List.all_eq_true.1 h6 t ht
   unfold Z.okT at h4
   simp only [Bool.and_eq_true, Bool.not_eq_true', decide_eq_false_iff_not] at h4
   omega
  ·simp only at hv
   rcases List.mem_cons.1 hv with rfl | hv
   ·omega
   ·split at hv
    ·simp at hv
    ·rename_i hd
     rw [List.mem_singleton.1 hv]
     rcases g4 with ⟨g4, _⟩ | ⟨_, _, g5, g6, _⟩
     ·exact absurd g4 hd
     ·omega
theorem aab (ts : List Z.Ty) (r : RuleV) (h : ts.length ≤ 255) : (yo [] (uC ts (some r))).length ≤ 2000 := by
 have h1 := Ld (uC ts (some r)) []
 have h2 : (uC ts (some r)).length ≤ ts.length + 2 := by
  unfold uC
  simp only
  split <;> simp
 simp only [List.length_nil] at h1
 omega
theorem Sk (n : Nat) (hn : 20000 < n) (ts : List Z.Ty) (ti ix : List Int) (foot : Str) (r : RuleV) (hR : Z.RightS ts ti ix foot = true) (hr : fE r = true) (a0 a1 a2 a3 a4 a5 a6 loc : Int) (hm : ut n a0 a1 a2 a3 a4 a5 a6 = some (loc, 0)) (hl : -1000000000000000000 ≤ loc ∧ loc ≤ 1000000000000000000) :
 lY n a0 a1 a2 a3 a4 a5 a6 (ts.map Z.cT) ti ix foot r.std r.dst r.off r.doff r.a.k r.a.m r.a.w r.a.d r.a.t r.b.k r.b.m r.b.w r.b.d r.b.t = some ((yo [] (uC ts (some r))).reverse.foldl (CK (Ef n ts ti ix foot r) loc) [], 0, ts.map Z.cT, ti, ix, foot, r.std, r.dst, r.off, r.doff, r.a.k, r.a.m, r.a.w, r.a.d, r.a.t, r.b.k, r.b.m, r.b.w, r.b.d, r.b.t) := by
 obtain ⟨_, h2, _, _, _, _, _, _⟩ := Z.right_parts hR
 have hlen := aab ts r h2
 unfold lY lX
 rw [hm]
 simp only [Option.bind_some, bne_self_eq_false, cond_false]
 rw [QG n (by omega) ts ti ix foot r hR hr]
 simp only [Option.bind_some, jA, jy, oQ, fM]
 rw [wi _ (by omega) (by omega), Sj n hn ts ti ix foot r hR hr _ loc (aa9 hR hr) hlen hl (yo [] (uC ts (some r))).length n [] (Nat.le_refl _) (by omega) (by simp only [List.length_nil]; omega)]
 simp only [Option.bind_some, List.take_length]
end Go.Proofs.YtiegmpnagcdgoaaGreatDoor.H
namespace Go.Proofs.YtiegmpnagcdgoaaGreatDoor.H
open Go.Sh Go.RowKit
set_option linter.unusedSimpArgs false
set_option linter.unusedVariables false
def foot0 : Str := [67, 69, 84, 45, 49, 67, 69, 83, 84, 44, 77, 51, 46, 53, 46, 48, 44, 77, 49, 48, 46, 53, 46, 48, 47, 51]
def rule0 : RuleV := ⟨[67, 69, 84], [67, 69, 83, 84], 3600, 7200, ⟨3, 3, 5, 0, 7200⟩, ⟨3, 10, 5, 0, 10800⟩⟩
def ts0 : List Z.Ty := [(0, false, [88])]
theorem aac : JS foot0 = some rule0 := by kernel_rfl
theorem VZ : Z.RightS ts0 [] [] foot0 = true := by decide +kernel
theorem Tp : fE rule0 = true := by decide +kernel
theorem acJ (n : Nat) : pO n 0 = some (1970, 1, 1, 0, 0, 0, 0, 0) := by kernel_rfl
theorem acK (n : Nat) : ut n 2026 3 29 2 30 0 0 = some (1774751400000000, 0) := by kernel_rfl
theorem acL (n : Nat) : ut n 2026 10 25 2 30 0 0 = some (1792895400000000, 0) := by kernel_rfl
theorem Yd (n : Nat) (hn : 20000 < n) (sec v : Int) (hy : InYear 2026 ((jY (jY sec) + rule0.off) / 86400)) (hv : (MB rule0 (jY (jY sec)) 2026).1 = v) : Ef n ts0 [] [] foot0 rule0 sec = v := by
 unfold Ef aj aI
 rw [cond_false, show ((([] : List Int).length : Int)) = ((([] : List Int).length : Nat) : Int) from rfl, Ol n _ _ [] _ _ _ _ _ _ _ _ _ _ _ _ _ _ _ _ _ (by simp)]
 simp only [Option.bind_some]
 rw [show ∀ t, QF [] t = true from fun _ => rfl, cond_true]
 obtain ⟨y, h1, h2, h3, h4⟩ := rat_val n rule0 (jY sec) hn Tp (by decide)
 have : y = 2026 := h1.one (by omega) (by omega) hy
 subst this
 have h5 : dB n rule0.std rule0.dst rule0.off rule0.doff rule0.a.k rule0.a.m rule0.a.w rule0.a.d rule0.a.t rule0.b.k rule0.b.m rule0.b.w rule0.b.d rule0.b.t (if (-10000000000 : Int) < (if sec < (100000000000 : Int) then sec else (100000000000 : Int)) then (if sec < (100000000000 : Int) then sec else (100000000000 : Int)) else (-10000000000 : Int)) = some (MB rule0 (jY (jY sec)) 2026) := h4
 rw [h5]
 exact hv
theorem acp : yo [] (uC ts0 (some rule0)) = [0, 3600, 7200] := by decide +kernel
theorem Ye (n : Nat) (hn : 20000 < n) : aT n = some true := by
 unfold aT l5
 rw [acJ]
 simp only [Option.bind_some]
 have hnew := WR n (by omega) ts0 [] [] foot0
 rw [if_pos VZ, if_neg (by decide), aac] at hnew
 have h1 := Sk n hn ts0 [] [] foot0 rule0 VZ Tp 2026 3 29 2 30 0 0 _ (acK n) (by omega)
 have h2 := Sk n hn ts0 [] [] foot0 rule0 VZ Tp 2026 10 25 2 30 0 0 _ (acL n) (by omega)
 rw [acp, show [(0 : Int), 3600, 7200].reverse = [7200, 3600, 0] from rfl] at h1 h2
 simp only [List.foldl_cons, List.foldl_nil] at h1 h2
 have a1 : CK (Ef n ts0 [] [] foot0 rule0) 1774751400000000 [] 7200 = [] := by
  unfold CK
  rw [show ((1774751400000000 : Int) - 7200 * 1000000) / 1000000 = 1774744200 from by decide, Yd n hn 1774744200 3600 (by unfold InYear; decide +kernel) (by decide +kernel)]
  decide
 have a2 : CK (Ef n ts0 [] [] foot0 rule0) 1774751400000000 [] 3600 = [] := by
  unfold CK
  rw [show ((1774751400000000 : Int) - 3600 * 1000000) / 1000000 = 1774747800 from by decide, Yd n hn 1774747800 7200 (by unfold InYear; decide +kernel) (by decide +kernel)]
  decide
 have a3 : CK (Ef n ts0 [] [] foot0 rule0) 1774751400000000 [] 0 = [] := by
  unfold CK
  rw [show ((1774751400000000 : Int) - 0 * 1000000) / 1000000 = 1774751400 from by decide, Yd n hn 1774751400 7200 (by unfold InYear; decide +kernel) (by decide +kernel)]
  decide
 have b1 : CK (Ef n ts0 [] [] foot0 rule0) 1792895400000000 [] 7200 = [1792888200000000] := by
  unfold CK
  rw [show ((1792895400000000 : Int) - 7200 * 1000000) / 1000000 = 1792888200 from by decide, Yd n hn 1792888200 7200 (by unfold InYear; decide +kernel) (by decide +kernel)]
  decide
 have b2 : CK (Ef n ts0 [] [] foot0 rule0) 1792895400000000 [1792888200000000] 3600 = [1792888200000000, 1792891800000000] := by
  unfold CK
  rw [show ((1792895400000000 : Int) - 3600 * 1000000) / 1000000 = 1792891800 from by decide, Yd n hn 1792891800 3600 (by unfold InYear; decide +kernel) (by decide +kernel)]
  decide
 have b3 : CK (Ef n ts0 [] [] foot0 rule0) 1792895400000000 [1792888200000000, 1792891800000000] 0 = [1792888200000000, 1792891800000000] := by
  unfold CK
  rw [show ((1792895400000000 : Int) - 0 * 1000000) / 1000000 = 1792895400 from by decide, Yd n hn 1792895400 3600 (by unfold InYear; decide +kernel) (by decide +kernel)]
  decide
 rw [a1, a2, a3] at h1
 rw [b1, b2, b3] at h2
 have hn2 : CX n ([[.int .i64 (0 : Int), .bool false, .str ([88] : Str)]] : List (List AV)) ([] : List Int) ([] : List Int) foot0 = _ := hnew
 have hf : ([67, 69, 84, 45, 49, 67, 69, 83, 84, 44, 77, 51, 46, 53, 46, 48, 44, 77, 49, 48, 46, 53, 46, 48, 47, 51] : Str) = foot0 := rfl
 rw [hf, hn2]
 simp only [Option.bind_some, Sum.elim_inr, Sum.elim_inl]
 rw [h1]
 simp only [Option.bind_some]
 rw [h2]
 rfl
end Go.Proofs.YtiegmpnagcdgoaaGreatDoor.H
namespace Go.Proofs.YtiegmpnagcdgoaaGreatDoor.H
open Go.Sh Go.RowKit
set_option linter.unusedSimpArgs false
set_option linter.unusedVariables false
theorem QU {els : List (List AV)} {ti ix : List Int} {foot : Str} {utc : Bool} {u : Int} (h0 : ∀ e ∈ els, LD.sG [.int .i64, .bool, .str] e) (h3 : foot.length ≤ 9223372036854775807) (hu : -9223372036854775808 ≤ u ∧ u ≤ 9223372036854775807) : ∃ n, iX n els ti ix foot utc u = some true := by
 obtain ⟨ts, rfl, ht⟩ := Z.open_types h0
 obtain ⟨m, hm⟩ := Z.lens_bound ts
 refine ⟨20001 + m + foot.length, QL _ (by omega) (Ye _ (by omega)) ts ti ix foot utc u (fun t h => ?_) ⟨h3, by omega⟩ hu⟩
 have := hm t h
 have := (ht t h).2.2
 omega
end Go.Proofs.YtiegmpnagcdgoaaGreatDoor.H
namespace Go.Sh
open Go
theorem KP {P : Program} {w : World} : ∀ {l : List (String × DataW Unit)} {ps : List MemPlace}, DataW.LaidVars P w l ps → ∀ {n : String} {d : DataW Unit}, (n, d) ∈ l →
 ∃ g t cs fuel p, P.globalNamed n = some g ∧ (P.globals[g]?).map (·.type) = some t ∧ w.var? P n = some cs ∧ DataW.trod (fun _ => ()) P w 0 (fun _ => true) false fuel t cs.toList = some (d, p)
 | [], _, _, n, d, hx => by cases hx
 | (m, e) :: r, _, h, n, d, hx => by
  obtain ⟨g, t, cs, fuel, p, q, h1, h2, h3, h4, h5, _⟩ := h
  rcases List.mem_cons.1 hx with hx | hx
  ·injection hx with hn hd
   subst hn hd
   exact ⟨g, t, cs, fuel, p, h1, h2, h3, h4⟩
  ·exact KP h5 hx
theorem Sl {P : Program} {w : World} {n : String} {g : Nat} {cs : Array Value} (hg : P.globalNamed n = some g) (h : w.var? P n = some cs) : ∃ t f, w.heap[g]? = some (.cells cs t f) := by
 simp only [World.var?, hg, Option.bind_some] at h
 split at h
 ·rename_i cs' t f e
  injection h with h
  subst h
  exact ⟨t, f, e⟩
 ·cases h
theorem QM {P : Program} {w : World} {l : List (String × DataW Unit)} (h : laidMet P l w) {n s : String} {d : DataW Unit} (hx : (n, DataW.iface s d) ∈ l) {g : Nat} {t : TypeId} {ms : Array (String × TypeId)}
 (hg : P.globalNamed n = some g) (hty : (P.globals[g]?).map (·.type) = some t) (ht : P.underlying t = some (.interface ms)) : ∃ u v t' f, w.heap[g]? = some (.cells #[.iface u v] t' f) := by
 obtain ⟨ps, hl, _⟩ := h
 obtain ⟨g', t', cs, fuel, p, h1, h2, h3, h4⟩ := KP hl hx
 obtain rfl := Option.some.inj (hg.symm.trans h1)
 obtain rfl := Option.some.inj (hty.symm.trans h2)
 obtain ⟨u, f, hb⟩ := Sl hg h3
 obtain ⟨cs⟩ := cs
 cases fuel with
 | zero => simp [DataW.trod] at h4
 | succ fuel =>
  simp only [DataW.trod, ht] at h4
  match cs, h4, hb with
  | [.iface x v], _, hb => exact ⟨x, v, u, f, hb⟩
  | [.nilIface], h4, _ => simp at h4
  | [], h4, _ => simp at h4
  | a :: b :: r, h4, _ => simp at h4
  | [.bool _], h4, _ => simp at h4
  | [.int _ _], h4, _ => simp at h4
theorem V3 {P : Program} {w : World} {l : List (String × DataW Unit)} (h : laidMet P l w) {n : String} {k : IntKind} {zs : List Int} (hx : (n, Lib.tabData k zs) ∈ l) {g m : Nat} {t e : TypeId}
 (hg : P.globalNamed n = some g) (hty : (P.globals[g]?).map (·.type) = some t) (ht : P.underlying t = some (.array m e)) (he : P.underlying e = some (.int k)) (hce : P.cellsOf e = 1) (hct : P.cellsOf t = m) :
 ∃ t' f, w.heap[g]? = some (.cells (zs.map fun z => Value.int k z).toArray t' f) := by
 obtain ⟨ps, hl, _⟩ := h
 obtain ⟨g', t', cs, fuel, p, h1, h2, h3, h4⟩ := KP hl hx
 obtain rfl := Option.some.inj (hg.symm.trans h1)
 obtain rfl := Option.some.inj (hty.symm.trans h2)
 obtain ⟨u, f, hb⟩ := Sl hg h3
 have := Lib.cells_of_tab ht he hce hct h4
 refine ⟨u, f, ?_⟩
 rw [hb, ← this]
end Go.Sh
namespace Go.Proofs.YtiegmpnagcdgoaaGreatDoor.H
open Go.Sh Go
theorem Yf {W : World} (h : W.ShapedOpen Tryz.prog) : ∃ m t f, W.heap[0]? = some (.cells #[.int .i64 m] t f) := by
 have h0 : ((begin Tryz.prog (fun _ _ => 0) default).world.heap[0]?).bind Obj.row? = some (#[.int .i64 0], 3) := by kernel_rfl
 obtain ⟨m, hm⟩ := cell_of_shapedOpen_int (g := 0) (t := 3) (zero := #[.int .i64 0]) (k := .i64) h (of_decide_eq_true (by kernel_rfl)) h0 rfl (by kernel_rfl) (by kernel_rfl) (by kernel_rfl)
 obtain ⟨cs, h1, h2, _⟩ := h.1 0 _ _ (of_decide_eq_true (by kernel_rfl)) h0
 obtain ⟨c, rfl⟩ : ∃ c, cs = #[c] := by
  obtain ⟨l⟩ := cs
  match l, h2 with
  | [c], _ => exact ⟨c, rfl⟩
 have : c = .int .i64 m := by simpa [World.cell?, h1] using hm
 subst this
 exact ⟨m, _, _, h1⟩
theorem Yg {W : World} (hs : W.ShapedOpen Tryz.prog) (h : laidMetH Tryz.prog [("math/bits.deBruijn32tab", Rows.laid_math_bits_deBruijn32tab), ("math/bits.deBruijn64tab", Rows.laid_math_bits_deBruijn64tab), ("internal/strconv.uint64pow10", Rows.laid_internal_strconv_uint64pow10), ("strconv.ErrRange", Rows.laid_strconv_ErrRange), ("strconv.ErrSyntax", Rows.laid_strconv_ErrSyntax)] W) : GdH W.heap := by
 rw [MakeChecks.laidMetH_plain _ _ _ (by kernel_rfl)] at h
 refine ⟨Yf hs, ?_, ?_, ?_⟩
 ·exact QM h (n := "strconv.ErrSyntax") (t := 207) (ms := #[("Error", 148)]) (List.mem_cons_of_mem _ (List.mem_cons_of_mem _ (List.mem_cons_of_mem _ (List.mem_cons_of_mem _ (List.mem_cons_self ..))))) (by kernel_rfl) (by kernel_rfl) (by kernel_rfl)
 ·exact QM h (n := "strconv.ErrRange") (t := 207) (ms := #[("Error", 148)]) (List.mem_cons_of_mem _ (List.mem_cons_of_mem _ (List.mem_cons_of_mem _ (List.mem_cons_self ..)))) (by kernel_rfl) (by kernel_rfl) (by kernel_rfl)
 ·exact V3 h (n := "internal/strconv.uint64pow10") (k := .u64) (zs := Lib.pow10Tab) (t := 257) (e := 133) (m := 20) (List.mem_cons_of_mem _ (List.mem_cons_of_mem _ (by rw [show (Lib.tabData .u64 Lib.pow10Tab : DataW Unit) = Rows.laid_internal_strconv_uint64pow10 by kernel_rfl]; exact List.mem_cons_self ..))) (by kernel_rfl) (by kernel_rfl) (by kernel_rfl) (by kernel_rfl) (by kernel_rfl) (by kernel_rfl)
end Go.Proofs.YtiegmpnagcdgoaaGreatDoor.H
namespace Go.Sh
open Go
variable {H : Type} {enc : TypeId × Value → H}
theorem QV {a : Assume} {C : Checked} {os : Os} {f : FuncId} {fn : Func} {s : ChangeSpec} {conds : List PathCond} {apart fresh handsOn again : Bool} {X : World → Array Value → Prop}
 (hX : ∀ (w w' : World) (args : Array Value), w.heap = w'.heap → X w args → X w' args)
 (own : ownKnob C.prog.godebug = none) (started : os.Started) (noInit : C.prog.inits.idxOf? f = none) (hfn : C.prog.funcs[f]? = some fn)
 (witness : ∃ (w : World) (tape : Tape) (i : Input), w.os = os ∧ (w.forCall tape i).Shaped C.prog ∧ i.vars = [] ∧ Input.okWide C.prog (w.forCall tape i) .any w.heap.size f i ∧
  ((s.pre enc C.prog fn conds apart (w.forCall tape i).memory i.args ∧ X (w.forCall tape i).memory i.args) ∧ sizedMet enc C.prog fn (OpenSpec.ofChange s) apart (w.forCall tape i).memory i.args) ∧ a.holds C.prog (lone (Frame.enter C.prog f i.args .normal) [] (w.forCall tape i)))
 (contract : ∀ (W : World) (base : Nat) (args : Array Value) (ds gs : List (DataW H)) (before : List MemPlace),
  (∀ (j : Nat) t v, fn.params[j]? = some t → args[j]? = some v → Value.okWide C.prog W .any base t v) →
  DataW.Whole enc C.prog fn.params.toList s.vars apart W args.toList ds gs before →
  conds.all (PathCond.test C.prog ⟨fn.params.toList, ds, s.plain.varTypes C.prog, gs⟩) = true →
  (DataW.weightsEach C.prog (fn.params.toList ++ s.plain.varTypes C.prog) (ds ++ gs)).all (· ≤ reachBytes) = true → X W args →
  W.ShapedOpen C.prog →
  a.holds C.prog (lone (Frame.enter C.prog f args .normal) [] W) →
  Calls C.prog f args W fun e W' => ∃ v, e = .returned v ∧ s.post enc C.prog fn apart fresh handsOn again W args v W') :
 ReturnsInHanded a C os f .any (fun w args => (s.pre enc C.prog fn conds apart w args ∧ X w args) ∧ sizedMet enc C.prog fn (OpenSpec.ofChange s) apart w args) (s.post enc C.prog fn apart fresh handsOn again) := by
 refine returnsInHanded_of_calls own started noInit witness ?_
 intro w tape i _ hsh _ hok hpre hholds
 obtain ⟨_, _, _, fn', hfn', _, _, _, _, hval⟩ := hok
 have e : fn' = fn := Option.some.inj (hfn'.symm.trans hfn)
 subst e
 obtain ⟨⟨⟨ds, gs, before, hw, hc⟩, hx⟩, hz⟩ := hpre
 have hw' := DataW.Whole.of_heap (w' := w.forCall tape i) (by rfl) hw
 refine (contract (w.forCall tape i) w.heap.size i.args ds gs before hval hw' hc (hz.weights hw) (hX _ _ _ (by rfl) hx) hsh hholds).mono fun e W' ⟨v, he, hp⟩ => ?_
 subst he
 exact ChangeSpec.post_blind hp
end Go.Sh

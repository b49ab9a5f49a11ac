/- Chapter 07: days read; what is right; a rule parsed by the program. -/
import Derived.Test.YtpooncihlnllnaaDoorU2
namespace Go.Proofs.YtpooncihlnllnaaDoor.H
open Go.Sh Go.RowKit
set_option linter.unusedSimpArgs false
set_option linter.unusedVariables false

/-- A day of each year. -/
structure DayV where
  k : Int
  m : Int
  w : Int
  d : Int
  t : Int
/-- A zone's rule. -/
structure RuleV where
  std : Str
  dst : Str
  off : Int
  doff : Int
  a : DayV
  b : DayV
def DayV.zero : DayV := ⟨0, 0, 0, 0, 0⟩
def RuleV.zero : RuleV := ⟨[], [], 0, 0, .zero, .zero⟩

/-! ### days -/
def dayTail (k m w : Int) (r : Str) (bad : Bool) : DayV × Str × Bool :=
  let d := numS 1 3 r
  let e := eatS 47 d.2.1
  if e.1 = true then
    let h := hoursS 167 e.2
    (⟨k, m, w, d.1, h.1⟩, h.2.1, bad || d.2.2 || h.2.2)
  else (⟨k, m, w, d.1, 7200⟩, e.2, bad || d.2.2)
/-- A day read. -/
def dayS (r : Str) : DayV × Str × Bool :=
  let e := eatS 74 r
  if e.1 = true then dayTail 1 0 0 e.2 false
  else
    let f := eatS 77 e.2
    if f.1 = true then
      let m := numS 1 3 f.2
      let p := eatS 46 m.2.1
      let w := numS 1 3 p.2
      let q := eatS 46 w.2.1
      dayTail 3 m.1 w.1 q.2 (m.2.2 || !p.1 || w.2.2 || !q.1)
    else dayTail 2 0 0 f.2 false
theorem dayTail_len (k m w : Int) (r : Str) (bad : Bool) : (dayTail k m w r bad).2.1.length ≤ r.length := by
  have h1 := numS_len 1 3 r
  have h2 := eatS_len 47 (numS 1 3 r).2.1
  have h3 := hoursS_len 167 (eatS 47 (numS 1 3 r).2.1).2
  unfold dayTail
  dsimp only
  split <;> dsimp only <;> omega
theorem dayS_len (r : Str) : (dayS r).2.1.length ≤ r.length := by
  have h1 := eatS_len 74 r
  have h2 := eatS_len 77 (eatS 74 r).2
  have h3 := numS_len 1 3 (eatS 77 (eatS 74 r).2).2
  have h4 := eatS_len 46 (numS 1 3 (eatS 77 (eatS 74 r).2).2).2.1
  have h5 := numS_len 1 3 (eatS 46 (numS 1 3 (eatS 77 (eatS 74 r).2).2).2.1).2
  have h6 := eatS_len 46 (numS 1 3 (eatS 46 (numS 1 3 (eatS 77 (eatS 74 r).2).2).2.1).2).2.1
  unfold dayS
  dsimp only
  split
  · exact Nat.le_trans (dayTail_len ..) h1
  · split
    · exact Nat.le_trans (dayTail_len ..) (by omega)
    · exact Nat.le_trans (dayTail_len ..) (by omega)
theorem day_val (n : Nat) (r : Str) (b : Bool) (hs : r.length < 9223372036854775808) (hn : r.length + 5 < n) :
    footer_reader_day_f n r b = some ((dayS r).1.k, (dayS r).1.m, (dayS r).1.w, (dayS r).1.d, (dayS r).1.t, (dayS r).2.1, b || (dayS r).2.2) := by
  have h1 := eatS_len 74 r
  have h2 := eatS_len 77 (eatS 74 r).2
  have h3 := numS_len 1 3 (eatS 77 (eatS 74 r).2).2
  have h4 := eatS_len 46 (numS 1 3 (eatS 77 (eatS 74 r).2).2).2.1
  have h5 := numS_len 1 3 (eatS 46 (numS 1 3 (eatS 77 (eatS 74 r).2).2).2.1).2
  have h6 := eatS_len 46 (numS 1 3 (eatS 46 (numS 1 3 (eatS 77 (eatS 74 r).2).2).2.1).2).2.1
  have num : ∀ (s : Str) (b : Bool), s.length ≤ r.length → footer_reader_number_f n (1 : Int) (3 : Int) s b = some (((numS 1 3 s).1 : Int), (numS 1 3 s).2.1, b || (numS 1 3 s).2.2) := fun s b h => number_val n 1 3 (by omega) (by omega) s b (by omega) (by omega)
  have tail : ∀ (k m w : Int) (s : Str) (b bad : Bool), s.length ≤ r.length →
      ((footer_reader_number_f n (1 : Int) (3 : Int) s (b || bad)).bind fun o59 => (footer_reader_eat_f n (47 : Int) o59.2.1 o59.2.2).bind fun o60 => cond o60.1 ((footer_reader_hours_f n (167 : Int) o60.2.1 o60.2.2).bind fun o61 => some (k, m, w, o59.1, o61.1, o61.2.1, o61.2.2)) (some (k, m, w, o59.1, 7200, o60.2.1, o60.2.2)))
      = some ((dayTail k m w s bad).1.k, (dayTail k m w s bad).1.m, (dayTail k m w s bad).1.w, (dayTail k m w s bad).1.d, (dayTail k m w s bad).1.t, (dayTail k m w s bad).2.1, b || (dayTail k m w s bad).2.2) := by
    intro k m w s b bad hsl
    have g1 := numS_len 1 3 s
    have g2 := eatS_len 47 (numS 1 3 s).2.1
    rw [num s _ hsl]
    simp only [Option.bind_some]
    rw [eat_val n 47 47]
    simp only [Option.bind_some]
    unfold dayTail
    cases he : (eatS 47 (numS 1 3 s).2.1).1 with
    | true =>
      simp only [cond_true, he, if_true]
      rw [show (footer_reader_hours_f n (167 : Int) (eatS 47 (numS 1 3 s).2.1).2 (b || bad || (numS 1 3 s).2.2)) = _ from hours_val n 167 _ _ (by omega) (by omega)]
      simp only [Option.bind_some, Bool.or_assoc]
    | false => simp only [cond_false, he, Bool.false_eq_true, if_false, Bool.or_assoc]
  unfold footer_reader_day_f footer_reader_day_b footer_reader_day_j0 footer_reader_day_j0_b dayS
  rw [eat_val n 74 74]
  simp only [Option.bind_some]
  cases he : (eatS 74 r).1 with
  | true =>
    simp only [cond_true, if_true, Option.bind_some]
    have := tail 1 0 0 (eatS 74 r).2 b false (by omega)
    rw [Bool.or_false] at this
    exact this
  | false =>
    simp only [cond_false, Bool.false_eq_true, if_false]
    rw [eat_val n 77 77]
    simp only [Option.bind_some]
    cases hf : (eatS 77 (eatS 74 r).2).1 with
    | false =>
      simp only [cond_false, Bool.false_eq_true, if_false, Option.bind_some]
      have := tail 2 0 0 (eatS 77 (eatS 74 r).2).2 b false (by omega)
      rw [Bool.or_false] at this
      exact this
    | true =>
      simp only [cond_true, if_true]
      rw [num _ _ (by omega)]
      simp only [Option.bind_some]
      rw [must_val n 46 46]
      simp only [Option.bind_some]
      rw [num _ _ (by omega)]
      simp only [Option.bind_some]
      rw [must_val n 46 46]
      simp only [Option.bind_some]
      have := tail 3 (numS 1 3 (eatS 77 (eatS 74 r).2).2).1 (numS 1 3 (eatS 46 (numS 1 3 (eatS 77 (eatS 74 r).2).2).2.1).2).1 (eatS 46 (numS 1 3 (eatS 46 (numS 1 3 (eatS 77 (eatS 74 r).2).2).2.1).2).2.1).2 b ((numS 1 3 (eatS 77 (eatS 74 r).2).2).2.2 || !(eatS 46 (numS 1 3 (eatS 77 (eatS 74 r).2).2).2.1).1 || (numS 1 3 (eatS 46 (numS 1 3 (eatS 77 (eatS 74 r).2).2).2.1).2).2.2 || !(eatS 46 (numS 1 3 (eatS 46 (numS 1 3 (eatS 77 (eatS 74 r).2).2).2.1).2).2.1).1) (by omega)
      simp only [← Bool.or_assoc] at this ⊢
      exact this

/-! ### what is right -/
def nearB (x far : Int) : Bool := decide (-far ≤ x) && decide (x ≤ far)
def dayOK (d : DayV) : Bool := nearB d.t 604799 &&
  if d.k = 1 then decide (d.m = 0) && decide (d.w = 0) && decide (1 ≤ d.d) && decide (d.d ≤ 365)
  else if d.k = 2 then decide (d.m = 0) && decide (d.w = 0) && decide (0 ≤ d.d) && decide (d.d ≤ 365)
  else if d.k = 3 then decide (1 ≤ d.m) && decide (d.m ≤ 12) && decide (1 ≤ d.w) && decide (d.w ≤ 5) && decide (0 ≤ d.d) && decide (d.d ≤ 6)
  else false
def zeroD (d : DayV) : Bool := d.k == 0 && d.m == 0 && d.w == 0 && d.d == 0 && d.t == 0
def rightS (r : RuleV) : Bool := isName r.std && nearB r.off 89999 &&
  if r.dst = [] then r.doff == 0 && zeroD r.a && zeroD r.b else isName r.dst && nearB r.doff 89999 && dayOK r.a && dayOK r.b
theorem within_val (n : Nat) (x : Int) (far : Nat) (hf : far < 1000000000) : footer_within_f n x (far : Int) = some (nearB x far) := by
  unfold footer_within_f footer_within_b nearB
  rw [wi (0 - (far : Int)) (by omega) (by omega)]
  by_cases h : -(far : Int) ≤ x
  · rw [cond_pos (by omega), decide_eq_true h]; rfl
  · rw [cond_neg (by omega), decide_eq_false h]; rfl
theorem beqI (x y : Int) : (x == y) = decide (x = y) := by by_cases h : x = y <;> simp [h]
theorem cond_and {p : Prop} [Decidable p] (q : Bool) : cond (decide p) (some q) (some false) = some (decide p && q) := by by_cases h : p <;> simp [h]
theorem cond_andB (p q : Bool) : cond p (some q) (some false) = some (p && q) := by cases p <;> rfl
theorem dayright_val (n : Nat) (k m w d t : Int) : footer_Day_right_f n k m w d t = some (dayOK ⟨k, m, w, d, t⟩) := by
  unfold footer_Day_right_f footer_Day_right_b dayOK
  rw [show footer_within_f n t (604799 : Int) = _ from within_val n t 604799 (by omega)]
  simp only [Option.bind_some]
  cases nearB t ((604799 : Nat) : Int) with
  | false => simp
  | true =>
    simp only [Bool.not_true, cond_false, Bool.true_and]
    rw [footer_Day_right_j1, footer_Day_right_j1_b]
    have hz : ∀ (x3 : Int), ((footer_Day_right_j0 n x3 k m w d t).bind fun o75 => some o75.1) = some (decide (m = 0) && decide (w = 0) && decide (x3 ≤ d) && decide (d ≤ 365)) := by
      intro x3
      rw [footer_Day_right_j0, footer_Day_right_j0_b]
      rw [beqI, beqI]
      by_cases h1 : m = 0 <;> by_cases h2 : w = 0 <;> by_cases h3 : x3 ≤ d <;> simp [h1, h2, h3]
    by_cases h1 : k = 1
    · subst h1
      simpa using hz 1
    · by_cases h2 : k = 2
      · subst h2
        simpa using hz 0
      · by_cases h3 : k = 3
        · subst h3
          simp only [beq_iff_eq, h1, h2, if_false, if_true, show ((3 : Int) == 1) = false from rfl, show ((3 : Int) == 2) = false from rfl, show ((3 : Int) == 3) = true from rfl, cond_false, cond_true, Option.bind_some, Sum.elim_inl, Sum.elim_inr, cond_and, ge_iff_le, Bool.and_assoc]
        · rw [beqI, beqI, beqI, decide_eq_false h1, decide_eq_false h2, decide_eq_false h3]
          simp [h1, h2, h3]
theorem right_val (n : Nat) (std dst : Str) (off doff k m w d t k' m' w' d' t' : Int) (hs : std.length < 9223372036854775808) (hn : std.length < n) (hs' : dst.length < 9223372036854775808) (hn' : dst.length < n) :
    footer_Right_f n std dst off doff k m w d t k' m' w' d' t' = some (rightS ⟨std, dst, off, doff, ⟨k, m, w, d, t⟩, ⟨k', m', w', d', t'⟩⟩) := by
  unfold footer_Right_f footer_Right_b footer_Right_j0 footer_Right_j0_b rightS
  rw [name_val n std hs hn]
  simp only [Option.bind_some]
  cases isName std with
  | false => simp
  | true =>
    simp only [Bool.not_true, cond_false, Bool.true_and]
    rw [show footer_within_f n off (89999 : Int) = _ from within_val n off 89999 (by omega)]
    simp only [Option.bind_some]
    change _ = some (nearB off ((89999 : Nat) : Int) && _)
    cases nearB off ((89999 : Nat) : Int) with
    | false => simp
    | true =>
      simp only [Bool.not_true, cond_false, Bool.true_and]
      by_cases hd : dst = []
      · subst hd
        simp [zeroD, Bool.and_assoc]
      · have : (dst == ([] : Str)) = false := by simpa using hd
        rw [this, cond_false, name_val n dst hs' hn', if_neg hd]
        simp only [Option.bind_some]
        rw [show footer_within_f n doff (89999 : Int) = _ from within_val n doff 89999 (by omega)]
        simp only [Option.bind_some, dayright_val, cond_andB, Bool.and_assoc]
        rfl

/-! ### a rule -/
/-- The other offset read. -/
def offS (off : Int) (r : Str) : Int × Str × Bool :=
  if r.head? = some 44 then (off + 3600, r, false)
  else let x := hoursS 24 r; (-x.1, x.2.1, x.2.2)
theorem offS_len (off : Int) (r : Str) : (offS off r).2.1.length ≤ r.length := by
  unfold offS
  split
  · exact Nat.le_refl _
  · exact hoursS_len 24 r
/-- What is read behind standard time. -/
def restS (std : Str) (off : Int) (r : Str) (bad : Bool) : RuleV × Str × Bool :=
  let d := nameS r
  let o := offS off d.2.1
  let p := eatS 44 o.2.1
  let a := dayS p.2
  let q := eatS 44 a.2.1
  let b := dayS q.2
  (⟨std, d.1, off, o.1, a.1, b.1⟩, b.2.1, bad || d.2.2 || o.2.2 || !p.1 || a.2.2 || !q.1 || b.2.2)
/-- What is read of a text. -/
def readS (s : Str) : RuleV × Str × Bool :=
  let a := nameS s
  let h := hoursS 24 a.2.1
  if h.2.1 = [] then (⟨a.1, [], -h.1, 0, .zero, .zero⟩, [], a.2.2 || h.2.2)
  else restS a.1 (-h.1) h.2.1 (a.2.2 || h.2.2)
/-- The rule of a text. -/
def ruleS (s : Str) : Option RuleV :=
  if 100 < s.length then none
  else let x := readS s; if x.2.2 = false ∧ x.2.1 = [] ∧ rightS x.1 = true then some x.1 else none
theorem restS_len (std : Str) (off : Int) (r : Str) (bad : Bool) : (restS std off r bad).2.1.length ≤ r.length ∧ (restS std off r bad).1.std = std ∧ (restS std off r bad).1.dst = (nameS r).1 := by
  refine ⟨?_, rfl, rfl⟩
  have h1 := nameS_len r
  have h2 := offS_len off (nameS r).2.1
  have h3 := eatS_len 44 (offS off (nameS r).2.1).2.1
  have h4 := dayS_len (eatS 44 (offS off (nameS r).2.1).2.1).2
  have h5 := eatS_len 44 (dayS (eatS 44 (offS off (nameS r).2.1).2.1).2).2.1
  have h6 := dayS_len (eatS 44 (dayS (eatS 44 (offS off (nameS r).2.1).2.1).2).2.1).2
  unfold restS
  dsimp only
  omega
theorem nameS_len1 (r : Str) : (nameS r).1.length ≤ r.length := by
  have h1 := eatS_len 60 r
  have h2 := runS_len openB (eatS 60 r).2.length (eatS 60 r).2
  have h3 := runS_len letterB (eatS 60 r).2.length (eatS 60 r).2
  unfold nameS
  dsimp only
  split <;> dsimp only <;> omega
theorem prefix_val (n : Nat) (r : Str) : strings_HasPrefix_f n r [44] = some (decide (r.head? = some 44)) := by
  unfold strings_HasPrefix_f
  cases r with
  | nil => rfl
  | cons c r =>
    have : Lib.hasPrefix (c :: r) [44] = (44 == c) := by simp [Lib.hasPrefix, List.isPrefixOf]
    rw [this, List.head?_cons]
    by_cases h : c = 44
    · subst h; rfl
    · have h' : ¬ (44 : UInt8) = c := fun e => h e.symm
      simp [h, h']
def tupR (r : RuleV) (e : Int) : Str × Str × Int × Int × Int × Int × Int × Int × Int × Int × Int × Int × Int × Int × Int := (r.std, r.dst, r.off, r.doff, r.a.k, r.a.m, r.a.w, r.a.d, r.a.t, r.b.k, r.b.m, r.b.w, r.b.d, r.b.t, e)
theorem parse_val (n : Nat) (s : Str) (hn : 200 < n) : footer_Parse_f n s = some (match ruleS s with | some r => tupR r 0 | none => tupR .zero 70) := by
  unfold footer_Parse_f footer_Parse_b ruleS
  by_cases h100 : 100 < s.length
  · rw [cond_pos (by omega), if_pos h100]; rfl
  · rw [cond_neg (by omega), if_neg h100]
    have h1 := nameS_len s
    have h1' := nameS_len1 s
    have h2 := hoursS_len 24 (nameS s).2.1
    have h2' := hoursS_lt 24 (nameS s).2.1
    rw [rname_val n s false (by omega) (by omega)]
    simp only [Option.bind_some, Bool.false_or]
    rw [show (footer_reader_hours_f n (24 : Int) (nameS s).2.1 (nameS s).2.2) = _ from hours_val n 24 _ _ (by omega) (by omega)]
    simp only [Option.bind_some]
    rw [wi (0 - (hoursS 24 (nameS s).2.1).1) (by omega) (by omega), Int.zero_sub]
    have fin : ∀ (r : RuleV) (t : Str) (bad : Bool), r.std.length ≤ 200 → r.dst.length ≤ 200 →
        cond bad (some (tupR .zero 70)) (cond (!(t == ([] : Str))) (some (tupR .zero 70)) ((footer_Right_f n r.std r.dst r.off r.doff r.a.k r.a.m r.a.w r.a.d r.a.t r.b.k r.b.m r.b.w r.b.d r.b.t).bind fun o80 => cond (!o80) (some (tupR .zero 70)) (some (tupR r 0))))
        = some (match (if bad = false ∧ t = [] ∧ rightS r = true then some r else none) with | some r => tupR r 0 | none => tupR .zero 70) := by
      intro r t bad g1 g2
      rw [right_val n _ _ _ _ _ _ _ _ _ _ _ _ _ _ (by omega) (by omega) (by omega) (by omega)]
      cases bad with
      | true => simp
      | false =>
        cases t with
        | cons c t => simp
        | nil => cases h : rightS r <;> simp [h]
    by_cases he : (hoursS 24 (nameS s).2.1).2.1 = []
    · have hr : readS s = (⟨(nameS s).1, [], -(hoursS 24 (nameS s).2.1).1, 0, .zero, .zero⟩, [], (nameS s).2.2 || (hoursS 24 (nameS s).2.1).2.2) := by unfold readS; dsimp only; rw [if_pos he]
      rw [footer_Parse_j1, footer_Parse_j1_b, he]
      simp only [beq_self_eq_true, Bool.not_true, cond_false, Option.bind_some]
      rw [hr]
      exact fin ⟨(nameS s).1, [], -(hoursS 24 (nameS s).2.1).1, 0, .zero, .zero⟩ [] _ (by show (nameS s).1.length ≤ 200; omega) (by simp)
    · have hr : readS s = restS (nameS s).1 (-(hoursS 24 (nameS s).2.1).1) (hoursS 24 (nameS s).2.1).2.1 ((nameS s).2.2 || (hoursS 24 (nameS s).2.1).2.2) := by unfold readS; dsimp only; rw [if_neg he]
      have hb : ((hoursS 24 (nameS s).2.1).2.1 == ([] : Str)) = false := by simpa using he
      rw [footer_Parse_j1, footer_Parse_j1_b, hb]
      rw [hr]
      have hoff : -5000000 < -(hoursS 24 (nameS s).2.1).1 ∧ -(hoursS 24 (nameS s).2.1).1 < 5000000 := by omega
      generalize ((nameS s).2.2 || (hoursS 24 (nameS s).2.1).2.2) = bad
      generalize -(hoursS 24 (nameS s).2.1).1 = off at *
      generalize (hoursS 24 (nameS s).2.1).2.1 = r at *
      have k1 := nameS_len r
      have k1' := nameS_len1 r
      have k2 := offS_len off (nameS r).2.1
      have k3 := eatS_len 44 (offS off (nameS r).2.1).2.1
      have k4 := dayS_len (eatS 44 (offS off (nameS r).2.1).2.1).2
      have k5 := eatS_len 44 (dayS (eatS 44 (offS off (nameS r).2.1).2.1).2).2.1
      simp only [Bool.not_false, cond_true]
      rw [rname_val n r bad (by omega) (by omega)]
      simp only [Option.bind_some]
      rw [footer_Parse_j0, footer_Parse_j0_b, prefix_val, Option.bind_some]
      have ho : ∀ (K : Int → Str → Bool → Option (Str × Str × Int × Int × Int × Int × Int × Int × Int × Int × Int × Int × Int × Int × Str × Bool × Str × Str × Int × Int × Int × Int × Int × Int × Int × Int × Int × Int × Int × Int)) (b' : Bool), -5000000 < off → off < 5000000 →
          cond (!decide ((nameS r).2.1.head? = some 44)) ((footer_reader_hours_f n (24 : Int) (nameS r).2.1 b').bind fun o49 => K (IntKind.i64.wrap (0 - o49.1)) o49.2.1 o49.2.2) (K (IntKind.i64.wrap (off + 3600)) (nameS r).2.1 b')
          = K (offS off (nameS r).2.1).1 (offS off (nameS r).2.1).2.1 (b' || (offS off (nameS r).2.1).2.2) := by
        intro K b' hlo hhi
        unfold offS
        have hl := hoursS_lt 24 (nameS r).2.1
        by_cases hc : (nameS r).2.1.head? = some 44
        · rw [decide_eq_true hc, if_pos hc, wi (off + 3600) (by omega) (by omega)]
          simp
        · rw [decide_eq_false hc, if_neg hc]
          rw [show (footer_reader_hours_f n (24 : Int) (nameS r).2.1 b') = _ from hours_val n 24 _ _ (by omega) (by omega)]
          simp only [Option.bind_some, Bool.not_false, cond_true]
          rw [wi _ (by omega) (by omega), Int.zero_sub]
      have ho' := ho (fun x t b => some (([] : Str), ([] : Str), 0, 0, 0, 0, 0, 0, 0, 0, 0, 0, 0, 0, t, b, (nameS s).1, (nameS r).1, off, x, 0, 0, 0, 0, 0, 0, 0, 0, 0, 0)) (bad || (nameS r).2.2) (by omega) (by omega)
      rw [ho']
      simp only [Option.bind_some]
      rw [must_val n 44 44]
      simp only [Option.bind_some]
      rw [day_val n _ _ (by omega) (by omega)]
      simp only [Option.bind_some]
      rw [must_val n 44 44]
      simp only [Option.bind_some]
      rw [day_val n _ _ (by omega) (by omega)]
      simp only [Option.bind_some]
      exact fin (restS (nameS s).1 off r bad).1 (restS (nameS s).1 off r bad).2.1 (restS (nameS s).1 off r bad).2.2 (by show (nameS s).1.length ≤ 200; omega) (by show (nameS r).1.length ≤ 200; omega)
theorem isName_nil : isName [] = false := rfl
theorem nameS_bad (r : Str) (h : (nameS r).2.2 = false) : isName (nameS r).1 = true := by
  unfold nameS at h ⊢
  dsimp only at h ⊢
  split at h
  · rename_i he; rw [if_pos he]; dsimp only at h ⊢; simp only [Bool.or_eq_false_iff, Bool.not_eq_eq_eq_not, Bool.not_false] at h; exact h.2
  · rename_i he; rw [if_neg he]; dsimp only at h ⊢; simpa using h
theorem works_val (n : Nat) (hn : 200 < n) : clepsydralaw07_works_f n = some true := by
  unfold clepsydralaw07_works_f clepsydralaw07_works_b
  rw [parse_val n _ hn, parse_val n _ hn, parse_val n _ hn, parse_val n _ hn]
  decide +kernel
end Go.Proofs.YtpooncihlnllnaaDoor.H

/- Chapter 07: what is so of the offset that holds: four hundred years later; between two switches. -/
import Derived.Test.YtpooncihlnllnaaDoorUF
namespace Go.Proofs.YtpooncihlnllnaaDoor.H
open Go.Sh Go.RowKit
set_option linter.unusedSimpArgs false
set_option linter.unusedVariables false

/-! ### four hundred years later -/
theorem daysS_400 (y m : Int) : daysS (y + 400) m 1 = daysS y m 1 + 146097 := by
  unfold daysS
  by_cases h : m ≤ 2
  · simp only [if_pos h]
    generalize (153 * ((m + 9) % 12) + 2) / 5 = q
    omega
  · simp only [if_neg h]
    generalize (153 * ((m + 9) % 12) + 2) / 5 = q
    omega
theorem leapS_400 (y : Int) : leapS (y + 400) = leapS y := by
  unfold leapS
  rw [show (y + 400) % 4 = y % 4 by omega, show (y + 400) % 100 = y % 100 by omega, show (y + 400) % 400 = y % 400 by omega]
theorem longS_400 (y m : Int) : longS (y + 400) m = longS y m := by
  unfold longS
  rw [leapS_400]
theorem dayS2_400 (d : DayV) (y : Int) : dayS2 d (y + 400) = dayS2 d y + 146097 := by
  unfold dayS2
  rw [leapS_400, daysS_400, daysS_400]
  have ha : aheadS (y + 400) d = aheadS y d := by
    unfold aheadS
    rw [longS_400, daysS_400]
    rw [show (daysS y d.m 1 + 146097 + 3) % 7 = (daysS y d.m 1 + 3) % 7 by omega]
  rw [ha]
  split
  · omega
  · split
    · split <;> omega
    · omega
theorem switchS_400 (d : DayV) (y : Int) : switchS d (y + 400) = switchS d y + 12622780800 := by
  unfold switchS
  rw [dayS2_400]
  omega
theorem InYear_400 {y n : Int} (h : InYear y n) : InYear (y + 400) (n + 146097) := by
  have h1 := daysS_400 y 1
  have h2 := daysS_400 (y + 1) 1
  unfold InYear begS at *
  rw [show y + 400 + 1 = y + 1 + 400 by omega]
  omega
/-- The same, later. -/
def Later (p : Int) (s s' : Bool × Int × Bool) : Prop := s'.1 = s.1 ∧ s'.2.2 = s.2.2 ∧ (s.1 = true → s'.2.1 = s.2.1 + p)
theorem see_later (p t at' : Int) (is : Bool) {s s' : Bool × Int × Bool} (h : Later p s s') : Later p (seeS t at' is s) (seeS (t + p) (at' + p) is s') := by
  obtain ⟨m, l, u⟩ := s
  obtain ⟨m', l', u'⟩ := s'
  obtain ⟨h1, h2, h3⟩ := h
  dsimp only at h1 h2 h3
  subst h1 h2
  unfold seeS
  dsimp only
  by_cases q : at' ≤ t
  · cases m' with
    | false => simp [q, Later]
    | true =>
      have h4 := h3 rfl
      subst h4
      by_cases q2 : l < at' ∨ at' = l ∧ is = false
      · rw [if_pos ⟨q, .inr q2⟩, if_pos ⟨by omega, .inr (by rcases q2 with q2 | q2; · exact .inl (by omega)
                                                            · exact .inr ⟨by omega, q2.2⟩)⟩]
        exact ⟨rfl, rfl, fun _ => rfl⟩
      · rw [if_neg (by rintro ⟨_, q3 | q3⟩; · cases q3
                       · exact q2 q3), if_neg (by
          rintro ⟨_, q3 | q3 | q3⟩
          · cases q3
          · exact q2 (.inl (by omega))
          · exact q2 (.inr ⟨by omega, q3.2⟩))]
        exact ⟨rfl, rfl, fun _ => rfl⟩
  · rw [if_neg (by rintro ⟨q3, _⟩; exact q q3), if_neg (by rintro ⟨q3, _⟩; omega)]
    exact ⟨rfl, rfl, h3⟩
theorem step_later (r : RuleV) (t y : Int) {s s' : Bool × Int × Bool} (h : Later 12622780800 s s') : Later 12622780800 (yearStep r t y s) (yearStep r (t + 12622780800) (y + 400) s') := by
  unfold yearStep
  rw [switchS_400, switchS_400]
  have e1 : switchS r.a y + 12622780800 - r.off = switchS r.a y - r.off + 12622780800 := by omega
  have e2 : switchS r.b y + 12622780800 - r.doff = switchS r.b y - r.doff + 12622780800 := by omega
  rw [e1, e2]
  exact see_later _ _ _ _ (see_later _ _ _ _ h)
theorem atYear_400 (r : RuleV) (t y : Int) : atYear r (t + 12622780800) (y + 400) = atYear r t y := by
  unfold atYear
  have h0 : Later 12622780800 (false, 0, false) (false, 0, false) := ⟨rfl, rfl, fun h => by cases h⟩
  have h : Later 12622780800 (stepsS r t y) (stepsS r (t + 12622780800) (y + 400)) := by
    unfold stepsS
    have h4 := step_later r t (y + 1) (step_later r t y (step_later r t (y - 1) (step_later r t (y - 2) h0)))
    rw [show y + 400 - 2 = y - 2 + 400 by omega, show y + 400 - 1 = y - 1 + 400 by omega, show y + 400 + 1 = y + 1 + 400 by omega]
    exact h4
  rw [h.2.1]

/-! ### between two switches -/
theorem see_miss {t at' : Int} {is : Bool} {s : Bool × Int × Bool} (h : t < at') : seeS t at' is s = s := by
  unfold seeS
  rw [if_neg (by rintro ⟨q, _⟩; omega)]
theorem see_hit {t at' : Int} {is : Bool} {s : Bool × Int × Bool} (h : at' ≤ t) (hl : s.1 = true → s.2.1 < at') : seeS t at' is s = (true, at', is) := by
  unfold seeS
  rw [if_pos ⟨h, by
    cases hs : s.1 with
    | false => exact .inl rfl
    | true => exact .inr (.inl (hl hs))⟩]
/-- The latest one is ahead of that. -/
def Ahead (b : Int) (s : Bool × Int × Bool) : Prop := s.1 = true → s.2.1 < b
theorem see_ahead {b t at' : Int} {is : Bool} {s : Bool × Int × Bool} (h : Ahead b s) (ha : at' < b) : Ahead b (seeS t at' is s) := by
  unfold seeS
  split
  · exact fun _ => ha
  · exact h
theorem month_next' (y m : Int) (hy : 1 ≤ y) (hm : 1 ≤ m ∧ m ≤ 12) : daysS (y + 1) m 1 = daysS y m 1 + 365 ∨ daysS (y + 1) m 1 = daysS y m 1 + 366 := by
  unfold daysS
  by_cases h : m ≤ 2
  · simp only [if_pos h]
    generalize (153 * ((m + 9) % 12) + 2) / 5 = q
    omega
  · simp only [if_neg h]
    generalize (153 * ((m + 9) % 12) + 2) / 5 = q
    omega
theorem longS_next' (y m : Int) : -1 ≤ longS (y + 1) m - longS y m ∧ longS (y + 1) m - longS y m ≤ 1 := by
  unfold longS
  split
  · split <;> split <;> omega
  · split <;> omega
/-- A day of a month. -/
def Plain (d : DayV) : Prop := d.k = 3 ∧ 2 ≤ d.m ∧ d.m ≤ 11 ∧ 0 ≤ d.t ∧ d.t < 86400
theorem plain_next (d : DayV) (y : Int) (h : dayOK d = true) (hp : Plain d) (hy : 1 ≤ y ∧ y ≤ 9998) : dayS2 d (y + 1) ≥ dayS2 d y + 364 := by
  have ho := dayOK_of' h
  obtain ⟨h3, p1, p2, p3, p4⟩ := hp
  have hw : 1 ≤ d.w ∧ d.w ≤ 5 ∧ 0 ≤ d.d ∧ d.d ≤ 6 := by omega
  have m1 := month_next' y d.m hy.1 (by omega)
  have l1 := longS_le y d.m
  have l2 := longS_le (y + 1) d.m
  have l3 := longS_next' y d.m
  unfold dayS2
  rw [if_neg (by omega), if_neg (by omega), if_neg (by omega), if_neg (by omega)]
  unfold aheadS
  dsimp only
  generalize daysS (y + 1) d.m 1 = f1 at *
  generalize daysS y d.m 1 = f0 at *
  generalize longS (y + 1) d.m = g1 at *
  generalize longS y d.m = g0 at *
  clear ho h h3
  split <;> split <;> omega
theorem month_in (y m : Int) (hy : 1 ≤ y) (hm : 2 ≤ m ∧ m ≤ 11) : begS y + 31 ≤ daysS y m 1 ∧ daysS y m 1 + longS y m ≤ begS (y + 1) - 31 := by
  have hn := begS_next y hy
  have : m = 2 ∨ m = 3 ∨ m = 4 ∨ m = 5 ∨ m = 6 ∨ m = 7 ∨ m = 8 ∨ m = 9 ∨ m = 10 ∨ m = 11 := by omega
  have hl := leapS_iff y
  have hleap : leapS y = true ∨ ¬ leapS y = true := by cases leapS y <;> simp
  rw [hn, begS_eq]
  unfold longS daysS
  rcases hleap with h | h
  · rw [if_pos h]
    have hq := hl.1 h
    rcases this with h | h | h | h | h | h | h | h | h | h <;> subst h
    all_goals simp
    all_goals try rw [if_pos (by assumption)]
    all_goals omega
  · rw [if_neg h]
    have h' : ¬ (y % 4 = 0 ∧ (y % 100 ≠ 0 ∨ y % 400 = 0)) := fun q => h (hl.2 q)
    rcases this with h2 | h2 | h2 | h2 | h2 | h2 | h2 | h2 | h2 | h2 <;> subst h2
    all_goals simp
    all_goals try rw [if_neg (by assumption)]
    all_goals omega
theorem plain_in (d : DayV) (y : Int) (h : dayOK d = true) (hp : Plain d) (hy : 1 ≤ y) : begS y + 31 ≤ dayS2 d y ∧ dayS2 d y + 1 ≤ begS (y + 1) - 31 := by
  have ho := dayOK_of' h
  obtain ⟨h3, p1, p2, p3, p4⟩ := hp
  have hw : 1 ≤ d.w ∧ d.w ≤ 5 ∧ 0 ≤ d.d ∧ d.d ≤ 6 := by omega
  have m1 := month_in y d.m hy (by omega)
  have l1 := longS_le y d.m
  unfold dayS2
  rw [if_neg (by omega), if_neg (by omega)]
  unfold aheadS
  dsimp only
  generalize daysS y d.m 1 = f0 at *
  generalize longS y d.m = g0 at *
  clear ho h h3
  split <;> omega
theorem begS_next' (y : Int) (hy : 1 ≤ y) : begS y + 365 ≤ begS (y + 1) := by
  have := begS_next y hy
  split at this <;> omega
/-- THE LATEST SWITCH IS THE ONE AHEAD. -/
theorem between (r : RuleV) (ha : dayOK r.a = true) (hb : dayOK r.b = true) (pa : Plain r.a) (pb : Plain r.b) (h1 : -89999 ≤ r.off ∧ r.off ≤ 89999) (h2 : -89999 ≤ r.doff ∧ r.doff ≤ 89999)
    (y Y t : Int) (hy : 10 ≤ y ∧ y ≤ 9990) (hY : InYear Y ((t + r.off) / 86400)) (hY1 : 1 ≤ Y) :
    (switchS r.a y - r.off ≤ t → t < switchS r.b y - r.doff → switchS r.b y - r.doff - (switchS r.a y - r.off) < 29376000 → (atYear r t Y).2 = true) ∧
    (switchS r.b y - r.doff ≤ t → t < switchS r.a y - r.off → switchS r.a y - r.off - (switchS r.b y - r.doff) < 29376000 → (atYear r t Y).2 = false) := by
  have a0 := plain_next r.a (y - 2) ha pa (by omega)
  have a1 := plain_next r.a (y - 1) ha pa (by omega)
  have a2 := plain_next r.a y ha pa (by omega)
  have b0 := plain_next r.b (y - 2) hb pb (by omega)
  have b1 := plain_next r.b (y - 1) hb pb (by omega)
  have b2 := plain_next r.b y hb pb (by omega)
  have ia := plain_in r.a y ha pa (by omega)
  have ib := plain_in r.b y hb pb (by omega)
  rw [show y - 2 + 1 = y - 1 by omega] at a0 b0
  rw [show y - 1 + 1 = y by omega] at a1 b1
  have ta := pa.2.2.2
  have tb := pb.2.2.2
  have hin : (begS y * 86400 ≤ t + r.off) → (t + r.off < begS (y + 1) * 86400) → Y = y := by
    intro q1 q2
    exact InYear.one (n := (t + r.off) / 86400) hY1 (by omega) hY ⟨by omega, by omega⟩
  have h0 : ∀ b, Ahead b (false, 0, false) := fun b h => by cases h
  unfold switchS
  constructor
  · intro g1 g2 g3
    have hYy := hin (by omega) (by omega)
    subst hYy
    unfold atYear stepsS yearStep switchS
    have hA : Ahead (dayS2 r.a Y * 86400 + r.a.t - r.off) (seeS t (dayS2 r.b (Y - 1) * 86400 + r.b.t - r.doff) false (seeS t (dayS2 r.a (Y - 1) * 86400 + r.a.t - r.off) true (seeS t (dayS2 r.b (Y - 2) * 86400 + r.b.t - r.doff) false (seeS t (dayS2 r.a (Y - 2) * 86400 + r.a.t - r.off) true (false, 0, false))))) :=
      see_ahead (see_ahead (see_ahead (see_ahead (h0 _) (by omega)) (by omega)) (by omega)) (by omega)
    rw [see_hit (at' := dayS2 r.a Y * 86400 + r.a.t - r.off) g1 hA]
    rw [see_miss (at' := dayS2 r.b Y * 86400 + r.b.t - r.doff) g2, see_miss (at' := dayS2 r.a (Y + 1) * 86400 + r.a.t - r.off) (by omega), see_miss (at' := dayS2 r.b (Y + 1) * 86400 + r.b.t - r.doff) (by omega)]
    rfl
  · intro g1 g2 g3
    have hYy := hin (by omega) (by omega)
    subst hYy
    unfold atYear stepsS yearStep switchS
    have hA : Ahead (dayS2 r.b Y * 86400 + r.b.t - r.doff) (seeS t (dayS2 r.b (Y - 1) * 86400 + r.b.t - r.doff) false (seeS t (dayS2 r.a (Y - 1) * 86400 + r.a.t - r.off) true (seeS t (dayS2 r.b (Y - 2) * 86400 + r.b.t - r.doff) false (seeS t (dayS2 r.a (Y - 2) * 86400 + r.a.t - r.off) true (false, 0, false))))) :=
      see_ahead (see_ahead (see_ahead (see_ahead (h0 _) (by omega)) (by omega)) (by omega)) (by omega)
    rw [see_miss (at' := dayS2 r.a Y * 86400 + r.a.t - r.off) g2]
    rw [see_hit (at' := dayS2 r.b Y * 86400 + r.b.t - r.doff) g1 hA]
    rw [see_miss (at' := dayS2 r.a (Y + 1) * 86400 + r.a.t - r.off) (by omega), see_miss (at' := dayS2 r.b (Y + 1) * 86400 + r.b.t - r.doff) (by omega)]
    rfl
end Go.Proofs.YtpooncihlnllnaaDoor.H

/- Chapter 07: the law FooterYears. -/
import Derived.Test.YtpooncihlnllnaaDoorT1
import Derived.Test.YtpooncihlnllnaaDoorUC
namespace Go.Proofs.YtpooncihlnllnaaDoor.H
open Go.Sh Go.RowKit
set_option linter.unusedSimpArgs false
set_option linter.unusedVariables false

theorem wf16 {n : Int} (h : (Lit.int .u16 n).wf = true) : 0 ≤ n ∧ n ≤ 65535 := by
  simp [Lit.wf, IntKind.min, IntKind.max, IntKind.signed, IntKind.bits] at h
  omega
/-- A year's first day, and the next one's. -/
theorem year_next (y : Int) (hy : 1 ≤ y) : daysS (y + 1) 1 1 = daysS y 1 1 + 365 + (if leapS y = true then 1 else 0) := by
  have hl := leapS_iff y
  unfold daysS
  simp only [if_pos (show (1 : Int) ≤ 2 by omega)]
  by_cases h : leapS y = true
  · rw [if_pos h]
    rw [h] at hl
    have := hl.1 rfl
    omega
  · rw [if_neg h]
    have h' : ¬ (y % 4 = 0 ∧ (y % 100 ≠ 0 ∨ y % 400 = 0)) := fun q => h (hl.2 q)
    omega
/-- A month's first day, a year later. -/
theorem month_next (y m : Int) (hy : 1 ≤ y) (hm : 1 ≤ m ∧ m ≤ 12) : daysS (y + 1) m 1 = daysS y m 1 + 365 ∨ daysS (y + 1) m 1 = daysS y m 1 + 366 := by
  unfold daysS
  by_cases h : m ≤ 2
  · simp only [if_pos h]
    generalize (153 * ((m + 9) % 12) + 2) / 5 = q
    omega
  · simp only [if_neg h]
    generalize (153 * ((m + 9) % 12) + 2) / 5 = q
    omega
theorem longS_next (y m : Int) : -1 ≤ longS (y + 1) m - longS y m ∧ longS (y + 1) m - longS y m ≤ 1 := by
  unfold longS
  split
  · split <;> split <;> omega
  · split <;> omega
theorem day_next (d : DayV) (y : Int) (h : dayOK d = true) (hy : 1 ≤ y ∧ y ≤ 9998) :
    if d.k = 3 then (dayS2 d (y + 1) - dayS2 d y = 364 ∨ dayS2 d (y + 1) - dayS2 d y = 371) else (dayS2 d (y + 1) - dayS2 d y = 365 ∨ dayS2 d (y + 1) - dayS2 d y = 366) := by
  have ho := dayOK_of' h
  have hy1 := year_next y hy.1
  by_cases h3 : d.k = 3
  · rw [if_pos h3]
    have hm : 1 ≤ d.m ∧ d.m ≤ 12 := by omega
    have hw : 1 ≤ d.w ∧ d.w ≤ 5 ∧ 0 ≤ d.d ∧ d.d ≤ 6 := by omega
    have m1 := month_next y d.m hy.1 hm
    have l1 := longS_le y d.m
    have l2 := longS_le (y + 1) d.m
    have l3 := longS_next y d.m
    unfold dayS2
    rw [if_neg (by omega), if_neg (by omega), if_neg (by omega), if_neg (by omega)]
    unfold aheadS
    dsimp only
    generalize daysS (y + 1) d.m 1 = f1 at *
    generalize daysS y d.m 1 = f0 at *
    generalize longS (y + 1) d.m = g1 at *
    generalize longS y d.m = g0 at *
    clear ho hy1 h h3
    split <;> split <;> omega
  · rw [if_neg h3]
    unfold dayS2
    by_cases h2 : d.k = 2
    · rw [if_pos h2, if_pos h2]
      split at hy1 <;> omega
    · have hk1 : d.k = 1 := by omega
      rw [if_neg h2, if_neg h2, if_pos hk1, if_pos hk1]
      have c1 := leapS_iff y
      have c2 := leapS_iff (y + 1)
      by_cases k1 : leapS y = true
      · rw [if_pos k1] at hy1
        have k2 : ¬ leapS (y + 1) = true := by
          intro k2
          have a := c1.1 k1
          have b := c2.1 k2
          omega
        rw [if_neg (by rintro ⟨q, _⟩; exact k2 q)]
        split <;> omega
      · rw [if_neg k1] at hy1
        rw [if_neg (show ¬ (leapS y = true ∧ 59 < d.d) by rintro ⟨q, _⟩; exact k1 q)]
        split <;> omega
theorem footerYears_law (n : Nat) (hn : 200 < n) (d : DayV) (u : Int) (hu : 0 ≤ u ∧ u ≤ 65535) : clepsydralaw07_FooterYears_f n d.k d.m d.w d.d d.t u = some true := by
  unfold clepsydralaw07_FooterYears_f clepsydralaw07_FooterYears_b
  simp (disch := omega) only [wi, tm0]
  rw [switch_val n d _ (by omega), switch_val n d _ (by omega)]
  simp only [Option.bind_some]
  cases h : dayOK d with
  | false =>
    simp only [Bool.false_eq_true, if_false]
    rw [clepsydralaw07_FooterYears_j2, clepsydralaw07_FooterYears_j2_b, show ((2 : Int) != 0) = true from rfl]
    simp only [cond_true, Option.bind_some]
    rw [clepsydralaw07_FooterYears_j1, clepsydralaw07_FooterYears_j1_b, works_val n hn]
    rfl
  | true =>
    rw [if_pos rfl, if_pos rfl, if_pos (by omega), if_pos (by omega)]
    have hd := day_next d (2 + u % 9996) h (by omega)
    have b1 := dayS2_bd d (2 + u % 9996) h (by omega)
    have b2 := dayS2_bd d (2 + u % 9996 + 1) h (by omega)
    have ht := dayOK_of' h
    rw [clepsydralaw07_FooterYears_j2, clepsydralaw07_FooterYears_j2_b, show ((0 : Int) != 0) = false from rfl]
    simp only [cond_false, Option.bind_some]
    unfold switchS
    generalize dayS2 d (2 + u % 9996 + 1) = e1 at *
    generalize dayS2 d (2 + u % 9996) = e0 at *
    have hdiff : e1 * 86400 + d.t - (e0 * 86400 + d.t) = (e1 - e0) * 86400 := by omega
    have hge : 364 ≤ e1 - e0 ∧ e1 - e0 ≤ 371 := by split at hd <;> omega
    rw [hdiff]
    simp (disch := omega) only [wi, td0, tm0]
    rw [show (e1 - e0) * 86400 % 86400 = 0 by omega, show (e1 - e0) * 86400 / 86400 = e1 - e0 by omega, show ((0 : Int) != 0) = false from rfl, cond_false]
    rw [beqI, beqI, beqI, works_val n hn]
    by_cases h3 : d.k = 3
    · rw [cond_pos h3, clepsydralaw07_FooterYears_j0, clepsydralaw07_FooterYears_j0_b, beqI, beqI, works_val n hn]
      rw [if_pos h3] at hd
      rcases hd with hd | hd
      · rw [cond_pos hd]; rfl
      · rw [cond_neg (by omega), cond_pos hd]; rfl
    · rw [cond_neg h3]
      rw [if_neg h3] at hd
      rcases hd with hd | hd
      · rw [cond_pos hd]; rfl
      · rw [cond_neg (by omega), cond_pos hd]; rfl
end Go.Proofs.YtpooncihlnllnaaDoor.H

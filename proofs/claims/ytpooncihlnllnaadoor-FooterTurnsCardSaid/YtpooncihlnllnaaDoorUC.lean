/- Chapter 07: the calendar: what the program's functions of it tell. -/
import Derived.Test.YtpooncihlnllnaaDoorT145
import Derived.Test.YtpooncihlnllnaaDoorU3
namespace Go.Proofs.YtpooncihlnllnaaDoor.H
open Go.Sh Go.RowKit
set_option linter.unusedSimpArgs false
set_option linter.unusedVariables false

/-- What a right day is. -/
theorem dayOK_of' {d : DayV} (h : dayOK d = true) : -604799 ≤ d.t ∧ d.t ≤ 604799 ∧ 0 ≤ d.d ∧ d.d ≤ 365 ∧ 0 ≤ d.m ∧ d.m ≤ 12 ∧ 0 ≤ d.w ∧ d.w ≤ 5 ∧ (d.k = 1 ∨ d.k = 2 ∨ d.k = 3 ∧ 1 ≤ d.m ∧ 1 ≤ d.w ∧ d.d ≤ 6) ∧ (d.k = 1 → 1 ≤ d.d) := by
  unfold dayOK nearB at h
  simp only [Bool.and_eq_true, decide_eq_true_eq] at h
  obtain ⟨⟨h1, h2⟩, h⟩ := h
  split at h
  · simp only [Bool.and_eq_true, decide_eq_true_eq] at h; omega
  · split at h
    · simp only [Bool.and_eq_true, decide_eq_true_eq] at h; omega
    · split at h
      · simp only [Bool.and_eq_true, decide_eq_true_eq] at h; omega
      · cases h
def leapS (y : Int) : Bool := decide (y % 4 = 0) && (decide (y % 100 ≠ 0) || decide (y % 400 = 0))
def longS (y m : Int) : Int := if m = 2 then (if leapS y = true then 29 else 28) else if m = 4 ∨ m = 6 ∨ m = 9 ∨ m = 11 then 30 else 31
/-- Days of a date behind the first one of 1970. -/
def daysS (y m d : Int) : Int :=
  (if m ≤ 2 then y - 1 else y) / 400 * 146097 + ((if m ≤ 2 then y - 1 else y) % 400 * 365 + (if m ≤ 2 then y - 1 else y) % 400 / 4 - (if m ≤ 2 then y - 1 else y) % 400 / 100) + (153 * ((m + 9) % 12) + 2) / 5 + d - 1 - 719468
theorem leapS_iff (y : Int) : leapS y = true ↔ y % 4 = 0 ∧ (y % 100 ≠ 0 ∨ y % 400 = 0) := by
  unfold leapS
  simp only [Bool.and_eq_true, Bool.or_eq_true, decide_eq_true_eq]
theorem leap_val (n : Nat) (y : Int) (h : 0 ≤ y) : civil_leap_f n y = some (leapS y) := by
  unfold civil_leap_f civil_leap_b leapS
  rw [Int.tmod_eq_emod_of_nonneg h, Int.tmod_eq_emod_of_nonneg h, Int.tmod_eq_emod_of_nonneg h, bne, beqI, beqI, beqI]
  by_cases h1 : y % 4 = 0 <;> by_cases h2 : y % 100 = 0 <;> by_cases h3 : y % 400 = 0 <;> simp [h1, h2, h3]
theorem long_j (n : Nat) (y m : Int) (hy : 1 ≤ y ∧ y ≤ 9999) (hm : 1 ≤ m ∧ m ≤ 12) : civil_Long_j0 n y m = some false := by
  rw [civil_Long_j0, civil_Long_j0_b, cond_neg (by omega), cond_neg (by omega), cond_neg (by omega), decide_eq_false (by omega)]
theorem long_val (n : Nat) (y m : Int) (hy : 1 ≤ y ∧ y ≤ 9999) (hm : 1 ≤ m ∧ m ≤ 12) : civil_Long_f n y m = some (longS y m) := by
  unfold civil_Long_f civil_Long_b longS
  rw [long_j n y m hy hm, leap_val n y (by omega)]
  have : m = 1 ∨ m = 2 ∨ m = 3 ∨ m = 4 ∨ m = 5 ∨ m = 6 ∨ m = 7 ∨ m = 8 ∨ m = 9 ∨ m = 10 ∨ m = 11 ∨ m = 12 := by omega
  rcases this with h | h | h | h | h | h | h | h | h | h | h | h <;> subst h
  case inr.inl => cases leapS y <;> rfl
  all_goals rfl
theorem longS_le (y m : Int) : 28 ≤ longS y m ∧ longS y m ≤ 31 := by
  unfold longS
  split
  · split <;> omega
  · split <;> omega
theorem td0 {a b : Int} (h : 0 ≤ a) : a.tdiv b = a / b := Int.tdiv_eq_ediv_of_nonneg h
theorem tm0 {a b : Int} (h : 0 ≤ a) : a.tmod b = a % b := Int.tmod_eq_emod_of_nonneg h
theorem days_val (n : Nat) (y m d : Int) (hy : 1 ≤ y ∧ y ≤ 9999) (hm : 1 ≤ m ∧ m ≤ 12) (hd : 1 ≤ d ∧ d ≤ 31) : civil_days_f n y m d = some (daysS y m d) := by
  unfold civil_days_f civil_days_b civil_behind_f civil_behind_b daysS
  rw [civil_days_j0, civil_days_j0_b]
  by_cases h : m ≤ 2
  · rw [cond_pos h]
    simp only [Option.bind_some, if_pos h]
    simp (disch := omega) only [wi, td0, tm0]
  · rw [cond_neg h]
    simp only [Option.bind_some, if_neg h]
    simp (disch := omega) only [wi, td0, tm0]
theorem cright_val (n : Nat) (y m : Int) (hy : 1 ≤ y ∧ y ≤ 9999) (hm : 1 ≤ m ∧ m ≤ 12) : civil_Right_f n y m 1 = some true := by
  unfold civil_Right_f civil_Right_b
  have := longS_le y m
  rw [cond_pos (by omega), long_val n y m hy hm]
  simp only [Option.bind_some]
  rw [decide_eq_true (by omega)]
theorem Days_val (n : Nat) (y m : Int) (hy : 1 ≤ y ∧ y ≤ 9999) (hm : 1 ≤ m ∧ m ≤ 12) : civil_Days_f n y m 1 = some (daysS y m 1, 0) := by
  unfold civil_Days_f civil_Days_b
  rw [cright_val n y m hy hm, days_val n y m 1 hy hm (by omega)]
  rfl
theorem minus_val (n : Nat) (x : Int) (h : -9223372036854775808 ≤ x ∧ x ≤ 9223372036854775807) : usec_minus_f n x = some (if x < 0 then 1 else 0) := by
  unfold usec_minus_f usec_minus_b
  by_cases hx : x < 0
  · rw [if_pos hx]
    have : IntKind.u64.wrap x = x + 18446744073709551616 := by simp [IntKind.wrap, IntKind.bits, IntKind.signed]; omega
    rw [this, show ((2 : Int) ^ 63) = 9223372036854775808 from rfl, Int.fdiv_eq_ediv_of_nonneg _ (by omega)]
    congr 1
    omega
  · rw [if_neg hx]
    have : IntKind.u64.wrap x = x := by simp [IntKind.wrap, IntKind.bits, IntKind.signed]; omega
    rw [this, show ((2 : Int) ^ 63) = 9223372036854775808 from rfl, Int.fdiv_eq_ediv_of_nonneg _ (by omega)]
    congr 1
    omega
theorem Div_val (n : Nat) (a : Int) (h : -1000000000000 ≤ a ∧ a ≤ 1000000000000) : usec_Div_f n a 7 = some (a / 7, a % 7, true) := by
  unfold usec_Div_f usec_Div_b
  rw [usec_Div_j1, usec_Div_j1_b]
  rw [show ((7 : Int) == 0) = false from rfl, show ((7 : Int) == -1) = false from rfl]
  simp only [cond_false, Option.bind_some]
  have htm : -7 < Int.tmod a 7 ∧ Int.tmod a 7 < 7 := by
    by_cases ha : 0 ≤ a
    · rw [tm0 ha]; omega
    · obtain ⟨b, rfl⟩ : ∃ b : Int, a = -b := ⟨-a, by omega⟩
      rw [Int.neg_tmod, tm0 (by omega)]; omega
  rw [usec_Div_j0, usec_Div_j0_b, minus_val n _ (by omega), minus_val n 7 (by omega)]
  simp only [Option.bind_some]
  by_cases ha : 0 ≤ a
  · rw [tm0 ha, td0 ha]
    rw [if_neg (by omega), if_neg (by omega)]
    simp (disch := omega) only [wi]
    rw [show ((0 : Int) != 0) = false from rfl]
    cases (a % 7 != 0) <;> rfl
  · obtain ⟨b, rfl⟩ : ∃ b : Int, a = -b := ⟨-a, by omega⟩
    rw [Int.neg_tmod, Int.neg_tdiv, tm0 (by omega), td0 (by omega)]
    by_cases hz : b % 7 = 0
    · rw [show (-(b % 7) != 0) = false by simp [hz]]
      simp only [cond_false, Option.bind_some]
      simp (disch := omega) only [wi]
      congr 2
      · omega
      · congr 1
        omega
    · rw [show (-(b % 7) != 0) = true by simp [hz]]
      rw [if_pos (by omega), if_neg (by omega)]
      rw [show ((1 : Int) != 0) = true from rfl]
      simp only [cond_true, Option.bind_some]
      simp (disch := omega) only [wi]
      congr 2
      · omega
      · congr 1
        omega
theorem daysS_bd (y m : Int) (hy : 1 ≤ y ∧ y ≤ 9999) (hm : 1 ≤ m ∧ m ≤ 12) : -800000 ≤ daysS y m 1 ∧ daysS y m 1 ≤ 3000000 := by
  unfold daysS
  by_cases h : m ≤ 2
  · simp only [if_pos h]; omega
  · simp only [if_neg h]; omega
theorem weekday_val (n : Nat) (y m : Int) (hy : 1 ≤ y ∧ y ≤ 9999) (hm : 1 ≤ m ∧ m ≤ 12) : civil_Weekday_f n y m 1 = some ((daysS y m 1 + 3) % 7 + 1) := by
  have hb := daysS_bd y m hy hm
  unfold civil_Weekday_f civil_Weekday_b
  rw [cright_val n y m hy hm, days_val n y m 1 hy hm (by omega)]
  simp only [Option.bind_some, Bool.not_true, cond_false]
  rw [wi (daysS y m 1 + 3) (by omega) (by omega), Div_val n _ (by omega)]
  simp only [Option.bind_some]
  rw [wi _ (by omega) (by omega)]

/-! ### a day of a year -/
/-- How far from the month's first day. -/
def aheadS (y : Int) (d : DayV) : Int :=
  let a := (d.d + 7 - ((daysS y d.m 1 + 3) % 7 + 1) % 7) % 7 + 7 * (d.w - 1)
  if longS y d.m ≤ a then a - 7 else a
def dayS2 (d : DayV) (y : Int) : Int :=
  if d.k = 2 then daysS y 1 1 + d.d
  else if d.k = 1 then (if leapS y = true ∧ 59 < d.d then daysS y 1 1 + d.d else daysS y 1 1 + d.d - 1)
  else daysS y d.m 1 + aheadS y d
def switchS (d : DayV) (y : Int) : Int := dayS2 d y * 86400 + d.t
theorem ahead_loop (n m : Nat) (a l : Int) (hl : 28 ≤ l) (ha : 0 ≤ a ∧ a < 35) : footer_Day_days_l0 n (m + 2) a l = some (if l ≤ a then a - 7 else a) := by
  rw [footer_Day_days_l0, footer_Day_days_l0_b]
  by_cases h : l ≤ a
  · rw [cond_pos (by omega), if_pos h, wi (a - 7) (by omega) (by omega), footer_Day_days_l0, footer_Day_days_l0_b, cond_neg (by omega)]
  · rw [cond_neg (by omega), if_neg h]
theorem Daydays_val (n : Nat) (d : DayV) (y : Int) (hn : 5 < n) (h : dayOK d = true) (hy : 1 ≤ y ∧ y ≤ 9999) : footer_Day_days_f n d.k d.m d.w d.d d.t y = some (dayS2 d y) := by
  have hb := daysS_bd y 1 hy (by omega)
  unfold footer_Day_days_f footer_Day_days_b dayS2
  rw [Days_val n y 1 hy (by omega), long_val n y 2 hy (by omega)]
  simp only [Option.bind_some, beqI]
  have hok := h
  unfold dayOK nearB at hok
  simp only [Bool.and_eq_true, decide_eq_true_eq] at hok
  obtain ⟨⟨t1, t2⟩, hok⟩ := hok
  by_cases h2 : d.k = 2
  · rw [cond_pos h2, if_pos h2]
    rw [if_neg (by omega), if_pos h2] at hok
    simp only [Bool.and_eq_true, decide_eq_true_eq] at hok
    rw [wi _ (by omega) (by omega)]
  · rw [cond_neg h2, if_neg h2]
    by_cases h1 : d.k = 1
    · rw [cond_pos h1, if_pos h1]
      rw [if_pos h1] at hok
      simp only [Bool.and_eq_true, decide_eq_true_eq] at hok
      rw [footer_Day_days_j0, footer_Day_days_j0_b]
      have hl : decide (longS y 2 = 29) = leapS y := by
        unfold longS
        rw [if_pos rfl]
        cases leapS y <;> rfl
      rw [hl]
      cases leapS y with
      | false =>
        simp only [cond_false, Option.bind_some]
        simp (disch := omega) only [wi]
        simp
      | true =>
        simp only [cond_true, Option.bind_some]
        simp (disch := omega) only [wi]
        by_cases h59 : d.d > 59
        · rw [cond_pos h59]; simp [h59]
        · rw [cond_neg h59]; simp [h59]
    · rw [cond_neg h1, if_neg h1]
      rw [if_neg h1, if_neg h2] at hok
      split at hok
      · simp only [Bool.and_eq_true, decide_eq_true_eq] at hok
        have hm : 1 ≤ d.m ∧ d.m ≤ 12 := by omega
        have hlong := longS_le y d.m
        have hdb := daysS_bd y d.m hy hm
        rw [weekday_val n y d.m hy hm, long_val n y d.m hy hm]
        simp only [Option.bind_some]
        simp (disch := omega) only [wi, tm0]
        obtain ⟨k, hk⟩ : ∃ k, n = k + 2 := ⟨n - 2, by omega⟩
        have hl := ahead_loop n k ((d.d + 7 - ((daysS y d.m 1 + 3) % 7 + 1) % 7) % 7 + 7 * (d.w - 1)) (longS y d.m) (by omega) (by omega)
        rw [← hk] at hl
        rw [hl, Days_val n y d.m hy hm]
        simp only [Option.bind_some]
        unfold aheadS
        dsimp only
        split <;> rw [wi _ (by omega) (by omega)]
      · cases hok
theorem dayS2_bd (d : DayV) (y : Int) (h : dayOK d = true) (hy : 1 ≤ y ∧ y ≤ 9999) : -900000 ≤ dayS2 d y ∧ dayS2 d y ≤ 3100000 := by
  have hb := daysS_bd y 1 hy (by omega)
  have ho := dayOK_of' h
  unfold dayS2
  split
  · omega
  · split
    · split <;> omega
    · have hdb := daysS_bd y d.m hy (by omega)
      have hlong := longS_le y d.m
      unfold aheadS
      dsimp only
      split <;> omega
theorem switch_val (n : Nat) (d : DayV) (y : Int) (hn : 5 < n) : footer_Switch_f n d.k d.m d.w d.d d.t y =
    some (if dayOK d = true then (if 2 ≤ y ∧ y ≤ 9998 then (switchS d y, 0) else (0, 30)) else (0, 2)) := by
  unfold footer_Switch_f footer_Switch_b
  rw [dayright_val, show dayOK ⟨d.k, d.m, d.w, d.d, d.t⟩ = dayOK d from rfl]
  simp only [Option.bind_some]
  cases h : dayOK d with
  | false => rfl
  | true =>
    simp only [Bool.not_true, cond_false, if_true]
    rw [footer_Switch_j0, footer_Switch_j0_b]
    by_cases h1 : y < 2
    · rw [cond_pos h1, if_neg (by omega)]; rfl
    · rw [cond_neg h1]
      by_cases h2 : y > 9998
      · rw [decide_eq_true h2, if_neg (by omega)]; rfl
      · rw [decide_eq_false h2, if_pos (by omega)]
        simp only [Option.bind_some, cond_false]
        rw [Daydays_val n d y hn h (by omega)]
        have hb := dayS2_bd d y h (by omega)
        have ho := dayOK_of' h
        simp only [Option.bind_some]
        unfold switchS
        simp (disch := omega) only [wi]
end Go.Proofs.YtpooncihlnllnaaDoor.H

import Derived.Test.YtpooncihlnllnaaGreatDoorT0c
import Derived.Test.YtpooncihlnllnaaGreatDoorMA
import Derived.Test.YtpooncihlnllnaaGreatDoorMB
/- Chapter 07: the calendar: what the program's functions of it tell. -/
namespace Go.Proofs.YtpooncihlnllnaaGreatDoor.H
open Go.Sh Go.RowKit
set_option linter.unusedSimpArgs false
set_option linter.unusedVariables false

/-- What a right day is. -/
theorem dayOK_of' {d : DayV} (h : dayOK d = true) : -604799 ≤ d.t ∧ d.t ≤ 604799 ∧ 0 ≤ d.d ∧ d.d ≤ 365 ∧ 0 ≤ d.m ∧ d.m ≤ 12 ∧ 0 ≤ d.w ∧ d.w ≤ 5 ∧ (d.k = 1 ∨ d.k = 2 ∨ d.k = 3 ∧ 1 ≤ d.m ∧ 1 ≤ d.w ∧ d.d ≤ 6) ∧ (d.k = 1 → 1 ≤ d.d) := by
  unfold dayOK nearB at h
  simp only [Bool.and_eq_true, decide_eq_true_eq] at h
  obtain ⟨⟨h1, h2⟩, h⟩ := h
  split at h
  · simp only [Bool.and_eq_true, decide_eq_true_eq] at h; omega
  · split at h
    · simp only [Bool.and_eq_true, decide_eq_true_eq] at h; omega
    · split at h
      · simp only [Bool.and_eq_true, decide_eq_true_eq] at h; omega
      · cases h
def leapS (y : Int) : Bool := decide (y % 4 = 0) && (decide (y % 100 ≠ 0) || decide (y % 400 = 0))
def longS (y m : Int) : Int := if m = 2 then (if leapS y = true then 29 else 28) else if m = 4 ∨ m = 6 ∨ m = 9 ∨ m = 11 then 30 else 31
/-- Days of a date behind the first one of 1970. -/
def daysS (y m d : Int) : Int :=
  (if m ≤ 2 then y - 1 else y) / 400 * 146097 + ((if m ≤ 2 then y - 1 else y) % 400 * 365 + (if m ≤ 2 then y - 1 else y) % 400 / 4 - (if m ≤ 2 then y - 1 else y) % 400 / 100) + (153 * ((m + 9) % 12) + 2) / 5 + d - 1 - 719468
theorem leapS_iff (y : Int) : leapS y = true ↔ y % 4 = 0 ∧ (y % 100 ≠ 0 ∨ y % 400 = 0) := by
  unfold leapS
  simp only [Bool.and_eq_true, Bool.or_eq_true, decide_eq_true_eq]
theorem leap_val (n : Nat) (y : Int) (h : 0 ≤ y) : civil_leap_f n y = some (leapS y) := by
  unfold civil_leap_f civil_leap_b leapS
  rw [Int.tmod_eq_emod_of_nonneg h, Int.tmod_eq_emod_of_nonneg h, Int.tmod_eq_emod_of_nonneg h, bne, beqI, beqI, beqI]
  by_cases h1 : y % 4 = 0 <;> by_cases h2 : y % 100 = 0 <;> by_cases h3 : y % 400 = 0 <;> simp [h1, h2, h3]
theorem long_j (n : Nat) (y m : Int) (hy : 1 ≤ y ∧ y ≤ 9999) (hm : 1 ≤ m ∧ m ≤ 12) : civil_Long_j0 n y m = some false := by
  rw [civil_Long_j0, civil_Long_j0_b, cond_neg (by omega), cond_neg (by omega), cond_neg (by omega), decide_eq_false (by omega)]
theorem long_val (n : Nat) (y m : Int) (hy : 1 ≤ y ∧ y ≤ 9999) (hm : 1 ≤ m ∧ m ≤ 12) : civil_Long_f n y m = some (longS y m) := by
  unfold civil_Long_f civil_Long_b longS
  rw [long_j n y m hy hm, leap_val n y (by omega)]
  have : m = 1 ∨ m = 2 ∨ m = 3 ∨ m = 4 ∨ m = 5 ∨ m = 6 ∨ m = 7 ∨ m = 8 ∨ m = 9 ∨ m = 10 ∨ m = 11 ∨ m = 12 := by omega
  rcases this with h | h | h | h | h | h | h | h | h | h | h | h <;> subst h
  case inr.inl => cases leapS y <;> rfl
  all_goals rfl
theorem longS_le (y m : Int) : 28 ≤ longS y m ∧ longS y m ≤ 31 := by
  unfold longS
  split
  · split <;> omega
  · split <;> omega
theorem td0 {a b : Int} (h : 0 ≤ a) : a.tdiv b = a / b := Int.tdiv_eq_ediv_of_nonneg h
theorem tm0 {a b : Int} (h : 0 ≤ a) : a.tmod b = a % b := Int.tmod_eq_emod_of_nonneg h
theorem days_val (n : Nat) (y m d : Int) (hy : 1 ≤ y ∧ y ≤ 9999) (hm : 1 ≤ m ∧ m ≤ 12) (hd : 1 ≤ d ∧ d ≤ 31) : civil_days_f n y m d = some (daysS y m d) := by
  unfold civil_days_f civil_days_b civil_behind_f civil_behind_b daysS
  rw [civil_days_j0, civil_days_j0_b]
  by_cases h : m ≤ 2
  · rw [cond_pos h]
    simp only [Option.bind_some, if_pos h]
    simp (disch := omega) only [wi, td0, tm0]
  · rw [cond_neg h]
    simp only [Option.bind_some, if_neg h]
    simp (disch := omega) only [wi, td0, tm0]
theorem cright_val (n : Nat) (y m : Int) (hy : 1 ≤ y ∧ y ≤ 9999) (hm : 1 ≤ m ∧ m ≤ 12) : civil_Right_f n y m 1 = some true := by
  unfold civil_Right_f civil_Right_b
  have := longS_le y m
  rw [cond_pos (by omega), long_val n y m hy hm]
  simp only [Option.bind_some]
  rw [decide_eq_true (by omega)]
theorem Days_val (n : Nat) (y m : Int) (hy : 1 ≤ y ∧ y ≤ 9999) (hm : 1 ≤ m ∧ m ≤ 12) : civil_Days_f n y m 1 = some (daysS y m 1, 0) := by
  unfold civil_Days_f civil_Days_b
  rw [cright_val n y m hy hm, days_val n y m 1 hy hm (by omega)]
  rfl
theorem minus_val (n : Nat) (x : Int) (h : -9223372036854775808 ≤ x ∧ x ≤ 9223372036854775807) : usec_minus_f n x = some (if x < 0 then 1 else 0) := by
  unfold usec_minus_f usec_minus_b
  by_cases hx : x < 0
  · rw [if_pos hx]
    have : IntKind.u64.wrap x = x + 18446744073709551616 := by simp [IntKind.wrap, IntKind.bits, IntKind.signed]; omega
    rw [this, show ((2 : Int) ^ 63) = 9223372036854775808 from rfl, Int.fdiv_eq_ediv_of_nonneg _ (by omega)]
    congr 1
    omega
  · rw [if_neg hx]
    have : IntKind.u64.wrap x = x := by simp [IntKind.wrap, IntKind.bits, IntKind.signed]; omega
    rw [this, show ((2 : Int) ^ 63) = 9223372036854775808 from rfl, Int.fdiv_eq_ediv_of_nonneg _ (by omega)]
    congr 1
    omega
theorem Div_val (n : Nat) (a : Int) (h : -1000000000000 ≤ a ∧ a ≤ 1000000000000) : usec_Div_f n a 7 = some (a / 7, a % 7, true) := by
  unfold usec_Div_f usec_Div_b
  rw [usec_Div_j1, usec_Div_j1_b]
  rw [show ((7 : Int) == 0) = false from rfl, show ((7 : Int) == -1) = false from rfl]
  simp only [cond_false, Option.bind_some]
  have htm : -7 < Int.tmod a 7 ∧ Int.tmod a 7 < 7 := by
    by_cases ha : 0 ≤ a
    · rw [tm0 ha]; omega
    · obtain ⟨b, rfl⟩ : ∃ b : Int, a = -b := ⟨-a, by omega⟩
      rw [Int.neg_tmod, tm0 (by omega)]; omega
  rw [usec_Div_j0, usec_Div_j0_b, minus_val n _ (by omega), minus_val n 7 (by omega)]
  simp only [Option.bind_some]
  by_cases ha : 0 ≤ a
  · rw [tm0 ha, td0 ha]
    rw [if_neg (by omega), if_neg (by omega)]
    simp (disch := omega) only [wi]
    rw [show ((0 : Int) != 0) = false from rfl]
    cases (a % 7 != 0) <;> rfl
  · obtain ⟨b, rfl⟩ : ∃ b : Int, a = -b := ⟨-a, by omega⟩
    rw [Int.neg_tmod, Int.neg_tdiv, tm0 (by omega), td0 (by omega)]
    by_cases hz : b % 7 = 0
    · rw [show (-(b % 7) != 0) = false by simp [hz]]
      simp only [cond_false, Option.bind_some]
      simp (disch := omega) only [wi]
      congr 2
      · omega
      · congr 1
        omega
    · rw [show (-(b % 7) != 0) = true by simp [hz]]
      rw [if_pos (by omega), if_neg (by omega)]
      rw [show ((1 : Int) != 0) = true from rfl]
      simp only [cond_true, Option.bind_some]
      simp (disch := omega) only [wi]
      congr 2
      · omega
      · congr 1
        omega
theorem daysS_bd (y m : Int) (hy : 1 ≤ y ∧ y ≤ 9999) (hm : 1 ≤ m ∧ m ≤ 12) : -800000 ≤ daysS y m 1 ∧ daysS y m 1 ≤ 3000000 := by
  unfold daysS
  by_cases h : m ≤ 2
  · simp only [if_pos h]; omega
  · simp only [if_neg h]; omega
theorem weekday_val (n : Nat) (y m : Int) (hy : 1 ≤ y ∧ y ≤ 9999) (hm : 1 ≤ m ∧ m ≤ 12) : civil_Weekday_f n y m 1 = some ((daysS y m 1 + 3) % 7 + 1) := by
  have hb := daysS_bd y m hy hm
  unfold civil_Weekday_f civil_Weekday_b
  rw [cright_val n y m hy hm, days_val n y m 1 hy hm (by omega)]
  simp only [Option.bind_some, Bool.not_true, cond_false]
  rw [wi (daysS y m 1 + 3) (by omega) (by omega), Div_val n _ (by omega)]
  simp only [Option.bind_some]
  rw [wi _ (by omega) (by omega)]

/-! ### a day of a year -/
/-- How far from the month's first day. -/
def aheadS (y : Int) (d : DayV) : Int :=
  let a := (d.d + 7 - ((daysS y d.m 1 + 3) % 7 + 1) % 7) % 7 + 7 * (d.w - 1)
  if longS y d.m ≤ a then a - 7 else a
def dayS2 (d : DayV) (y : Int) : Int :=
  if d.k = 2 then daysS y 1 1 + d.d
  else if d.k = 1 then (if leapS y = true ∧ 59 < d.d then daysS y 1 1 + d.d else daysS y 1 1 + d.d - 1)
  else daysS y d.m 1 + aheadS y d
def switchS (d : DayV) (y : Int) : Int := dayS2 d y * 86400 + d.t
theorem ahead_loop (n m : Nat) (a l : Int) (hl : 28 ≤ l) (ha : 0 ≤ a ∧ a < 35) : footer_Day_days_l0 n (m + 2) a l = some (if l ≤ a then a - 7 else a) := by
  rw [footer_Day_days_l0, footer_Day_days_l0_b]
  by_cases h : l ≤ a
  · rw [cond_pos (by omega), if_pos h, wi (a - 7) (by omega) (by omega), footer_Day_days_l0, footer_Day_days_l0_b, cond_neg (by omega)]
  · rw [cond_neg (by omega), if_neg h]
theorem Daydays_val (n : Nat) (d : DayV) (y : Int) (hn : 5 < n) (h : dayOK d = true) (hy : 1 ≤ y ∧ y ≤ 9999) : footer_Day_days_f n d.k d.m d.w d.d d.t y = some (dayS2 d y) := by
  have hb := daysS_bd y 1 hy (by omega)
  unfold footer_Day_days_f footer_Day_days_b dayS2
  rw [Days_val n y 1 hy (by omega), long_val n y 2 hy (by omega)]
  simp only [Option.bind_some, beqI]
  have hok := h
  unfold dayOK nearB at hok
  simp only [Bool.and_eq_true, decide_eq_true_eq] at hok
  obtain ⟨⟨t1, t2⟩, hok⟩ := hok
  by_cases h2 : d.k = 2
  · rw [cond_pos h2, if_pos h2]
    rw [if_neg (by omega), if_pos h2] at hok
    simp only [Bool.and_eq_true, decide_eq_true_eq] at hok
    rw [wi _ (by omega) (by omega)]
  · rw [cond_neg h2, if_neg h2]
    by_cases h1 : d.k = 1
    · rw [cond_pos h1, if_pos h1]
      rw [if_pos h1] at hok
      simp only [Bool.and_eq_true, decide_eq_true_eq] at hok
      rw [footer_Day_days_j0, footer_Day_days_j0_b]
      have hl : decide (longS y 2 = 29) = leapS y := by
        unfold longS
        rw [if_pos rfl]
        cases leapS y <;> rfl
      rw [hl]
      cases leapS y with
      | false =>
        simp only [cond_false, Option.bind_some]
        simp (disch := omega) only [wi]
        simp
      | true =>
        simp only [cond_true, Option.bind_some]
        simp (disch := omega) only [wi]
        by_cases h59 : d.d > 59
        · rw [cond_pos h59]; simp [h59]
        · rw [cond_neg h59]; simp [h59]
    · rw [cond_neg h1, if_neg h1]
      rw [if_neg h1, if_neg h2] at hok
      split at hok
      · simp only [Bool.and_eq_true, decide_eq_true_eq] at hok
        have hm : 1 ≤ d.m ∧ d.m ≤ 12 := by omega
        have hlong := longS_le y d.m
        have hdb := daysS_bd y d.m hy hm
        rw [weekday_val n y d.m hy hm, long_val n y d.m hy hm]
        simp only [Option.bind_some]
        simp (disch := omega) only [wi, tm0]
        obtain ⟨k, hk⟩ : ∃ k, n = k + 2 := ⟨n - 2, by omega⟩
        have hl := ahead_loop n k ((d.d + 7 - ((daysS y d.m 1 + 3) % 7 + 1) % 7) % 7 + 7 * (d.w - 1)) (longS y d.m) (by omega) (by omega)
        rw [← hk] at hl
        rw [hl, Days_val n y d.m hy hm]
        simp only [Option.bind_some]
        unfold aheadS
        dsimp only
        split <;> rw [wi _ (by omega) (by omega)]
      · cases hok
theorem dayS2_bd (d : DayV) (y : Int) (h : dayOK d = true) (hy : 1 ≤ y ∧ y ≤ 9999) : -900000 ≤ dayS2 d y ∧ dayS2 d y ≤ 3100000 := by
  have hb := daysS_bd y 1 hy (by omega)
  have ho := dayOK_of' h
  unfold dayS2
  split
  · omega
  · split
    · split <;> omega
    · have hdb := daysS_bd y d.m hy (by omega)
      have hlong := longS_le y d.m
      unfold aheadS
      dsimp only
      split <;> omega
theorem switch_val (n : Nat) (d : DayV) (y : Int) (hn : 5 < n) : footer_Switch_f n d.k d.m d.w d.d d.t y =
    some (if dayOK d = true then (if 2 ≤ y ∧ y ≤ 9998 then (switchS d y, 0) else (0, 30)) else (0, 2)) := by
  unfold footer_Switch_f footer_Switch_b
  rw [dayright_val, show dayOK ⟨d.k, d.m, d.w, d.d, d.t⟩ = dayOK d from rfl]
  simp only [Option.bind_some]
  cases h : dayOK d with
  | false => rfl
  | true =>
    simp only [Bool.not_true, cond_false, if_true]
    rw [footer_Switch_j0, footer_Switch_j0_b]
    by_cases h1 : y < 2
    · rw [cond_pos h1, if_neg (by omega)]; rfl
    · rw [cond_neg h1]
      by_cases h2 : y > 9998
      · rw [decide_eq_true h2, if_neg (by omega)]; rfl
      · rw [decide_eq_false h2, if_pos (by omega)]
        simp only [Option.bind_some, cond_false]
        rw [Daydays_val n d y hn h (by omega)]
        have hb := dayS2_bd d y h (by omega)
        have ho := dayOK_of' h
        simp only [Option.bind_some]
        unfold switchS
        simp (disch := omega) only [wi]
end Go.Proofs.YtpooncihlnllnaaGreatDoor.H

/- Chapter 07: the first days of years. -/
namespace Go.Proofs.YtpooncihlnllnaaGreatDoor.H
open Go.Sh Go.RowKit
set_option linter.unusedSimpArgs false
set_option linter.unusedVariables false

/-- The first day of a year. -/
def begS (y : Int) : Int := daysS y 1 1
theorem begS_eq (y : Int) : begS y = (y - 1) / 400 * 146097 + ((y - 1) % 400 * 365 + (y - 1) % 400 / 4 - (y - 1) % 400 / 100) + 306 - 719468 := by
  unfold begS daysS
  simp only [if_pos (show (1 : Int) ≤ 2 by omega)]
  omega
theorem begS_next (y : Int) (hy : 1 ≤ y) : begS (y + 1) = begS y + 365 + (if leapS y = true then 1 else 0) := by
  have hl := leapS_iff y
  rw [begS_eq, begS_eq]
  by_cases h : leapS y = true
  · rw [if_pos h]
    rw [h] at hl
    have := hl.1 rfl
    omega
  · rw [if_neg h]
    have h' : ¬ (y % 4 = 0 ∧ (y % 100 ≠ 0 ∨ y % 400 = 0)) := fun q => h (hl.2 q)
    omega
theorem begS_bd (y : Int) (hy : 1 ≤ y ∧ y ≤ 10001) : -800000 ≤ begS y ∧ begS y ≤ 3000000 := by
  rw [begS_eq]
  omega
theorem begS_1970 : begS 1970 = 0 := by decide +kernel
theorem begS_mono : ∀ (k : Nat) (y : Int), 1 ≤ y → begS y + 365 * (k : Int) ≤ begS (y + k) ∧ begS (y + k) ≤ begS y + 366 * (k : Int)
  | 0, y, _ => by simp
  | k + 1, y, h => by
    have h1 := begS_mono k y h
    have h2 := begS_next (y + k) (by omega)
    rw [show y + ((k + 1 : Nat) : Int) = y + (k : Int) + 1 by omega]
    split at h2 <;> omega
theorem begS_lt {a b : Int} (ha : 1 ≤ a) (h : a ≤ b) : begS a ≤ begS b := by
  obtain ⟨k, hk⟩ : ∃ k : Nat, b = a + k := ⟨(b - a).toNat, by omega⟩
  have := (begS_mono k a ha).1
  rw [hk]
  omega
/-- The day is one of the year. -/
def InYear (y n : Int) : Prop := begS y ≤ n ∧ n < begS (y + 1)
theorem InYear.one {a b n : Int} (ha : 1 ≤ a) (hb : 1 ≤ b) (h1 : InYear a n) (h2 : InYear b n) : a = b := by
  by_cases h : a < b
  · have := begS_lt (a := a + 1) (b := b) (by omega) (by omega)
    have := h1.2
    have := h2.1
    omega
  · by_cases h' : b < a
    · have := begS_lt (a := b + 1) (b := a) (by omega) (by omega)
      have := h2.2
      have := h1.1
      omega
    · omega
end Go.Proofs.YtpooncihlnllnaaGreatDoor.H

/- Chapter 07: the calendar, as the reference counts it. -/
namespace Go.Proofs.YtpooncihlnllnaaGreatDoor.H
open Go.Sh Go.RowKit
set_option linter.unusedSimpArgs false
set_option linter.unusedVariables false

theorem rleap_val (n : Nat) (y : Int) (h : 0 ≤ y) : clepsydraref07_leap_f n y = some (leapS y) := by
  unfold clepsydraref07_leap_f clepsydraref07_leap_b leapS
  rw [Int.tmod_eq_emod_of_nonneg h, Int.tmod_eq_emod_of_nonneg h, Int.tmod_eq_emod_of_nonneg h, bne, beqI, beqI, beqI]
  by_cases h1 : y % 4 = 0 <;> by_cases h2 : y % 100 = 0 <;> by_cases h3 : y % 400 = 0 <;> simp [h1, h2, h3]
theorem begins_up (n : Nat) (y : Int) (hy : 1970 ≤ y ∧ y ≤ 10000) : ∀ (m : Nat) (k : Int), (y - k).toNat < m → 1970 ≤ k ∧ k ≤ y → clepsydraref07_begins_l1 n m y (begS k) k = some (begS y)
  | 0, k, h, _ => by omega
  | m + 1, k, h, hk => by
    rw [clepsydraref07_begins_l1, clepsydraref07_begins_l1_b]
    by_cases hlt : k < y
    · have hb := begS_bd k (by omega)
      have hn := begS_next k (by omega)
      rw [cond_pos hlt, clepsydraref07_begins_j1, clepsydraref07_begins_j1_b, rleap_val n k (by omega)]
      simp only [Option.bind_some]
      have hnext := begins_up n y hy m (k + 1) (by omega) (by omega)
      cases hl : leapS k with
      | true =>
        rw [hl, if_pos rfl] at hn
        simp only [cond_true, Option.bind_some]
        simp (disch := omega) only [wi]
        rw [← hn]
        exact hnext
      | false =>
        rw [hl, if_neg (by simp)] at hn
        simp only [cond_false, Option.bind_some]
        simp (disch := omega) only [wi]
        rw [show begS k + 365 = begS (k + 1) by omega]
        exact hnext
    · rw [cond_neg hlt, show k = y by omega]
theorem begins_down (n : Nat) (y : Int) (hy : 1 ≤ y ∧ y ≤ 1970) : ∀ (m : Nat) (k : Int), (1970 - k).toNat < m → y ≤ k ∧ k ≤ 1970 → clepsydraref07_begins_l0 n m (begS y - begS k) k = some (begS y)
  | 0, k, h, _ => by omega
  | m + 1, k, h, hk => by
    rw [clepsydraref07_begins_l0, clepsydraref07_begins_l0_b]
    by_cases hlt : k < 1970
    · have hb := begS_bd k (by omega)
      have hb2 := begS_bd y (by omega)
      have hn := begS_next k (by omega)
      rw [cond_pos hlt, clepsydraref07_begins_j0, clepsydraref07_begins_j0_b, rleap_val n k (by omega)]
      simp only [Option.bind_some]
      have hnext := begins_down n y hy m (k + 1) (by omega) (by omega)
      cases hl : leapS k with
      | true =>
        rw [hl, if_pos rfl] at hn
        simp only [cond_true, Option.bind_some]
        simp (disch := omega) only [wi]
        rw [show begS y - begS k - 365 - 1 = begS y - begS (k + 1) by omega]
        exact hnext
      | false =>
        rw [hl, if_neg (by simp)] at hn
        simp only [cond_false, Option.bind_some]
        simp (disch := omega) only [wi]
        rw [show begS y - begS k - 365 = begS y - begS (k + 1) by omega]
        exact hnext
    · rw [cond_neg hlt, show k = 1970 by omega, begS_1970, Int.sub_zero]
theorem begins_val (n : Nat) (y : Int) (hn : 10000 < n) (hy : 1 ≤ y ∧ y ≤ 10000) : clepsydraref07_begins_f n y = some (begS y) := by
  unfold clepsydraref07_begins_f clepsydraref07_begins_b
  obtain ⟨k, hk⟩ : ∃ k, n = k + 1 := ⟨n - 1, by omega⟩
  by_cases h : 1970 ≤ y
  · have h1 := begins_up n y (by omega) n 1970 (by omega) (by omega)
    rw [begS_1970] at h1
    rw [h1]
    simp only [Option.bind_some]
    conv => lhs; arg 1; arg 2; rw [hk]
    rw [clepsydraref07_begins_l0, clepsydraref07_begins_l0_b, cond_neg (by omega)]
    rfl
  · have h1 : clepsydraref07_begins_l1 n n y 0 1970 = some 0 := by
      conv => lhs; arg 2; rw [hk]
      rw [clepsydraref07_begins_l1, clepsydraref07_begins_l1_b, cond_neg (by omega)]
    have h2 := begins_down n y (by omega) n y (by omega) (by omega)
    rw [Int.sub_self] at h2
    rw [h1]
    simp only [Option.bind_some]
    rw [h2]
    rfl
theorem rlong_val (n : Nat) (y m : Int) (hy : 0 ≤ y) (hm : 1 ≤ m ∧ m ≤ 12) : clepsydraref07_long_f n y m = some (longS y m) := by
  unfold clepsydraref07_long_f clepsydraref07_long_b longS
  rw [rleap_val n y hy]
  have : m = 1 ∨ m = 2 ∨ m = 3 ∨ m = 4 ∨ m = 5 ∨ m = 6 ∨ m = 7 ∨ m = 8 ∨ m = 9 ∨ m = 10 ∨ m = 11 ∨ m = 12 := by omega
  rcases this with h | h | h | h | h | h | h | h | h | h | h | h <;> subst h
  case inr.inl => cases leapS y <;> rfl
  all_goals rfl

/-! ### months -/
theorem month_step (y m : Int) (hy : 1 ≤ y) (hm : 1 ≤ m ∧ m ≤ 11) : daysS y (m + 1) 1 = daysS y m 1 + longS y m := by
  have : m = 1 ∨ m = 2 ∨ m = 3 ∨ m = 4 ∨ m = 5 ∨ m = 6 ∨ m = 7 ∨ m = 8 ∨ m = 9 ∨ m = 10 ∨ m = 11 := by omega
  unfold longS
  have hl := leapS_iff y
  rcases this with h | h | h | h | h | h | h | h | h | h | h <;> subst h
  case inr.inl =>
    rw [if_pos rfl]
    unfold daysS
    simp only [if_neg (show ¬ ((2 : Int) + 1 ≤ 2) by omega), if_pos (show (2 : Int) ≤ 2 by omega)]
    by_cases h : leapS y = true
    · rw [if_pos h]
      rw [h] at hl
      have := hl.1 rfl
      omega
    · rw [if_neg h]
      have h' : ¬ (y % 4 = 0 ∧ (y % 100 ≠ 0 ∨ y % 400 = 0)) := fun q => h (hl.2 q)
      omega
  all_goals (unfold daysS; simp; try omega)
theorem month_loop (n : Nat) (d : DayV) (y : Int) (hy : 1 ≤ y ∧ y ≤ 9999) (hd : 1 ≤ d.m ∧ d.m ≤ 12) : ∀ (q : Nat) (m : Int), (d.m - m).toNat < q → 1 ≤ m ∧ m ≤ d.m →
    clepsydraref07_Switch_l1 n q y (daysS y m 1) m d.k d.m d.w d.d d.t = some (daysS y d.m 1, d.k, d.m, d.w, d.d, d.t)
  | 0, m, h, _ => by omega
  | q + 1, m, h, hm => by
    rw [clepsydraref07_Switch_l1, clepsydraref07_Switch_l1_b]
    by_cases hlt : m < d.m
    · have hb := daysS_bd y m hy (by omega)
      have hl := longS_le y m
      rw [cond_pos hlt, rlong_val n y m (by omega) (by omega)]
      simp only [Option.bind_some]
      simp (disch := omega) only [wi]
      rw [← month_step y m hy.1 (by omega)]
      exact month_loop n d y hy hd q (m + 1) (by omega) (by omega)
    · rw [cond_neg hlt, show m = d.m by omega]
/-- How often the day has been seen ahead of the k-th. -/
def seenS (r w k : Int) : Int := if k ≤ r then 0 else if (k - 1 - r) / 7 + 1 ≤ w then (k - 1 - r) / 7 + 1 else w
theorem wday (x : Int) (h : -1000000000 ≤ x ∧ x ≤ 1000000000) : Int.tmod (IntKind.i64.wrap (Int.tmod x 7 + 7)) 7 = x % 7 := by
  by_cases hx : 0 ≤ x
  · rw [tm0 hx, wi _ (by omega) (by omega), tm0 (by omega)]
    omega
  · obtain ⟨b, rfl⟩ : ∃ b : Int, x = -b := ⟨-x, by omega⟩
    rw [Int.neg_tmod, tm0 (show (0 : Int) ≤ b by omega), wi _ (by omega) (by omega), tm0 (by omega)]
    omega
theorem week_loop (n : Nat) (d : DayV) (y f r : Int) (hy : 1 ≤ y ∧ y ≤ 9999) (hm : 1 ≤ d.m ∧ d.m ≤ 12) (hw : 1 ≤ d.w ∧ d.w ≤ 5) (hd : 0 ≤ d.d ∧ d.d ≤ 6) (hf : -800000 ≤ f ∧ f ≤ 3000000) (hr : r = (d.d - (f + 4)) % 7) :
    ∀ (q : Nat) (k : Int), (longS y d.m - k).toNat < q → 0 ≤ k ∧ k ≤ longS y d.m →
    clepsydraref07_Switch_l0 n q y f (if seenS r d.w k = 0 then -1 else f + r + 7 * (seenS r d.w k - 1)) (seenS r d.w k) k d.k d.m d.w d.d d.t
      = some (f + r + 7 * (seenS r d.w (longS y d.m) - 1), d.k, d.m, d.w, d.d, d.t)
  | 0, k, h, _ => by omega
  | q + 1, k, h, hk => by
    have hl := longS_le y d.m
    rw [clepsydraref07_Switch_l0, clepsydraref07_Switch_l0_b, rlong_val n y d.m (by omega) hm]
    simp only [Option.bind_some]
    by_cases hlt : k < longS y d.m
    · rw [cond_pos hlt, clepsydraref07_Switch_j2, clepsydraref07_Switch_j2_b]
      rw [wi (f + k) (by omega) (by omega), wi (f + k + 4) (by omega) (by omega), wday _ (by omega)]
      rw [clepsydraref07_Switch_j1, clepsydraref07_Switch_j1_b, beqI]
      have hnext := week_loop n d y f r hy hm hw hd hf hr q (k + 1) (by omega) (by omega)
      have hs0 : 0 ≤ seenS r d.w k ∧ seenS r d.w k ≤ 5 := by unfold seenS; split <;> (try split) <;> omega
      rw [wi (k + 1) (by omega) (by omega)]
      by_cases hday : (f + k + 4) % 7 = d.d
      · rw [cond_pos hday]
        simp only [Option.bind_some]
        by_cases hsn : seenS r d.w k < d.w
        · have e1 : seenS r d.w (k + 1) = seenS r d.w k + 1 := by
            revert hsn
            unfold seenS
            split <;> split <;> (try split) <;> (try split) <;> omega
          have e2 : f + k = f + r + 7 * (seenS r d.w (k + 1) - 1) := by
            revert hsn
            unfold seenS
            split <;> split <;> (try split) <;> (try split) <;> omega
          rw [decide_eq_true hsn]
          simp only [cond_true, Option.bind_some]
          rw [wi (seenS r d.w k + 1) (by omega) (by omega), ← e1]
          rw [if_neg (by omega), ← e2] at hnext
          exact hnext
        · have e1 : seenS r d.w (k + 1) = seenS r d.w k := by
            revert hsn
            unfold seenS
            split <;> split <;> (try split) <;> (try split) <;> omega
          rw [decide_eq_false hsn]
          simp only [cond_false, Option.bind_some]
          rw [e1] at hnext
          exact hnext
      · have e1 : seenS r d.w (k + 1) = seenS r d.w k := by
          unfold seenS
          split <;> split <;> (try split) <;> (try split) <;> omega
        rw [cond_neg hday]
        simp only [Option.bind_some, cond_false]
        rw [e1] at hnext
        exact hnext
    · rw [cond_neg hlt]
      have hkl : k = longS y d.m := by omega
      subst hkl
      have : seenS r d.w (longS y d.m) ≠ 0 := by
        unfold seenS
        split <;> (try split) <;> omega
      rw [if_neg this]
theorem rswitch_val (n : Nat) (d : DayV) (y : Int) (hn : 10000 < n) (h : dayOK d = true) (hy : 1 ≤ y ∧ y ≤ 9999) : clepsydraref07_Switch_f n d.k d.m d.w d.d d.t y = some (switchS d y) := by
  have ho := dayOK_of' h
  have hb := begS_bd y (by omega)
  have h2b := dayS2_bd d y h hy
  unfold clepsydraref07_Switch_f clepsydraref07_Switch_b switchS
  rw [begins_val n y hn (by omega)]
  simp only [Option.bind_some, beqI]
  by_cases h1 : d.k = 1
  · rw [cond_pos h1, clepsydraref07_Switch_j0, clepsydraref07_Switch_j0_b, rleap_val n y (by omega)]
    unfold dayS2
    rw [if_neg (show ¬ d.k = 2 by omega), if_pos h1]
    change _ = some ((if leapS y = true ∧ 59 < d.d then begS y + d.d else begS y + d.d - 1) * 86400 + d.t)
    cases hl : leapS y with
    | false =>
      simp only [Option.bind_some, cond_false]
      simp (disch := omega) only [wi]
      simp
    | true =>
      simp only [Option.bind_some, cond_true]
      by_cases h59 : d.d > 59
      · rw [decide_eq_true h59, cond_true, if_pos ⟨trivial, h59⟩]
        simp (disch := omega) only [wi]
        rw [show begS y + d.d - 1 + 1 = begS y + d.d by omega]
      · rw [decide_eq_false h59, cond_false, if_neg (by rintro ⟨_, q⟩; exact h59 q)]
        simp (disch := omega) only [wi]
  · rw [cond_neg h1]
    by_cases h2 : d.k = 2
    · rw [cond_pos h2]
      unfold dayS2
      rw [if_pos h2]
      change _ = some ((begS y + d.d) * 86400 + d.t)
      simp (disch := omega) only [wi]
    · have h3 : d.k = 3 := by omega
      rw [cond_neg h2, cond_pos h3]
      have hm : 1 ≤ d.m ∧ d.m ≤ 12 := by omega
      have hw : 1 ≤ d.w ∧ d.w ≤ 5 := by omega
      have hfb := daysS_bd y d.m hy hm
      have hl := longS_le y d.m
      rw [show begS y = daysS y 1 1 from rfl, month_loop n d y hy hm n 1 (by omega) (by omega)]
      simp only [Option.bind_some]
      have hk := week_loop n d y (daysS y d.m 1) _ hy hm hw (by omega) hfb rfl n 0 (by omega) (by omega)
      generalize hr : (d.d - (daysS y d.m 1 + 4)) % 7 = r at hk
      have hr' : 0 ≤ r ∧ r < 7 := by omega
      have hs0 : seenS r d.w 0 = 0 := by unfold seenS; rw [if_pos (by omega)]
      rw [hs0, if_pos rfl] at hk
      rw [hk]
      have e : dayS2 d y = daysS y d.m 1 + r + 7 * (seenS r d.w (longS y d.m) - 1) := by
        unfold dayS2
        rw [if_neg h2, if_neg h1]
        unfold aheadS seenS
        dsimp only
        rw [if_neg (show ¬ longS y d.m ≤ r by omega)]
        have e1 : (d.d + 7 - ((daysS y d.m 1 + 3) % 7 + 1) % 7) % 7 = r := by omega
        rw [e1]
        split <;> split <;> omega
      simp only [Option.bind_some]
      rw [← e]
      simp (disch := omega) only [wi]
end Go.Proofs.YtpooncihlnllnaaGreatDoor.H

/- Chapter 07: the offset that holds, as the program tells it. -/
namespace Go.Proofs.YtpooncihlnllnaaGreatDoor.H
open Go.Sh Go.RowKit
set_option linter.unusedSimpArgs false
set_option linter.unusedVariables false

theorem floor_val (n : Nat) (a : Int) (h : -1000000000000 ≤ a ∧ a ≤ 1000000000000) : footer_floor_f n a 86400 = some (a / 86400) := by
  unfold footer_floor_f footer_floor_b
  rw [show ((86400 : Int) == 0) = false from rfl]
  simp only [cond_false]
  by_cases ha : 0 ≤ a
  · rw [tm0 ha, td0 ha, cond_neg (by omega), wi _ (by omega) (by omega)]
  · obtain ⟨b, rfl⟩ : ∃ b : Int, a = -b := ⟨-a, by omega⟩
    rw [Int.neg_tmod, Int.neg_tdiv, tm0 (by omega), td0 (by omega)]
    by_cases hz : b % 86400 = 0
    · rw [cond_neg (by omega), wi _ (by omega) (by omega)]
      congr 1
      omega
    · rw [cond_pos (by omega)]
      simp (disch := omega) only [wi]
      congr 1
      omega

/-! ### the year of a day -/
def cycF (k : Nat) : Nat := k - k / 1460 + k / 36524 - k / 146096
def cycS (y : Nat) : Nat := 365 * y + y / 4 - y / 100
theorem cyc_table : ((List.range 400).all fun y => decide (365 * y ≤ cycF (cycS y)) && (y == 0 || decide (cycF (cycS y - 1) < 365 * y))) = true := by decide +kernel
theorem cyc_row (y : Nat) (h : y < 400) : 365 * y ≤ cycF (cycS y) ∧ (1 ≤ y → cycF (cycS y - 1) < 365 * y) := by
  have := List.all_eq_true.1 cyc_table y (List.mem_range.2 h)
  simp only [Bool.and_eq_true, Bool.or_eq_true, decide_eq_true_eq, beq_iff_eq] at this
  exact ⟨this.1, fun hy => this.2.resolve_left (by omega)⟩
theorem cyc_mono (a b : Nat) (h : a ≤ b) (hb : b < 146096) : cycF a ≤ cycF b := by
  unfold cycF
  omega
theorem cyc_year (k : Nat) (h : k < 146097) : cycF k / 365 ≤ 399 ∧ cycS (cycF k / 365) ≤ k ∧ (cycF k / 365 < 399 → k < cycS (cycF k / 365 + 1)) := by
  by_cases hk : k = 146096
  · subst hk
    decide +kernel
  · have hF : cycF k ≤ 145999 := by unfold cycF; omega
    have hY : cycF k / 365 ≤ 399 := by omega
    refine ⟨hY, ?_, ?_⟩
    · have hr := cyc_row (cycF k / 365) (by omega)
      by_cases hlt : k < cycS (cycF k / 365)
      · have h1 : 1 ≤ cycF k / 365 := by
          by_cases h0 : cycF k / 365 = 0
          · rw [h0] at hlt
            simp [cycS] at hlt
          · omega
        have h2 := hr.2 h1
        have hS : cycS (cycF k / 365) ≤ 146000 := by unfold cycS; omega
        have h3 := cyc_mono k (cycS (cycF k / 365) - 1) (by omega) (by omega)
        omega
      · omega
    · intro hlt
      have hr := cyc_row (cycF k / 365 + 1) (by omega)
      by_cases hge : cycS (cycF k / 365 + 1) ≤ k
      · have h3 := cyc_mono (cycS (cycF k / 365 + 1)) k hge (by omega)
        omega
      · omega
theorem daysS_last : daysS 9999 12 31 = 2932896 := by decide +kernel
theorem daysS_first : daysS 1 1 1 = -719162 := by decide +kernel
theorem of_val (n : Nat) (a : Int) (h : -700000 ≤ a ∧ a ≤ 2900000) : ∃ y m d, civil_Of_f n a = some (y, m, d, 0) ∧ InYear y a ∧ 1 ≤ y := by
  unfold civil_Of_f civil_Of_b
  rw [civil_Of_j0, civil_Of_j0_b, days_val n 1 1 1 (by omega) (by omega) (by omega), days_val n 9999 12 31 (by omega) (by omega) (by omega), daysS_first, daysS_last]
  simp only [Option.bind_some]
  rw [cond_neg (by omega), decide_eq_false (by omega)]
  simp only [Option.bind_some, cond_false]
  rw [wi (a + 719468) (by omega) (by omega), tm0 (show (0 : Int) ≤ a + 719468 by omega), td0 (show (0 : Int) ≤ a + 719468 by omega)]
  obtain ⟨k, hk⟩ : ∃ k : Nat, (a + 719468) % 146097 = (k : Int) := ⟨((a + 719468) % 146097).toNat, by omega⟩
  obtain ⟨q, hq⟩ : ∃ q : Nat, (a + 719468) / 146097 = (q : Int) := ⟨((a + 719468) / 146097).toNat, by omega⟩
  have hkq : a + 719468 = 146097 * (q : Int) + (k : Int) := by omega
  have hkl : k < 146097 := by omega
  have hql : q < 30 := by omega
  rw [hk, hq]
  obtain ⟨y1, y2, y3⟩ := cyc_year k hkl
  have hY : IntKind.i64.wrap (Int.tdiv (IntKind.i64.wrap (IntKind.i64.wrap (IntKind.i64.wrap ((k : Int) - IntKind.i64.wrap (Int.tdiv (k : Int) 1460)) + IntKind.i64.wrap (Int.tdiv (k : Int) 36524)) - IntKind.i64.wrap (Int.tdiv (k : Int) 146096))) 365) = ((cycF k / 365 : Nat) : Int) := by
    simp (disch := omega) only [wi, td0]
    unfold cycF
    omega
  rw [hY]
  generalize cycF k / 365 = Y at *
  have hR : IntKind.i64.wrap ((k : Int) - IntKind.i64.wrap (IntKind.i64.wrap (IntKind.i64.wrap (365 * (Y : Int)) + IntKind.i64.wrap (Int.tdiv (Y : Int) 4)) - IntKind.i64.wrap (Int.tdiv (Y : Int) 100))) = (k : Int) - ((cycS Y : Nat) : Int) := by
    simp (disch := omega) only [wi, td0]
    unfold cycS
    omega
  rw [hR]
  have hYS : ∀ Z : Nat, Z ≤ 400 → begS (400 * (q : Int) + (Z : Int) + 1) = 146097 * (q : Int) + ((cycS Z : Nat) : Int) + (if Z = 400 then 1 else 0) + 306 - 719468 := by
    intro Z hZ
    rw [begS_eq]
    unfold cycS
    split <;> omega
  have hpos : 1 ≤ 400 * (q : Int) + (Y : Int) := by
    by_cases h0 : Y = 0
    · by_cases hq0 : q = 0
      · have h1 := y3 (by omega)
        rw [h0] at h1
        have : cycS (0 + 1) = 365 := by decide +kernel
        omega
      · omega
    · omega
  have hb0 := hYS Y (by omega)
  rw [if_neg (by omega)] at hb0
  have hmon : IntKind.i64.wrap (Int.tdiv (IntKind.i64.wrap (IntKind.i64.wrap (5 * ((k : Int) - ((cycS Y : Nat) : Int))) + 2)) 153) = (5 * ((k : Int) - ((cycS Y : Nat) : Int)) + 2) / 153 := by
    have hup : (k : Int) - ((cycS Y : Nat) : Int) ≤ 400 := by
      by_cases h9 : Y < 399
      · have := y3 h9
        have : cycS (Y + 1) ≤ cycS Y + 366 := by unfold cycS; omega
        omega
      · have : Y = 399 := by omega
        subst this
        have : cycS 399 = 145731 := by decide +kernel
        omega
    simp (disch := omega) only [wi, td0]
  rw [hmon]
  have hR0 : 0 ≤ (k : Int) - ((cycS Y : Nat) : Int) := by omega
  have hnext : Y < 399 → begS (400 * (q : Int) + (Y : Int) + 2) > a := by
    intro h9
    have h1 := y3 h9
    have h2 := hYS (Y + 1) (by omega)
    rw [if_neg (by omega)] at h2
    rw [show 400 * (q : Int) + (Y : Int) + 2 = 400 * (q : Int) + ((Y + 1 : Nat) : Int) + 1 by omega, h2]
    omega
  have hlast : Y = 399 → begS (400 * (q : Int) + (Y : Int) + 2) > a := by
    intro h9
    subst h9
    have h2 := hYS 400 (by omega)
    rw [if_pos rfl] at h2
    have : cycS 400 = 146096 := by decide +kernel
    rw [show 400 * (q : Int) + ((399 : Nat) : Int) + 2 = 400 * (q : Int) + ((400 : Nat) : Int) + 1 by omega, h2]
    omega
  have hR366 : (k : Int) - ((cycS Y : Nat) : Int) ≤ 366 := by
    by_cases h9 : Y < 399
    · have := y3 h9
      have : cycS (Y + 1) ≤ cycS Y + 366 := by unfold cycS; omega
      omega
    · have : Y = 399 := by omega
      subst this
      have : cycS 399 = 145731 := by decide +kernel
      omega
  generalize hRR : (k : Int) - ((cycS Y : Nat) : Int) = R at *
  have hyear : IntKind.i64.wrap (IntKind.i64.wrap ((q : Int) * 400) + (Y : Int)) = 400 * (q : Int) + (Y : Int) := by
    simp (disch := omega) only [wi]
    omega
  rw [wi (q : Int) (by omega) (by omega), hyear]
  rw [wi ((5 * R + 2) / 153 + 2) (by omega) (by omega), tm0 (show (0 : Int) ≤ (5 * R + 2) / 153 + 2 by omega), wi (((5 * R + 2) / 153 + 2) % 12 + 1) (by omega) (by omega)]
  have hM : 0 ≤ (5 * R + 2) / 153 ∧ (5 * R + 2) / 153 ≤ 11 ∧ (R ≤ 305 → (5 * R + 2) / 153 ≤ 9) ∧ (306 ≤ R → 10 ≤ (5 * R + 2) / 153) := by omega
  generalize (5 * R + 2) / 153 = M at *
  by_cases h306 : 306 ≤ R
  · have hMM : M = 10 ∨ M = 11 := by omega
    have hm : (M + 2) % 12 + 1 ≤ 2 := by rcases hMM with h | h <;> rw [h] <;> decide
    rw [cond_pos hm, wi (400 * (q : Int) + (Y : Int) + 1) (by omega) (by omega)]
    refine ⟨_, _, _, rfl, ⟨?_, ?_⟩, by omega⟩
    · rw [hb0]; omega
    · rw [show 400 * (q : Int) + (Y : Int) + 1 + 1 = 400 * (q : Int) + (Y : Int) + 2 by omega]
      by_cases h9 : Y < 399
      · exact hnext h9
      · exact hlast (by omega)
  · have hm : ¬ ((M + 2) % 12 + 1 ≤ 2) := by rw [Int.emod_eq_of_lt (by omega) (by omega)]; omega
    rw [cond_neg hm]
    have hprev : begS (400 * (q : Int) + (Y : Int)) ≤ begS (400 * (q : Int) + (Y : Int) + 1) - 365 := by
      have := begS_next (400 * (q : Int) + (Y : Int)) hpos
      split at this <;> omega
    refine ⟨_, _, _, rfl, ⟨?_, ?_⟩, by omega⟩
    · omega
    · rw [hb0]; omega
end Go.Proofs.YtpooncihlnllnaaGreatDoor.H

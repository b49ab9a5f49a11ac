/- Chapter 07: the calendar, as the reference counts it. -/
import Derived.Test.YtpooncihlnllnaaDoorT4
import Derived.Test.YtpooncihlnllnaaDoorUB
import Derived.Test.YtpooncihlnllnaaDoorUR
namespace Go.Proofs.YtpooncihlnllnaaDoor.H
open Go.Sh Go.RowKit
set_option linter.unusedSimpArgs false
set_option linter.unusedVariables false

theorem rleap_val (n : Nat) (y : Int) (h : 0 ≤ y) : clepsydraref07_leap_f n y = some (leapS y) := by
  unfold clepsydraref07_leap_f clepsydraref07_leap_b leapS
  rw [Int.tmod_eq_emod_of_nonneg h, Int.tmod_eq_emod_of_nonneg h, Int.tmod_eq_emod_of_nonneg h, bne, beqI, beqI, beqI]
  by_cases h1 : y % 4 = 0 <;> by_cases h2 : y % 100 = 0 <;> by_cases h3 : y % 400 = 0 <;> simp [h1, h2, h3]
theorem begins_up (n : Nat) (y : Int) (hy : 1970 ≤ y ∧ y ≤ 10000) : ∀ (m : Nat) (k : Int), (y - k).toNat < m → 1970 ≤ k ∧ k ≤ y → clepsydraref07_begins_l1 n m y (begS k) k = some (begS y)
  | 0, k, h, _ => by omega
  | m + 1, k, h, hk => by
    rw [clepsydraref07_begins_l1, clepsydraref07_begins_l1_b]
    by_cases hlt : k < y
    · have hb := begS_bd k (by omega)
      have hn := begS_next k (by omega)
      rw [cond_pos hlt, clepsydraref07_begins_j1, clepsydraref07_begins_j1_b, rleap_val n k (by omega)]
      simp only [Option.bind_some]
      have hnext := begins_up n y hy m (k + 1) (by omega) (by omega)
      cases hl : leapS k with
      | true =>
        rw [hl, if_pos rfl] at hn
        simp only [cond_true, Option.bind_some]
        simp (disch := omega) only [wi]
        rw [← hn]
        exact hnext
      | false =>
        rw [hl, if_neg (by simp)] at hn
        simp only [cond_false, Option.bind_some]
        simp (disch := omega) only [wi]
        rw [show begS k + 365 = begS (k + 1) by omega]
        exact hnext
    · rw [cond_neg hlt, show k = y by omega]
theorem begins_down (n : Nat) (y : Int) (hy : 1 ≤ y ∧ y ≤ 1970) : ∀ (m : Nat) (k : Int), (1970 - k).toNat < m → y ≤ k ∧ k ≤ 1970 → clepsydraref07_begins_l0 n m (begS y - begS k) k = some (begS y)
  | 0, k, h, _ => by omega
  | m + 1, k, h, hk => by
    rw [clepsydraref07_begins_l0, clepsydraref07_begins_l0_b]
    by_cases hlt : k < 1970
    · have hb := begS_bd k (by omega)
      have hb2 := begS_bd y (by omega)
      have hn := begS_next k (by omega)
      rw [cond_pos hlt, clepsydraref07_begins_j0, clepsydraref07_begins_j0_b, rleap_val n k (by omega)]
      simp only [Option.bind_some]
      have hnext := begins_down n y hy m (k + 1) (by omega) (by omega)
      cases hl : leapS k with
      | true =>
        rw [hl, if_pos rfl] at hn
        simp only [cond_true, Option.bind_some]
        simp (disch := omega) only [wi]
        rw [show begS y - begS k - 365 - 1 = begS y - begS (k + 1) by omega]
        exact hnext
      | false =>
        rw [hl, if_neg (by simp)] at hn
        simp only [cond_false, Option.bind_some]
        simp (disch := omega) only [wi]
        rw [show begS y - begS k - 365 = begS y - begS (k + 1) by omega]
        exact hnext
    · rw [cond_neg hlt, show k = 1970 by omega, begS_1970, Int.sub_zero]
theorem begins_val (n : Nat) (y : Int) (hn : 10000 < n) (hy : 1 ≤ y ∧ y ≤ 10000) : clepsydraref07_begins_f n y = some (begS y) := by
  unfold clepsydraref07_begins_f clepsydraref07_begins_b
  obtain ⟨k, hk⟩ : ∃ k, n = k + 1 := ⟨n - 1, by omega⟩
  by_cases h : 1970 ≤ y
  · have h1 := begins_up n y (by omega) n 1970 (by omega) (by omega)
    rw [begS_1970] at h1
    rw [h1]
    simp only [Option.bind_some]
    conv => lhs; arg 1; arg 2; rw [hk]
    rw [clepsydraref07_begins_l0, clepsydraref07_begins_l0_b, cond_neg (by omega)]
    rfl
  · have h1 : clepsydraref07_begins_l1 n n y 0 1970 = some 0 := by
      conv => lhs; arg 2; rw [hk]
      rw [clepsydraref07_begins_l1, clepsydraref07_begins_l1_b, cond_neg (by omega)]
    have h2 := begins_down n y (by omega) n y (by omega) (by omega)
    rw [Int.sub_self] at h2
    rw [h1]
    simp only [Option.bind_some]
    rw [h2]
    rfl
theorem rlong_val (n : Nat) (y m : Int) (hy : 0 ≤ y) (hm : 1 ≤ m ∧ m ≤ 12) : clepsydraref07_long_f n y m = some (longS y m) := by
  unfold clepsydraref07_long_f clepsydraref07_long_b longS
  rw [rleap_val n y hy]
  have : m = 1 ∨ m = 2 ∨ m = 3 ∨ m = 4 ∨ m = 5 ∨ m = 6 ∨ m = 7 ∨ m = 8 ∨ m = 9 ∨ m = 10 ∨ m = 11 ∨ m = 12 := by omega
  rcases this with h | h | h | h | h | h | h | h | h | h | h | h <;> subst h
  case inr.inl => cases leapS y <;> rfl
  all_goals rfl

/-! ### months -/
theorem month_step (y m : Int) (hy : 1 ≤ y) (hm : 1 ≤ m ∧ m ≤ 11) : daysS y (m + 1) 1 = daysS y m 1 + longS y m := by
  have : m = 1 ∨ m = 2 ∨ m = 3 ∨ m = 4 ∨ m = 5 ∨ m = 6 ∨ m = 7 ∨ m = 8 ∨ m = 9 ∨ m = 10 ∨ m = 11 := by omega
  unfold longS
  have hl := leapS_iff y
  rcases this with h | h | h | h | h | h | h | h | h | h | h <;> subst h
  case inr.inl =>
    rw [if_pos rfl]
    unfold daysS
    simp only [if_neg (show ¬ ((2 : Int) + 1 ≤ 2) by omega), if_pos (show (2 : Int) ≤ 2 by omega)]
    by_cases h : leapS y = true
    · rw [if_pos h]
      rw [h] at hl
      have := hl.1 rfl
      omega
    · rw [if_neg h]
      have h' : ¬ (y % 4 = 0 ∧ (y % 100 ≠ 0 ∨ y % 400 = 0)) := fun q => h (hl.2 q)
      omega
  all_goals (unfold daysS; simp; try omega)
theorem month_loop (n : Nat) (d : DayV) (y : Int) (hy : 1 ≤ y ∧ y ≤ 9999) (hd : 1 ≤ d.m ∧ d.m ≤ 12) : ∀ (q : Nat) (m : Int), (d.m - m).toNat < q → 1 ≤ m ∧ m ≤ d.m →
    clepsydraref07_Switch_l1 n q y (daysS y m 1) m d.k d.m d.w d.d d.t = some (daysS y d.m 1, d.k, d.m, d.w, d.d, d.t)
  | 0, m, h, _ => by omega
  | q + 1, m, h, hm => by
    rw [clepsydraref07_Switch_l1, clepsydraref07_Switch_l1_b]
    by_cases hlt : m < d.m
    · have hb := daysS_bd y m hy (by omega)
      have hl := longS_le y m
      rw [cond_pos hlt, rlong_val n y m (by omega) (by omega)]
      simp only [Option.bind_some]
      simp (disch := omega) only [wi]
      rw [← month_step y m hy.1 (by omega)]
      exact month_loop n d y hy hd q (m + 1) (by omega) (by omega)
    · rw [cond_neg hlt, show m = d.m by omega]
/-- How often the day has been seen ahead of the k-th. -/
def seenS (r w k : Int) : Int := if k ≤ r then 0 else if (k - 1 - r) / 7 + 1 ≤ w then (k - 1 - r) / 7 + 1 else w
theorem wday (x : Int) (h : -1000000000 ≤ x ∧ x ≤ 1000000000) : Int.tmod (IntKind.i64.wrap (Int.tmod x 7 + 7)) 7 = x % 7 := by
  by_cases hx : 0 ≤ x
  · rw [tm0 hx, wi _ (by omega) (by omega), tm0 (by omega)]
    omega
  · obtain ⟨b, rfl⟩ : ∃ b : Int, x = -b := ⟨-x, by omega⟩
    rw [Int.neg_tmod, tm0 (show (0 : Int) ≤ b by omega), wi _ (by omega) (by omega), tm0 (by omega)]
    omega
theorem week_loop (n : Nat) (d : DayV) (y f r : Int) (hy : 1 ≤ y ∧ y ≤ 9999) (hm : 1 ≤ d.m ∧ d.m ≤ 12) (hw : 1 ≤ d.w ∧ d.w ≤ 5) (hd : 0 ≤ d.d ∧ d.d ≤ 6) (hf : -800000 ≤ f ∧ f ≤ 3000000) (hr : r = (d.d - (f + 4)) % 7) :
    ∀ (q : Nat) (k : Int), (longS y d.m - k).toNat < q → 0 ≤ k ∧ k ≤ longS y d.m →
    clepsydraref07_Switch_l0 n q y f (if seenS r d.w k = 0 then -1 else f + r + 7 * (seenS r d.w k - 1)) (seenS r d.w k) k d.k d.m d.w d.d d.t
      = some (f + r + 7 * (seenS r d.w (longS y d.m) - 1), d.k, d.m, d.w, d.d, d.t)
  | 0, k, h, _ => by omega
  | q + 1, k, h, hk => by
    have hl := longS_le y d.m
    rw [clepsydraref07_Switch_l0, clepsydraref07_Switch_l0_b, rlong_val n y d.m (by omega) hm]
    simp only [Option.bind_some]
    by_cases hlt : k < longS y d.m
    · rw [cond_pos hlt, clepsydraref07_Switch_j2, clepsydraref07_Switch_j2_b]
      rw [wi (f + k) (by omega) (by omega), wi (f + k + 4) (by omega) (by omega), wday _ (by omega)]
      rw [clepsydraref07_Switch_j1, clepsydraref07_Switch_j1_b, beqI]
      have hnext := week_loop n d y f r hy hm hw hd hf hr q (k + 1) (by omega) (by omega)
      have hs0 : 0 ≤ seenS r d.w k ∧ seenS r d.w k ≤ 5 := by unfold seenS; split <;> (try split) <;> omega
      rw [wi (k + 1) (by omega) (by omega)]
      by_cases hday : (f + k + 4) % 7 = d.d
      · rw [cond_pos hday]
        simp only [Option.bind_some]
        by_cases hsn : seenS r d.w k < d.w
        · have e1 : seenS r d.w (k + 1) = seenS r d.w k + 1 := by
            revert hsn
            unfold seenS
            split <;> split <;> (try split) <;> (try split) <;> omega
          have e2 : f + k = f + r + 7 * (seenS r d.w (k + 1) - 1) := by
            revert hsn
            unfold seenS
            split <;> split <;> (try split) <;> (try split) <;> omega
          rw [decide_eq_true hsn]
          simp only [cond_true, Option.bind_some]
          rw [wi (seenS r d.w k + 1) (by omega) (by omega), ← e1]
          rw [if_neg (by omega), ← e2] at hnext
          exact hnext
        · have e1 : seenS r d.w (k + 1) = seenS r d.w k := by
            revert hsn
            unfold seenS
            split <;> split <;> (try split) <;> (try split) <;> omega
          rw [decide_eq_false hsn]
          simp only [cond_false, Option.bind_some]
          rw [e1] at hnext
          exact hnext
      · have e1 : seenS r d.w (k + 1) = seenS r d.w k := by
          unfold seenS
          split <;> split <;> (try split) <;> (try split) <;> omega
        rw [cond_neg hday]
        simp only [Option.bind_some, cond_false]
        rw [e1] at hnext
        exact hnext
    · rw [cond_neg hlt]
      have hkl : k = longS y d.m := by omega
      subst hkl
      have : seenS r d.w (longS y d.m) ≠ 0 := by
        unfold seenS
        split <;> (try split) <;> omega
      rw [if_neg this]
theorem rswitch_val (n : Nat) (d : DayV) (y : Int) (hn : 10000 < n) (h : dayOK d = true) (hy : 1 ≤ y ∧ y ≤ 9999) : clepsydraref07_Switch_f n d.k d.m d.w d.d d.t y = some (switchS d y) := by
  have ho := dayOK_of' h
  have hb := begS_bd y (by omega)
  have h2b := dayS2_bd d y h hy
  unfold clepsydraref07_Switch_f clepsydraref07_Switch_b switchS
  rw [begins_val n y hn (by omega)]
  simp only [Option.bind_some, beqI]
  by_cases h1 : d.k = 1
  · rw [cond_pos h1, clepsydraref07_Switch_j0, clepsydraref07_Switch_j0_b, rleap_val n y (by omega)]
    unfold dayS2
    rw [if_neg (show ¬ d.k = 2 by omega), if_pos h1]
    change _ = some ((if leapS y = true ∧ 59 < d.d then begS y + d.d else begS y + d.d - 1) * 86400 + d.t)
    cases hl : leapS y with
    | false =>
      simp only [Option.bind_some, cond_false]
      simp (disch := omega) only [wi]
      simp
    | true =>
      simp only [Option.bind_some, cond_true]
      by_cases h59 : d.d > 59
      · rw [decide_eq_true h59, cond_true, if_pos ⟨trivial, h59⟩]
        simp (disch := omega) only [wi]
        rw [show begS y + d.d - 1 + 1 = begS y + d.d by omega]
      · rw [decide_eq_false h59, cond_false, if_neg (by rintro ⟨_, q⟩; exact h59 q)]
        simp (disch := omega) only [wi]
  · rw [cond_neg h1]
    by_cases h2 : d.k = 2
    · rw [cond_pos h2]
      unfold dayS2
      rw [if_pos h2]
      change _ = some ((begS y + d.d) * 86400 + d.t)
      simp (disch := omega) only [wi]
    · have h3 : d.k = 3 := by omega
      rw [cond_neg h2, cond_pos h3]
      have hm : 1 ≤ d.m ∧ d.m ≤ 12 := by omega
      have hw : 1 ≤ d.w ∧ d.w ≤ 5 := by omega
      have hfb := daysS_bd y d.m hy hm
      have hl := longS_le y d.m
      rw [show begS y = daysS y 1 1 from rfl, month_loop n d y hy hm n 1 (by omega) (by omega)]
      simp only [Option.bind_some]
      have hk := week_loop n d y (daysS y d.m 1) _ hy hm hw (by omega) hfb rfl n 0 (by omega) (by omega)
      generalize hr : (d.d - (daysS y d.m 1 + 4)) % 7 = r at hk
      have hr' : 0 ≤ r ∧ r < 7 := by omega
      have hs0 : seenS r d.w 0 = 0 := by unfold seenS; rw [if_pos (by omega)]
      rw [hs0, if_pos rfl] at hk
      rw [hk]
      have e : dayS2 d y = daysS y d.m 1 + r + 7 * (seenS r d.w (longS y d.m) - 1) := by
        unfold dayS2
        rw [if_neg h2, if_neg h1]
        unfold aheadS seenS
        dsimp only
        rw [if_neg (show ¬ longS y d.m ≤ r by omega)]
        have e1 : (d.d + 7 - ((daysS y d.m 1 + 3) % 7 + 1) % 7) % 7 = r := by omega
        rw [e1]
        split <;> split <;> omega
      simp only [Option.bind_some]
      rw [← e]
      simp (disch := omega) only [wi]
end Go.Proofs.YtpooncihlnllnaaDoor.H

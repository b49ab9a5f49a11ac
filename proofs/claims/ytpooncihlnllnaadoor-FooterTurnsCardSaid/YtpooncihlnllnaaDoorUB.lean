/- Chapter 07: the first days of years. -/
import Derived.Test.YtpooncihlnllnaaDoorUC
namespace Go.Proofs.YtpooncihlnllnaaDoor.H
open Go.Sh Go.RowKit
set_option linter.unusedSimpArgs false
set_option linter.unusedVariables false

/-- The first day of a year. -/
def begS (y : Int) : Int := daysS y 1 1
theorem begS_eq (y : Int) : begS y = (y - 1) / 400 * 146097 + ((y - 1) % 400 * 365 + (y - 1) % 400 / 4 - (y - 1) % 400 / 100) + 306 - 719468 := by
  unfold begS daysS
  simp only [if_pos (show (1 : Int) ≤ 2 by omega)]
  omega
theorem begS_next (y : Int) (hy : 1 ≤ y) : begS (y + 1) = begS y + 365 + (if leapS y = true then 1 else 0) := by
  have hl := leapS_iff y
  rw [begS_eq, begS_eq]
  by_cases h : leapS y = true
  · rw [if_pos h]
    rw [h] at hl
    have := hl.1 rfl
    omega
  · rw [if_neg h]
    have h' : ¬ (y % 4 = 0 ∧ (y % 100 ≠ 0 ∨ y % 400 = 0)) := fun q => h (hl.2 q)
    omega
theorem begS_bd (y : Int) (hy : 1 ≤ y ∧ y ≤ 10001) : -800000 ≤ begS y ∧ begS y ≤ 3000000 := by
  rw [begS_eq]
  omega
theorem begS_1970 : begS 1970 = 0 := by decide +kernel
theorem begS_mono : ∀ (k : Nat) (y : Int), 1 ≤ y → begS y + 365 * (k : Int) ≤ begS (y + k) ∧ begS (y + k) ≤ begS y + 366 * (k : Int)
  | 0, y, _ => by simp
  | k + 1, y, h => by
    have h1 := begS_mono k y h
    have h2 := begS_next (y + k) (by omega)
    rw [show y + ((k + 1 : Nat) : Int) = y + (k : Int) + 1 by omega]
    split at h2 <;> omega
theorem begS_lt {a b : Int} (ha : 1 ≤ a) (h : a ≤ b) : begS a ≤ begS b := by
  obtain ⟨k, hk⟩ : ∃ k : Nat, b = a + k := ⟨(b - a).toNat, by omega⟩
  have := (begS_mono k a ha).1
  rw [hk]
  omega
/-- The day is one of the year. -/
def InYear (y n : Int) : Prop := begS y ≤ n ∧ n < begS (y + 1)
theorem InYear.one {a b n : Int} (ha : 1 ≤ a) (hb : 1 ≤ b) (h1 : InYear a n) (h2 : InYear b n) : a = b := by
  by_cases h : a < b
  · have := begS_lt (a := a + 1) (b := b) (by omega) (by omega)
    have := h1.2
    have := h2.1
    omega
  · by_cases h' : b < a
    · have := begS_lt (a := b + 1) (b := a) (by omega) (by omega)
      have := h2.2
      have := h1.1
      omega
    · omega
end Go.Proofs.YtpooncihlnllnaaDoor.H

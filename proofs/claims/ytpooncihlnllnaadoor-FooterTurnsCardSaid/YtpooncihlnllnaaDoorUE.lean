/- Chapter 07: the offset that holds, as the program tells it. -/
import Derived.Test.YtpooncihlnllnaaDoorT45
import Derived.Test.YtpooncihlnllnaaDoorUB
namespace Go.Proofs.YtpooncihlnllnaaDoor.H
open Go.Sh Go.RowKit
set_option linter.unusedSimpArgs false
set_option linter.unusedVariables false

theorem floor_val (n : Nat) (a : Int) (h : -1000000000000 ≤ a ∧ a ≤ 1000000000000) : footer_floor_f n a 86400 = some (a / 86400) := by
  unfold footer_floor_f footer_floor_b
  rw [show ((86400 : Int) == 0) = false from rfl]
  simp only [cond_false]
  by_cases ha : 0 ≤ a
  · rw [tm0 ha, td0 ha, cond_neg (by omega), wi _ (by omega) (by omega)]
  · obtain ⟨b, rfl⟩ : ∃ b : Int, a = -b := ⟨-a, by omega⟩
    rw [Int.neg_tmod, Int.neg_tdiv, tm0 (by omega), td0 (by omega)]
    by_cases hz : b % 86400 = 0
    · rw [cond_neg (by omega), wi _ (by omega) (by omega)]
      congr 1
      omega
    · rw [cond_pos (by omega)]
      simp (disch := omega) only [wi]
      congr 1
      omega

/-! ### the year of a day -/
def cycF (k : Nat) : Nat := k - k / 1460 + k / 36524 - k / 146096
def cycS (y : Nat) : Nat := 365 * y + y / 4 - y / 100
theorem cyc_table : ((List.range 400).all fun y => decide (365 * y ≤ cycF (cycS y)) && (y == 0 || decide (cycF (cycS y - 1) < 365 * y))) = true := by decide +kernel
theorem cyc_row (y : Nat) (h : y < 400) : 365 * y ≤ cycF (cycS y) ∧ (1 ≤ y → cycF (cycS y - 1) < 365 * y) := by
  have := List.all_eq_true.1 cyc_table y (List.mem_range.2 h)
  simp only [Bool.and_eq_true, Bool.or_eq_true, decide_eq_true_eq, beq_iff_eq] at this
  exact ⟨this.1, fun hy => this.2.resolve_left (by omega)⟩
theorem cyc_mono (a b : Nat) (h : a ≤ b) (hb : b < 146096) : cycF a ≤ cycF b := by
  unfold cycF
  omega
theorem cyc_year (k : Nat) (h : k < 146097) : cycF k / 365 ≤ 399 ∧ cycS (cycF k / 365) ≤ k ∧ (cycF k / 365 < 399 → k < cycS (cycF k / 365 + 1)) := by
  by_cases hk : k = 146096
  · subst hk
    decide +kernel
  · have hF : cycF k ≤ 145999 := by unfold cycF; omega
    have hY : cycF k / 365 ≤ 399 := by omega
    refine ⟨hY, ?_, ?_⟩
    · have hr := cyc_row (cycF k / 365) (by omega)
      by_cases hlt : k < cycS (cycF k / 365)
      · have h1 : 1 ≤ cycF k / 365 := by
          by_cases h0 : cycF k / 365 = 0
          · rw [h0] at hlt
            simp [cycS] at hlt
          · omega
        have h2 := hr.2 h1
        have hS : cycS (cycF k / 365) ≤ 146000 := by unfold cycS; omega
        have h3 := cyc_mono k (cycS (cycF k / 365) - 1) (by omega) (by omega)
        omega
      · omega
    · intro hlt
      have hr := cyc_row (cycF k / 365 + 1) (by omega)
      by_cases hge : cycS (cycF k / 365 + 1) ≤ k
      · have h3 := cyc_mono (cycS (cycF k / 365 + 1)) k hge (by omega)
        omega
      · omega
theorem daysS_last : daysS 9999 12 31 = 2932896 := by decide +kernel
theorem daysS_first : daysS 1 1 1 = -719162 := by decide +kernel
theorem of_val (n : Nat) (a : Int) (h : -700000 ≤ a ∧ a ≤ 2900000) : ∃ y m d, civil_Of_f n a = some (y, m, d, 0) ∧ InYear y a ∧ 1 ≤ y := by
  unfold civil_Of_f civil_Of_b
  rw [civil_Of_j0, civil_Of_j0_b, days_val n 1 1 1 (by omega) (by omega) (by omega), days_val n 9999 12 31 (by omega) (by omega) (by omega), daysS_first, daysS_last]
  simp only [Option.bind_some]
  rw [cond_neg (by omega), decide_eq_false (by omega)]
  simp only [Option.bind_some, cond_false]
  rw [wi (a + 719468) (by omega) (by omega), tm0 (show (0 : Int) ≤ a + 719468 by omega), td0 (show (0 : Int) ≤ a + 719468 by omega)]
  obtain ⟨k, hk⟩ : ∃ k : Nat, (a + 719468) % 146097 = (k : Int) := ⟨((a + 719468) % 146097).toNat, by omega⟩
  obtain ⟨q, hq⟩ : ∃ q : Nat, (a + 719468) / 146097 = (q : Int) := ⟨((a + 719468) / 146097).toNat, by omega⟩
  have hkq : a + 719468 = 146097 * (q : Int) + (k : Int) := by omega
  have hkl : k < 146097 := by omega
  have hql : q < 30 := by omega
  rw [hk, hq]
  obtain ⟨y1, y2, y3⟩ := cyc_year k hkl
  have hY : IntKind.i64.wrap (Int.tdiv (IntKind.i64.wrap (IntKind.i64.wrap (IntKind.i64.wrap ((k : Int) - IntKind.i64.wrap (Int.tdiv (k : Int) 1460)) + IntKind.i64.wrap (Int.tdiv (k : Int) 36524)) - IntKind.i64.wrap (Int.tdiv (k : Int) 146096))) 365) = ((cycF k / 365 : Nat) : Int) := by
    simp (disch := omega) only [wi, td0]
    unfold cycF
    omega
  rw [hY]
  generalize cycF k / 365 = Y at *
  have hR : IntKind.i64.wrap ((k : Int) - IntKind.i64.wrap (IntKind.i64.wrap (IntKind.i64.wrap (365 * (Y : Int)) + IntKind.i64.wrap (Int.tdiv (Y : Int) 4)) - IntKind.i64.wrap (Int.tdiv (Y : Int) 100))) = (k : Int) - ((cycS Y : Nat) : Int) := by
    simp (disch := omega) only [wi, td0]
    unfold cycS
    omega
  rw [hR]
  have hYS : ∀ Z : Nat, Z ≤ 400 → begS (400 * (q : Int) + (Z : Int) + 1) = 146097 * (q : Int) + ((cycS Z : Nat) : Int) + (if Z = 400 then 1 else 0) + 306 - 719468 := by
    intro Z hZ
    rw [begS_eq]
    unfold cycS
    split <;> omega
  have hpos : 1 ≤ 400 * (q : Int) + (Y : Int) := by
    by_cases h0 : Y = 0
    · by_cases hq0 : q = 0
      · have h1 := y3 (by omega)
        rw [h0] at h1
        have : cycS (0 + 1) = 365 := by decide +kernel
        omega
      · omega
    · omega
  have hb0 := hYS Y (by omega)
  rw [if_neg (by omega)] at hb0
  have hmon : IntKind.i64.wrap (Int.tdiv (IntKind.i64.wrap (IntKind.i64.wrap (5 * ((k : Int) - ((cycS Y : Nat) : Int))) + 2)) 153) = (5 * ((k : Int) - ((cycS Y : Nat) : Int)) + 2) / 153 := by
    have hup : (k : Int) - ((cycS Y : Nat) : Int) ≤ 400 := by
      by_cases h9 : Y < 399
      · have := y3 h9
        have : cycS (Y + 1) ≤ cycS Y + 366 := by unfold cycS; omega
        omega
      · have : Y = 399 := by omega
        subst this
        have : cycS 399 = 145731 := by decide +kernel
        omega
    simp (disch := omega) only [wi, td0]
  rw [hmon]
  have hR0 : 0 ≤ (k : Int) - ((cycS Y : Nat) : Int) := by omega
  have hnext : Y < 399 → begS (400 * (q : Int) + (Y : Int) + 2) > a := by
    intro h9
    have h1 := y3 h9
    have h2 := hYS (Y + 1) (by omega)
    rw [if_neg (by omega)] at h2
    rw [show 400 * (q : Int) + (Y : Int) + 2 = 400 * (q : Int) + ((Y + 1 : Nat) : Int) + 1 by omega, h2]
    omega
  have hlast : Y = 399 → begS (400 * (q : Int) + (Y : Int) + 2) > a := by
    intro h9
    subst h9
    have h2 := hYS 400 (by omega)
    rw [if_pos rfl] at h2
    have : cycS 400 = 146096 := by decide +kernel
    rw [show 400 * (q : Int) + ((399 : Nat) : Int) + 2 = 400 * (q : Int) + ((400 : Nat) : Int) + 1 by omega, h2]
    omega
  have hR366 : (k : Int) - ((cycS Y : Nat) : Int) ≤ 366 := by
    by_cases h9 : Y < 399
    · have := y3 h9
      have : cycS (Y + 1) ≤ cycS Y + 366 := by unfold cycS; omega
      omega
    · have : Y = 399 := by omega
      subst this
      have : cycS 399 = 145731 := by decide +kernel
      omega
  generalize hRR : (k : Int) - ((cycS Y : Nat) : Int) = R at *
  have hyear : IntKind.i64.wrap (IntKind.i64.wrap ((q : Int) * 400) + (Y : Int)) = 400 * (q : Int) + (Y : Int) := by
    simp (disch := omega) only [wi]
    omega
  rw [wi (q : Int) (by omega) (by omega), hyear]
  rw [wi ((5 * R + 2) / 153 + 2) (by omega) (by omega), tm0 (show (0 : Int) ≤ (5 * R + 2) / 153 + 2 by omega), wi (((5 * R + 2) / 153 + 2) % 12 + 1) (by omega) (by omega)]
  have hM : 0 ≤ (5 * R + 2) / 153 ∧ (5 * R + 2) / 153 ≤ 11 ∧ (R ≤ 305 → (5 * R + 2) / 153 ≤ 9) ∧ (306 ≤ R → 10 ≤ (5 * R + 2) / 153) := by omega
  generalize (5 * R + 2) / 153 = M at *
  by_cases h306 : 306 ≤ R
  · have hMM : M = 10 ∨ M = 11 := by omega
    have hm : (M + 2) % 12 + 1 ≤ 2 := by rcases hMM with h | h <;> rw [h] <;> decide
    rw [cond_pos hm, wi (400 * (q : Int) + (Y : Int) + 1) (by omega) (by omega)]
    refine ⟨_, _, _, rfl, ⟨?_, ?_⟩, by omega⟩
    · rw [hb0]; omega
    · rw [show 400 * (q : Int) + (Y : Int) + 1 + 1 = 400 * (q : Int) + (Y : Int) + 2 by omega]
      by_cases h9 : Y < 399
      · exact hnext h9
      · exact hlast (by omega)
  · have hm : ¬ ((M + 2) % 12 + 1 ≤ 2) := by rw [Int.emod_eq_of_lt (by omega) (by omega)]; omega
    rw [cond_neg hm]
    have hprev : begS (400 * (q : Int) + (Y : Int)) ≤ begS (400 * (q : Int) + (Y : Int) + 1) - 365 := by
      have := begS_next (400 * (q : Int) + (Y : Int)) hpos
      split at this <;> omega
    refine ⟨_, _, _, rfl, ⟨?_, ?_⟩, by omega⟩
    · omega
    · rw [hb0]; omega
end Go.Proofs.YtpooncihlnllnaaDoor.H

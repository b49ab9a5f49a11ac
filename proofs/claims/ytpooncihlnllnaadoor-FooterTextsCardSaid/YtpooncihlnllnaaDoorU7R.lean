/- Chapter 07: numbers and hours written by the reference. -/
import Derived.Test.YtpooncihlnllnaaDoorT2
import Derived.Test.YtpooncihlnllnaaDoorU7
import Derived.Test.YtpooncihlnllnaaDoorUR
namespace Go.Proofs.YtpooncihlnllnaaDoor.H
open Go.Sh Go.RowKit
set_option linter.unusedSimpArgs false
set_option linter.unusedVariables false

theorem dig_byte (a : Nat) : strOf [IntKind.u8.wrap (IntKind.i64.wrap (48 + Int.tmod (a : Int) 10))] = [digC (a % 10)] := by
  have e : Int.tmod (a : Int) 10 = ((a % 10 : Nat) : Int) := rfl
  have : a % 10 < 10 := Nat.mod_lt _ (by omega)
  rw [e, wi (48 + _) (by omega) (by omega)]
  have e2 : IntKind.u8.wrap (48 + ((a % 10 : Nat) : Int)) = ((48 + a % 10 : Nat) : Int) := by
    generalize a % 10 = q at *
    match q, this with
    | 0, _ => rfl | 1, _ => rfl | 2, _ => rfl | 3, _ => rfl | 4, _ => rfl | 5, _ => rfl | 6, _ => rfl | 7, _ => rfl | 8, _ => rfl | 9, _ => rfl
  rw [e2]
  simp only [strOf, List.map_cons, List.map_nil, digC, Int.toNat_natCast]
theorem digits_step (n m a many : Nat) (s : Str) (ha : a < 1000000000) (hs : s.length < 1000) (h : 0 < a ∨ s.length < many) :
    clepsydraref07_digits_l0 n (m + 1) (a : Int) (many : Int) s = clepsydraref07_digits_l0 n m ((a / 10 : Nat) : Int) (many : Int) (digC (a % 10) :: s) := by
  rw [clepsydraref07_digits_l0, clepsydraref07_digits_l0_b, clepsydraref07_digits_j0, clepsydraref07_digits_j0_b, dig_byte]
  have hc : cond (decide ((a : Int) > 0)) (some true) (some (decide ((s.length : Int) < (many : Int)))) = some true := by
    by_cases h0 : 0 < a
    · rw [cond_pos (by omega)]
    · rw [cond_neg (by omega), decide_eq_true (by omega)]
  rw [hc]
  simp only [Option.bind_some, cond_true]
  rw [cond_pos (by simp only [List.length_cons, List.length_nil]; omega)]
  have e : Int.tdiv (a : Int) 10 = ((a / 10 : Nat) : Int) := rfl
  rw [e, wi _ (by omega) (by omega)]
  rfl
theorem digits_stop (n m many : Nat) (s : Str) (h : many ≤ s.length) : clepsydraref07_digits_l0 n (m + 1) 0 (many : Int) s = some s := by
  rw [clepsydraref07_digits_l0, clepsydraref07_digits_l0_b, clepsydraref07_digits_j0, clepsydraref07_digits_j0_b]
  rw [cond_neg (by omega), decide_eq_false (by omega)]
  rfl
theorem digits_loop (n many : Nat) : ∀ (m a : Nat) (s : Str), a < 10 ^ m → a < 1000000000 → many ≤ s.length → s.length + m < 1000 →
    clepsydraref07_digits_l0 n (m + 1) (a : Int) (many : Int) s = some ((if a = 0 then [] else Lib.decDigits a) ++ s)
  | 0, a, s, h, _, hm, _ => by
    have : a = 0 := by omega
    subst this
    exact digits_stop n 0 many s hm
  | m + 1, a, s, h, ha, hm, hl => by
    by_cases h0 : a = 0
    · subst h0
      exact digits_stop n _ many s hm
    · rw [digits_step n (m + 1) a many s ha (by omega) (by omega)]
      have hp : (10 : Nat) ^ (m + 1) = 10 ^ m * 10 := Nat.pow_succ ..
      rw [digits_loop n many m (a / 10) _ (by omega) (by omega) (by simp; omega) (by simp; omega), if_neg h0, decD a]
      simp
theorem digits1_val (n a : Nat) (hn : 20 < n) (ha : a < 1000000000) : clepsydraref07_digits_f n (a : Int) 1 = some (Lib.decDigits a) := by
  obtain ⟨k, rfl⟩ : ∃ k, n = (k + 9 + 1) + 1 := ⟨n - 11, by omega⟩
  unfold clepsydraref07_digits_f clepsydraref07_digits_b
  rw [show (1 : Int) = ((1 : Nat) : Int) from rfl]
  by_cases hk : k < 900
  · rw [digits_step _ (k + 9 + 1) a 1 [] ha (by simp) (by simp)]
    have h9 : (10 : Nat) ^ 9 ≤ 10 ^ (k + 9) := Nat.pow_le_pow_right (by omega) (by omega)
    rw [digits_loop _ 1 (k + 9) (a / 10) _ (by omega) (by omega) (by simp) (by simp; omega), decD a]
    simp
  · obtain ⟨q, hq⟩ : ∃ q, k + 9 = q := ⟨_, rfl⟩
    have : ∀ (m a : Nat) (s : Str), a < 10 ^ m → a < 1000000000 → 1 ≤ s.length → s.length + m < 1000 → ∀ j, clepsydraref07_digits_l0 (k + 9 + 1 + 1) (m + 1 + j) (a : Int) ((1 : Nat) : Int) s = some ((if a = 0 then [] else Lib.decDigits a) ++ s) := by
      intro m
      induction m with
      | zero =>
        intro a s h _ hm _ j
        have : a = 0 := by omega
        subst this
        rw [show 0 + 1 + j = j + 1 by omega]
        exact digits_stop _ j 1 s hm
      | succ m ih =>
        intro a s h ha hm hl j
        rw [show m + 1 + 1 + j = (m + 1 + j) + 1 by omega]
        by_cases h0 : a = 0
        · subst h0
          exact digits_stop _ _ 1 s hm
        · rw [digits_step _ (m + 1 + j) a 1 s ha (by omega) (by omega)]
          have hp : (10 : Nat) ^ (m + 1) = 10 ^ m * 10 := Nat.pow_succ ..
          rw [ih (a / 10) _ (by omega) (by omega) (by simp) (by simp; omega) j, if_neg h0, decD a]
          simp
    rw [digits_step _ (k + 9 + 1) a 1 [] ha (by simp) (by simp)]
    rw [show k + 9 + 1 = 9 + 1 + k by omega] at this ⊢
    rw [show 9 + 1 + k + 1 = 9 + 1 + k + 1 from rfl]
    rw [this 9 (a / 10) _ (by omega) (by omega) (by simp) (by simp) k, decD a]
    simp
theorem digits2_val (n a : Nat) (hn : 20 < n) (ha : a < 100) : clepsydraref07_digits_f n (a : Int) 2 = some (two a) := by
  obtain ⟨k, rfl⟩ : ∃ k, n = k + 3 := ⟨n - 3, by omega⟩
  unfold clepsydraref07_digits_f clepsydraref07_digits_b
  rw [show (2 : Int) = ((2 : Nat) : Int) from rfl]
  rw [digits_step _ (k + 2) a 2 [] (by omega) (by simp) (by simp), digits_step _ (k + 1) (a / 10) 2 _ (by omega) (by simp) (by simp)]
  rw [show a / 10 / 10 = 0 by omega, show a / 10 % 10 = a / 10 by omega]
  rw [show ((0 : Nat) : Int) = 0 from rfl, digits_stop _ k 2 _ (by simp)]
  rfl

theorem rhour_j (n a : Nat) (hn : 20 < n) (s : Str) (ha : a < 1000000) (hs : s.length < 1000) : clepsydraref07_hours_j0 n (a : Int) s = some (s ++ (if a % 3600 = 0 then [] else 58 :: two (a / 60 % 60))) := by
  rw [clepsydraref07_hours_j0, clepsydraref07_hours_j0_b]
  have e1 : Int.tmod (a : Int) 3600 = ((a % 3600 : Nat) : Int) := rfl
  have e2 : Int.tdiv (a : Int) 60 = ((a / 60 : Nat) : Int) := rfl
  have e3 : Int.tmod ((a / 60 : Nat) : Int) 60 = ((a / 60 % 60 : Nat) : Int) := rfl
  rw [e1, e2, wi _ (by omega) (by omega), e3, bneN, digits2_val n _ hn (by omega)]
  by_cases h : a % 3600 = 0
  · simp [h]
  · simp only [h, decide_false, Bool.not_false, cond_true, if_false, Option.bind_some]
    rw [cond_pos (by simp; omega), cond_pos (by simp [two]; omega)]
    simp
theorem rhour_end (n a : Nat) (hn : 20 < n) (s : Str) (ha : a < 1000000) (hs : s.length < 1000) :
    cond (Int.tmod (a : Int) 60 != 0) (cond (decide (s.length + ([58] : Str).length ≤ 9223372036854775807)) ((clepsydraref07_digits_f n (Int.tmod (a : Int) 60) 2).bind fun o257 => cond (decide ((s ++ ([58] : Str)).length + o257.length ≤ 9223372036854775807)) (some ((s ++ ([58] : Str)) ++ o257)) none) none) (some s)
    = some (s ++ (if a % 60 = 0 then [] else 58 :: two (a % 60))) := by
  have e1 : Int.tmod (a : Int) 60 = ((a % 60 : Nat) : Int) := rfl
  rw [e1, bneN, digits2_val n _ hn (by omega)]
  by_cases h : a % 60 = 0
  · simp [h]
  · simp only [h, decide_false, Bool.not_false, cond_true, if_false, Option.bind_some]
    rw [cond_pos (by simp; omega), cond_pos (by simp [two]; omega)]
    simp
theorem rhoursT_val (n : Nat) (x : Int) (hn : 20 < n) (hx : x.natAbs < 1000000) : clepsydraref07_hours_f n x = some (hoursT x) := by
  unfold clepsydraref07_hours_f clepsydraref07_hours_b
  have hl := hourT_len x.natAbs hx
  have hdl := decLen (x.natAbs / 3600) (by omega)
  by_cases h : x < 0
  · rw [cond_pos h, hoursT, if_pos h]
    unfold clepsydraref07_hours_1_f clepsydraref07_hours_1_b
    obtain ⟨a, rfl⟩ : ∃ a : Nat, x = -(a : Int) := ⟨x.natAbs, by omega⟩
    rw [Int.natAbs_neg, Int.natAbs_natCast] at *
    rw [show (0 : Int) - -(a : Int) = (a : Int) by omega, wi (a : Int) (by omega) (by omega), cond_neg (by omega)]
    have e : Int.tdiv (a : Int) 3600 = ((a / 3600 : Nat) : Int) := rfl
    rw [e, wi _ (by omega) (by omega), digits1_val n _ hn (by omega)]
    simp only [Option.bind_some]
    rw [show clepsydraref07_hours_1_j0 n (a : Int) (Lib.decDigits (a / 3600)) = _ from rhour_j n a hn _ hx (by omega)]
    simp only [Option.bind_some]
    rw [rhour_end n a hn _ hx (by simp only [List.length_append]; split <;> simp [two] <;> omega)]
    simp only [Option.bind_some]
    rw [cond_pos (by have := hl; unfold hourT at this; simp only [List.length_cons, List.length_nil]; omega)]
    rfl
  · rw [cond_neg h, hoursT, if_neg h]
    obtain ⟨a, rfl⟩ : ∃ a : Nat, x = (a : Int) := ⟨x.natAbs, by omega⟩
    rw [Int.natAbs_natCast] at *
    have e : Int.tdiv (a : Int) 3600 = ((a / 3600 : Nat) : Int) := rfl
    rw [e, wi _ (by omega) (by omega), digits1_val n _ hn (by omega)]
    simp only [Option.bind_some]
    rw [rhour_j n a hn _ hx (by omega)]
    simp only [Option.bind_some]
    rw [rhour_end n a hn _ hx (by simp only [List.length_append]; split <;> simp [two] <;> omega)]
    rfl
end Go.Proofs.YtpooncihlnllnaaDoor.H

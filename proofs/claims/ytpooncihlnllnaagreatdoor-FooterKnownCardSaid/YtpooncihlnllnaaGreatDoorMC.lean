import Derived.Test.YtpooncihlnllnaaGreatDoorT0c
import Derived.Test.YtpooncihlnllnaaGreatDoorMA
import Derived.Test.YtpooncihlnllnaaGreatDoorMB
/- Chapter 07: numbers and hours written by the program. -/
namespace Go.Proofs.YtpooncihlnllnaaGreatDoor.H
open Go.Sh Go.RowKit
set_option linter.unusedSimpArgs false
set_option linter.unusedVariables false

/-! ### numbers -/
theorem itoa_val (n a : Nat) (ha : a < 9223372036854775807) : strconv_Itoa_f n (a : Int) = some (Lib.decDigits a) := by
  unfold strconv_Itoa_f
  have h1 : (decide (-9223372036854775808 ≤ (a : Int)) && decide ((a : Int) ≤ 9223372036854775807)) = true := by
    rw [decide_eq_true (by omega), decide_eq_true (by omega)]; rfl
  rw [h1, cond_true, Lib.itoa, if_neg (by omega), Int.toNat_natCast]
def digC (a : Nat) : UInt8 := UInt8.ofNat (48 + a)
theorem decD (a : Nat) : Lib.decDigits a = (if a / 10 = 0 then [] else Lib.decDigits (a / 10)) ++ [digC (a % 10)] := by
  rw [Lib.decDigits]
  by_cases h : a < 10
  · rw [dif_pos h, if_pos (by omega), Nat.mod_eq_of_lt h]; rfl
  · rw [dif_neg h, if_neg (by omega)]; rfl
def two (a : Nat) : Str := [digC (a / 10), digC (a % 10)]
theorem two_itoa (a : Nat) (h : a < 100) : (Lib.decDigits (100 + a)).drop 1 = two a := by
  rw [decD, if_neg (by omega), Lib.decDigits_two (by omega) (by omega)]
  rw [show (100 + a) / 10 % 10 = a / 10 by omega, show (100 + a) % 10 = a % 10 by omega]
  rfl
/-! ### hours -/
def hourT (a : Nat) : Str := Lib.decDigits (a / 3600) ++ (if a % 3600 = 0 then [] else 58 :: two (a / 60 % 60)) ++ (if a % 60 = 0 then [] else 58 :: two (a % 60))
def hoursT (x : Int) : Str := if x < 0 then 45 :: hourT x.natAbs else hourT x.natAbs
theorem decLen (a : Nat) (h : a < 1000) : (Lib.decDigits a).length ≤ 3 := by
  rw [decD]
  by_cases h1 : a / 10 = 0
  · rw [if_pos h1]; simp
  · rw [if_neg h1, decD]
    by_cases h2 : a / 10 / 10 = 0
    · rw [if_pos h2]; simp
    · rw [if_neg h2, Lib.decDigits_one (by omega)]; simp
theorem hourT_len (a : Nat) (h : a < 1000000) : (hourT a).length ≤ 9 := by
  have := decLen (a / 3600) (by omega)
  unfold hourT
  simp only [List.length_append]
  split <;> split <;> simp [two] <;> omega
theorem hoursT_len (x : Int) (h : x.natAbs < 1000000) : (hoursT x).length ≤ 10 := by
  have := hourT_len x.natAbs h
  unfold hoursT
  split
  · simp only [List.length_cons]; omega
  · omega
theorem tm (a b : Nat) : Int.tmod (a : Int) (b : Int) = ((a % b : Nat) : Int) := rfl
theorem td (a b : Nat) : Int.tdiv (a : Int) (b : Int) = ((a / b : Nat) : Int) := rfl
theorem bneN (a : Nat) : ((a : Int) != 0) = !decide (a = 0) := by by_cases h : a = 0 <;> simp [h]

theorem hour_part (n a : Nat) (s : Str) (ha : a < 1000000) (hs : s.length < 1000) :
    footer_hours_j0 n (a : Int) s [3600, 60] 0 = some (s ++ (if a % 3600 = 0 then [] else 58 :: two (a / 60 % 60)))
    ∧ footer_hours_j0 n (a : Int) s [3600, 60] 1 = some (s ++ (if a % 60 = 0 then [] else 58 :: two (a % 60))) := by
  have e1 : Int.tmod (a : Int) 3600 = ((a % 3600 : Nat) : Int) := rfl
  have e2 : Int.tmod (a : Int) 60 = ((a % 60 : Nat) : Int) := rfl
  constructor
  · rw [footer_hours_j0, footer_hours_j0_b]
    rw [show ([3600, 60] : List Int)[(0 : Int).toNat]? = some 3600 from rfl]
    simp only [Option.bind_some, show ((3600 : Int) == 0) = false from rfl, cond_false, e1, bneN, show Int.tdiv 3600 60 = 60 from rfl]
    rw [wi 60 (by omega) (by omega)]
    rw [cond_pos (by omega)]
    by_cases h : a % 3600 = 0
    · simp [h]
    · simp only [h, decide_false, Bool.not_false, cond_true, show ((60 : Int) == 0) = false from rfl, cond_false, if_false]
      have e3 : Int.tdiv ((a % 3600 : Nat) : Int) 60 = ((a % 3600 / 60 : Nat) : Int) := rfl
      rw [e3, wi ((a % 3600 / 60 : Nat) : Int) (by omega) (by omega), wi (100 + _) (by omega) (by omega)]
      rw [show (100 : Int) + ((a % 3600 / 60 : Nat) : Int) = ((100 + a % 3600 / 60 : Nat) : Int) by omega, itoa_val n _ (by omega)]
      simp only [Option.bind_some]
      have hlen : (Lib.decDigits (100 + a % 3600 / 60)).length ≤ 3 := decLen _ (by omega)
      have hd := two_itoa (a % 3600 / 60) (by omega)
      have hl1 : 1 ≤ (Lib.decDigits (100 + a % 3600 / 60)).length := by
        have := congrArg List.length hd
        simp only [List.length_drop, two, List.length_cons, List.length_nil] at this
        omega
      rw [cond_pos (by omega), hd]
      rw [cond_pos (by simp [two]), cond_pos (by simp [two]; omega)]
      rw [show a % 3600 / 60 = a / 60 % 60 by omega]
      rfl
  · rw [footer_hours_j0, footer_hours_j0_b]
    rw [show ([3600, 60] : List Int)[(1 : Int).toNat]? = some 60 from rfl]
    simp only [Option.bind_some, show ((60 : Int) == 0) = false from rfl, cond_false, e2, bneN, show Int.tdiv 60 60 = 1 from rfl]
    rw [wi 1 (by omega) (by omega)]
    rw [cond_pos (by omega)]
    by_cases h : a % 60 = 0
    · simp [h]
    · simp only [h, decide_false, Bool.not_false, cond_true, show ((1 : Int) == 0) = false from rfl, cond_false, if_false]
      have e3 : Int.tdiv ((a % 60 : Nat) : Int) 1 = ((a % 60 / 1 : Nat) : Int) := rfl
      rw [e3, Nat.div_one, wi ((a % 60 : Nat) : Int) (by omega) (by omega), wi (100 + _) (by omega) (by omega)]
      rw [show (100 : Int) + ((a % 60 : Nat) : Int) = ((100 + a % 60 : Nat) : Int) by omega, itoa_val n _ (by omega)]
      simp only [Option.bind_some]
      have hd := two_itoa (a % 60) (by omega)
      have hl1 : 1 ≤ (Lib.decDigits (100 + a % 60)).length := by
        have := congrArg List.length hd
        simp only [List.length_drop, two, List.length_cons, List.length_nil] at this
        omega
      rw [cond_pos (by omega), hd]
      rw [cond_pos (by simp [two]), cond_pos (by simp [two]; omega)]
      rfl
theorem hour_l (n a : Nat) (hn : 5 < n) (ha : a < 1000000) : (footer_hours_l0 n n (a : Int) (Lib.decDigits (a / 3600)) [3600, 60] 2 0) = some (hourT a) := by
  obtain ⟨k, hk⟩ : ∃ k, n = k + 3 := ⟨n - 3, by omega⟩
  have hl := decLen (a / 3600) (by omega)
  conv => lhs; arg 2; rw [hk]
  rw [footer_hours_l0, footer_hours_l0_b, cond_pos (by omega), (hour_part n a _ ha (by omega)).1]
  simp only [Option.bind_some]
  rw [show IntKind.i64.wrap (0 + 1) = 1 from rfl, footer_hours_l0, footer_hours_l0_b, cond_pos (by omega), (hour_part n a _ ha (by simp only [List.length_append]; split <;> simp [two] <;> omega)).2]
  simp only [Option.bind_some]
  rw [show IntKind.i64.wrap (1 + 1) = 2 from rfl, footer_hours_l0, footer_hours_l0_b, cond_neg (by omega)]
  rfl
theorem hour_l1 (n a : Nat) (hn : 5 < n) (ha : a < 1000000) : (footer_hours_1_l0 n n (a : Int) (Lib.decDigits (a / 3600)) [3600, 60] 2 0) = some (hourT a) := by
  have h : ∀ (m : Nat) (x : Int) (s : Str) (l : List Int) (i j : Int), footer_hours_1_l0 n m x s l i j = footer_hours_l0 n m x s l i j := by
    intro m
    induction m with
    | zero => intros; rfl
    | succ m ih =>
      intro x s l i j
      rw [footer_hours_1_l0, footer_hours_l0, footer_hours_1_l0_b, footer_hours_l0_b]
      rw [show footer_hours_1_j0 n x s l j = footer_hours_j0 n x s l j from rfl]
      simp only [ih]
  rw [h]
  exact hour_l n a hn ha
theorem hoursT_val (n : Nat) (x : Int) (hn : 5 < n) (hx : x.natAbs < 1000000) : footer_hours_f n x = some (hoursT x) := by
  unfold footer_hours_f footer_hours_b
  have hl := hourT_len x.natAbs hx
  by_cases h : x < 0
  · rw [cond_pos h, hoursT, if_pos h]
    unfold footer_hours_1_f footer_hours_1_b
    obtain ⟨a, rfl⟩ : ∃ a : Nat, x = -(a : Int) := ⟨x.natAbs, by omega⟩
    rw [Int.natAbs_neg, Int.natAbs_natCast] at *
    rw [show (0 : Int) - -(a : Int) = (a : Int) by omega, wi (a : Int) (by omega) (by omega), cond_neg (by omega)]
    have e : Int.tdiv (a : Int) 3600 = ((a / 3600 : Nat) : Int) := rfl
    rw [e, wi _ (by omega) (by omega), itoa_val n _ (by omega)]
    simp only [Option.bind_some]
    rw [show ((([3600, 60] : List Int).length : Nat) : Int) = 2 from rfl, hour_l1 n a hn hx]
    simp only [Option.bind_some]
    rw [cond_pos (by simp only [List.length_cons, List.length_nil]; omega)]
    rfl
  · rw [cond_neg h, hoursT, if_neg h]
    obtain ⟨a, rfl⟩ : ∃ a : Nat, x = (a : Int) := ⟨x.natAbs, by omega⟩
    rw [Int.natAbs_natCast] at *
    have e : Int.tdiv (a : Int) 3600 = ((a / 3600 : Nat) : Int) := rfl
    rw [e, wi _ (by omega) (by omega), itoa_val n _ (by omega)]
    simp only [Option.bind_some]
    rw [show ((([3600, 60] : List Int).length : Nat) : Int) = 2 from rfl, hour_l n a hn hx]
    rfl
end Go.Proofs.YtpooncihlnllnaaGreatDoor.H

/- Chapter 07: numbers and hours written by the reference. -/
namespace Go.Proofs.YtpooncihlnllnaaGreatDoor.H
open Go.Sh Go.RowKit
set_option linter.unusedSimpArgs false
set_option linter.unusedVariables false

theorem dig_byte (a : Nat) : strOf [IntKind.u8.wrap (IntKind.i64.wrap (48 + Int.tmod (a : Int) 10))] = [digC (a % 10)] := by
  have e : Int.tmod (a : Int) 10 = ((a % 10 : Nat) : Int) := rfl
  have : a % 10 < 10 := Nat.mod_lt _ (by omega)
  rw [e, wi (48 + _) (by omega) (by omega)]
  have e2 : IntKind.u8.wrap (48 + ((a % 10 : Nat) : Int)) = ((48 + a % 10 : Nat) : Int) := by
    generalize a % 10 = q at *
    match q, this with
    | 0, _ => rfl | 1, _ => rfl | 2, _ => rfl | 3, _ => rfl | 4, _ => rfl | 5, _ => rfl | 6, _ => rfl | 7, _ => rfl | 8, _ => rfl | 9, _ => rfl
  rw [e2]
  simp only [strOf, List.map_cons, List.map_nil, digC, Int.toNat_natCast]
theorem digits_step (n m a many : Nat) (s : Str) (ha : a < 1000000000) (hs : s.length < 1000) (h : 0 < a ∨ s.length < many) :
    clepsydraref07_digits_l0 n (m + 1) (a : Int) (many : Int) s = clepsydraref07_digits_l0 n m ((a / 10 : Nat) : Int) (many : Int) (digC (a % 10) :: s) := by
  rw [clepsydraref07_digits_l0, clepsydraref07_digits_l0_b, clepsydraref07_digits_j0, clepsydraref07_digits_j0_b, dig_byte]
  have hc : cond (decide ((a : Int) > 0)) (some true) (some (decide ((s.length : Int) < (many : Int)))) = some true := by
    by_cases h0 : 0 < a
    · rw [cond_pos (by omega)]
    · rw [cond_neg (by omega), decide_eq_true (by omega)]
  rw [hc]
  simp only [Option.bind_some, cond_true]
  rw [cond_pos (by simp only [List.length_cons, List.length_nil]; omega)]
  have e : Int.tdiv (a : Int) 10 = ((a / 10 : Nat) : Int) := rfl
  rw [e, wi _ (by omega) (by omega)]
  rfl
theorem digits_stop (n m many : Nat) (s : Str) (h : many ≤ s.length) : clepsydraref07_digits_l0 n (m + 1) 0 (many : Int) s = some s := by
  rw [clepsydraref07_digits_l0, clepsydraref07_digits_l0_b, clepsydraref07_digits_j0, clepsydraref07_digits_j0_b]
  rw [cond_neg (by omega), decide_eq_false (by omega)]
  rfl
theorem digits_loop (n many : Nat) : ∀ (m a : Nat) (s : Str), a < 10 ^ m → a < 1000000000 → many ≤ s.length → s.length + m < 1000 →
    clepsydraref07_digits_l0 n (m + 1) (a : Int) (many : Int) s = some ((if a = 0 then [] else Lib.decDigits a) ++ s)
  | 0, a, s, h, _, hm, _ => by
    have : a = 0 := by omega
    subst this
    exact digits_stop n 0 many s hm
  | m + 1, a, s, h, ha, hm, hl => by
    by_cases h0 : a = 0
    · subst h0
      exact digits_stop n _ many s hm
    · rw [digits_step n (m + 1) a many s ha (by omega) (by omega)]
      have hp : (10 : Nat) ^ (m + 1) = 10 ^ m * 10 := Nat.pow_succ ..
      rw [digits_loop n many m (a / 10) _ (by omega) (by omega) (by simp; omega) (by simp; omega), if_neg h0, decD a]
      simp
theorem digits1_val (n a : Nat) (hn : 20 < n) (ha : a < 1000000000) : clepsydraref07_digits_f n (a : Int) 1 = some (Lib.decDigits a) := by
  obtain ⟨k, rfl⟩ : ∃ k, n = (k + 9 + 1) + 1 := ⟨n - 11, by omega⟩
  unfold clepsydraref07_digits_f clepsydraref07_digits_b
  rw [show (1 : Int) = ((1 : Nat) : Int) from rfl]
  by_cases hk : k < 900
  · rw [digits_step _ (k + 9 + 1) a 1 [] ha (by simp) (by simp)]
    have h9 : (10 : Nat) ^ 9 ≤ 10 ^ (k + 9) := Nat.pow_le_pow_right (by omega) (by omega)
    rw [digits_loop _ 1 (k + 9) (a / 10) _ (by omega) (by omega) (by simp) (by simp; omega), decD a]
    simp
  · obtain ⟨q, hq⟩ : ∃ q, k + 9 = q := ⟨_, rfl⟩
    have : ∀ (m a : Nat) (s : Str), a < 10 ^ m → a < 1000000000 → 1 ≤ s.length → s.length + m < 1000 → ∀ j, clepsydraref07_digits_l0 (k + 9 + 1 + 1) (m + 1 + j) (a : Int) ((1 : Nat) : Int) s = some ((if a = 0 then [] else Lib.decDigits a) ++ s) := by
      intro m
      induction m with
      | zero =>
        intro a s h _ hm _ j
        have : a = 0 := by omega
        subst this
        rw [show 0 + 1 + j = j + 1 by omega]
        exact digits_stop _ j 1 s hm
      | succ m ih =>
        intro a s h ha hm hl j
        rw [show m + 1 + 1 + j = (m + 1 + j) + 1 by omega]
        by_cases h0 : a = 0
        · subst h0
          exact digits_stop _ _ 1 s hm
        · rw [digits_step _ (m + 1 + j) a 1 s ha (by omega) (by omega)]
          have hp : (10 : Nat) ^ (m + 1) = 10 ^ m * 10 := Nat.pow_succ ..
          rw [ih (a / 10) _ (by omega) (by omega) (by simp) (by simp; omega) j, if_neg h0, decD a]
          simp
    rw [digits_step _ (k + 9 + 1) a 1 [] ha (by simp) (by simp)]
    rw [show k + 9 + 1 = 9 + 1 + k by omega] at this ⊢
    rw [show 9 + 1 + k + 1 = 9 + 1 + k + 1 from rfl]
    rw [this 9 (a / 10) _ (by omega) (by omega) (by simp) (by simp) k, decD a]
    simp
theorem digits2_val (n a : Nat) (hn : 20 < n) (ha : a < 100) : clepsydraref07_digits_f n (a : Int) 2 = some (two a) := by
  obtain ⟨k, rfl⟩ : ∃ k, n = k + 3 := ⟨n - 3, by omega⟩
  unfold clepsydraref07_digits_f clepsydraref07_digits_b
  rw [show (2 : Int) = ((2 : Nat) : Int) from rfl]
  rw [digits_step _ (k + 2) a 2 [] (by omega) (by simp) (by simp), digits_step _ (k + 1) (a / 10) 2 _ (by omega) (by simp) (by simp)]
  rw [show a / 10 / 10 = 0 by omega, show a / 10 % 10 = a / 10 by omega]
  rw [show ((0 : Nat) : Int) = 0 from rfl, digits_stop _ k 2 _ (by simp)]
  rfl

theorem rhour_j (n a : Nat) (hn : 20 < n) (s : Str) (ha : a < 1000000) (hs : s.length < 1000) : clepsydraref07_hours_j0 n (a : Int) s = some (s ++ (if a % 3600 = 0 then [] else 58 :: two (a / 60 % 60))) := by
  rw [clepsydraref07_hours_j0, clepsydraref07_hours_j0_b]
  have e1 : Int.tmod (a : Int) 3600 = ((a % 3600 : Nat) : Int) := rfl
  have e2 : Int.tdiv (a : Int) 60 = ((a / 60 : Nat) : Int) := rfl
  have e3 : Int.tmod ((a / 60 : Nat) : Int) 60 = ((a / 60 % 60 : Nat) : Int) := rfl
  rw [e1, e2, wi _ (by omega) (by omega), e3, bneN, digits2_val n _ hn (by omega)]
  by_cases h : a % 3600 = 0
  · simp [h]
  · simp only [h, decide_false, Bool.not_false, cond_true, if_false, Option.bind_some]
    rw [cond_pos (by simp; omega), cond_pos (by simp [two]; omega)]
    simp
theorem rhour_end (n a : Nat) (hn : 20 < n) (s : Str) (ha : a < 1000000) (hs : s.length < 1000) :
    cond (Int.tmod (a : Int) 60 != 0) (cond (decide (s.length + ([58] : Str).length ≤ 9223372036854775807)) ((clepsydraref07_digits_f n (Int.tmod (a : Int) 60) 2).bind fun o257 => cond (decide ((s ++ ([58] : Str)).length + o257.length ≤ 9223372036854775807)) (some ((s ++ ([58] : Str)) ++ o257)) none) none) (some s)
    = some (s ++ (if a % 60 = 0 then [] else 58 :: two (a % 60))) := by
  have e1 : Int.tmod (a : Int) 60 = ((a % 60 : Nat) : Int) := rfl
  rw [e1, bneN, digits2_val n _ hn (by omega)]
  by_cases h : a % 60 = 0
  · simp [h]
  · simp only [h, decide_false, Bool.not_false, cond_true, if_false, Option.bind_some]
    rw [cond_pos (by simp; omega), cond_pos (by simp [two]; omega)]
    simp
theorem rhoursT_val (n : Nat) (x : Int) (hn : 20 < n) (hx : x.natAbs < 1000000) : clepsydraref07_hours_f n x = some (hoursT x) := by
  unfold clepsydraref07_hours_f clepsydraref07_hours_b
  have hl := hourT_len x.natAbs hx
  have hdl := decLen (x.natAbs / 3600) (by omega)
  by_cases h : x < 0
  · rw [cond_pos h, hoursT, if_pos h]
    unfold clepsydraref07_hours_1_f clepsydraref07_hours_1_b
    obtain ⟨a, rfl⟩ : ∃ a : Nat, x = -(a : Int) := ⟨x.natAbs, by omega⟩
    rw [Int.natAbs_neg, Int.natAbs_natCast] at *
    rw [show (0 : Int) - -(a : Int) = (a : Int) by omega, wi (a : Int) (by omega) (by omega), cond_neg (by omega)]
    have e : Int.tdiv (a : Int) 3600 = ((a / 3600 : Nat) : Int) := rfl
    rw [e, wi _ (by omega) (by omega), digits1_val n _ hn (by omega)]
    simp only [Option.bind_some]
    rw [show clepsydraref07_hours_1_j0 n (a : Int) (Lib.decDigits (a / 3600)) = _ from rhour_j n a hn _ hx (by omega)]
    simp only [Option.bind_some]
    rw [rhour_end n a hn _ hx (by simp only [List.length_append]; split <;> simp [two] <;> omega)]
    simp only [Option.bind_some]
    rw [cond_pos (by have := hl; unfold hourT at this; simp only [List.length_cons, List.length_nil]; omega)]
    rfl
  · rw [cond_neg h, hoursT, if_neg h]
    obtain ⟨a, rfl⟩ : ∃ a : Nat, x = (a : Int) := ⟨x.natAbs, by omega⟩
    rw [Int.natAbs_natCast] at *
    have e : Int.tdiv (a : Int) 3600 = ((a / 3600 : Nat) : Int) := rfl
    rw [e, wi _ (by omega) (by omega), digits1_val n _ hn (by omega)]
    simp only [Option.bind_some]
    rw [rhour_j n a hn _ hx (by omega)]
    simp only [Option.bind_some]
    rw [rhour_end n a hn _ hx (by simp only [List.length_append]; split <;> simp [two] <;> omega)]
    rfl
end Go.Proofs.YtpooncihlnllnaaGreatDoor.H

/- Chapter 07: days and rules written by the program. -/
namespace Go.Proofs.YtpooncihlnllnaaGreatDoor.H
open Go.Sh Go.RowKit
set_option linter.unusedSimpArgs false
set_option linter.unusedVariables false

/-! ### names -/
theorem nletter_val (n : Nat) (b : UInt8) : footer_all_1_1_f n (b.toNat : Int) = some (!letterB b) := by
  have h := byte_all (p := fun x => footer_all_1_1_f 0 (x : Int) = some (!letterB (UInt8.ofNat x))) (by decide +kernel) b
  rw [UInt8.ofNat_toNat] at h
  exact h
theorem index1_loop (n : Nat) (s : Str) (hs : s.length < 9223372036854775808) : ∀ (m i : Nat), s.length - i < m →
    ∃ o, slices_IndexFunc_byte_byte_1_l0 n m (intsOf s) (s.length : Int) (i : Int) = some o ∧ ((s.drop i).all letterB = true → o = Sum.inr ()) ∧ ((s.drop i).all letterB = false → ∃ j : Nat, o = Sum.inl (j : Int))
  | 0, i, hm => by omega
  | m + 1, i, hm => by
    rw [slices_IndexFunc_byte_byte_1_l0, slices_IndexFunc_byte_byte_1_l0_b]
    cases hd : s.drop i with
    | nil =>
      have := drop_nil hd
      rw [cond_neg (by omega)]
      exact ⟨_, rfl, by simp⟩
    | cons c r =>
      obtain ⟨h1, h2, h3⟩ := drop_cons hd
      have h4 : (intsOf s)[i]? = some (c.toNat : Int) := by simp [intsOf, h1]
      rw [cond_pos (by omega), cond_pos (by omega), Int.toNat_natCast, h4]
      simp only [Option.bind_some, nletter_val, List.all_cons]
      rcases Bool.eq_false_or_eq_true (letterB c) with hc | hc
      · rw [hc, Bool.not_true, cond_false, wrap1 i (by omega)]
        obtain ⟨o, h5, h6⟩ := index1_loop n s hs m (i + 1) (by omega)
        rw [h2] at h6
        exact ⟨o, h5, by simpa using h6⟩
      · rw [hc]
        exact ⟨_, rfl, by simp, fun _ => ⟨i, rfl⟩⟩
def putT (s : Str) : Str := if s.all letterB = true then s else 60 :: (s ++ [62])
theorem putT_len (s : Str) : (putT s).length ≤ s.length + 2 := by unfold putT; split <;> simp
theorem put_val (n : Nat) (s : Str) (hs : s.length < 1000) (hn : s.length < n) : footer_put_f n s = some (putT s) := by
  unfold footer_put_f footer_put_b footer_all_2_f footer_all_2_b slices_ContainsFunc_byte_byte_1_f slices_ContainsFunc_byte_byte_1_b slices_IndexFunc_byte_byte_1_f slices_IndexFunc_byte_byte_1_b putT
  obtain ⟨o, h1, h2, h3⟩ := index1_loop n s (by omega) n 0 (by omega)
  rw [intsOf_length, show (0 : Int) = ((0 : Nat) : Int) from rfl, h1]
  rw [List.drop_zero] at h2 h3
  rcases Bool.eq_false_or_eq_true (s.all letterB) with h | h
  · rw [h2 h, if_pos h]; rfl
  · obtain ⟨j, rfl⟩ := h3 h
    rw [if_neg (by rw [h]; simp)]
    simp only [Option.bind_some, Sum.elim_inl]
    rw [decide_eq_true (show ((j : Int) ≥ ((0 : Nat) : Int)) by omega)]
    simp only [Bool.not_true, cond_false, Option.bind_some]
    rw [cond_pos (by simp; omega), cond_pos (by simp; omega)]
    simp
/-! ### days -/
def headT (d : DayV) : Str :=
  if d.k = 1 then 74 :: Lib.decDigits d.d.toNat
  else if d.k = 3 then 77 :: (Lib.decDigits d.m.toNat ++ 46 :: (Lib.decDigits d.w.toNat ++ 46 :: Lib.decDigits d.d.toNat))
  else Lib.decDigits d.d.toNat
def dayT (d : DayV) : Str := headT d ++ (if d.t = 7200 then [] else 47 :: hoursT d.t)
/-- What a right day is. -/
theorem dayOK_of {d : DayV} (h : dayOK d = true) : -604799 ≤ d.t ∧ d.t ≤ 604799 ∧ 0 ≤ d.d ∧ d.d ≤ 365 ∧ 0 ≤ d.m ∧ d.m ≤ 12 ∧ 0 ≤ d.w ∧ d.w ≤ 5 ∧ (d.k = 1 ∨ d.k = 2 ∨ d.k = 3) := by
  unfold dayOK nearB at h
  simp only [Bool.and_eq_true, decide_eq_true_eq] at h
  obtain ⟨⟨h1, h2⟩, h⟩ := h
  split at h
  · simp only [Bool.and_eq_true, decide_eq_true_eq] at h; omega
  · split at h
    · simp only [Bool.and_eq_true, decide_eq_true_eq] at h; omega
    · split at h
      · simp only [Bool.and_eq_true, decide_eq_true_eq] at h; omega
      · cases h
theorem headT_len (d : DayV) (h : dayOK d = true) : (headT d).length ≤ 12 := by
  have hb := dayOK_of h
  have h1 := decLen d.d.toNat (by omega)
  have h2 := decLen d.m.toNat (by omega)
  have h3 := decLen d.w.toNat (by omega)
  unfold headT
  split
  · simp only [List.length_cons]; omega
  · split
    · simp only [List.length_cons, List.length_append]; omega
    · omega
theorem dayT_len (d : DayV) (h : dayOK d = true) : (dayT d).length ≤ 23 := by
  have hb := dayOK_of h
  have h1 := headT_len d h
  have h2 := hoursT_len d.t (by omega)
  unfold dayT
  split
  · simp only [List.length_append, List.length_nil]; omega
  · simp only [List.length_append, List.length_cons]; omega
theorem dayT_val (n : Nat) (d : DayV) (hn : 20 < n) (h : dayOK d = true) : footer_Day_text_f n d.k d.m d.w d.d d.t = some (dayT d) := by
  have hb := dayOK_of h
  have l1 := decLen d.d.toNat (by omega)
  have l2 := decLen d.m.toNat (by omega)
  have l3 := decLen d.w.toNat (by omega)
  have l4 := headT_len d h
  have l5 := hoursT_len d.t (by omega)
  unfold footer_Day_text_f footer_Day_text_b
  have ed : d.d = ((d.d.toNat : Nat) : Int) := by omega
  have em : d.m = ((d.m.toNat : Nat) : Int) := by omega
  have ew : d.w = ((d.w.toNat : Nat) : Int) := by omega
  have i1 : strconv_Itoa_f n d.d = some (Lib.decDigits d.d.toNat) := by rw [ed, itoa_val n _ (by omega), Int.toNat_natCast]
  have i2 : strconv_Itoa_f n d.m = some (Lib.decDigits d.m.toNat) := by rw [em, itoa_val n _ (by omega), Int.toNat_natCast]
  have i3 : strconv_Itoa_f n d.w = some (Lib.decDigits d.w.toNat) := by rw [ew, itoa_val n _ (by omega), Int.toNat_natCast]
  have hj : footer_Day_text_j0 n (Lib.decDigits d.d.toNat) d.k d.m d.w d.d d.t = some (headT d, d.k, d.m, d.w, d.d, d.t) := by
    rw [footer_Day_text_j0, footer_Day_text_j0_b, i2, i3]
    unfold headT
    rw [beqI, beqI]
    by_cases h1 : d.k = 1
    · rw [cond_pos h1, if_pos h1, cond_pos (by simp only [List.length_cons, List.length_nil]; omega)]
      rfl
    · rw [cond_neg h1, if_neg h1]
      by_cases h3 : d.k = 3
      · rw [cond_pos h3, if_pos h3]
        simp only [Option.bind_some]
        rw [cond_pos (by simp; omega), cond_pos (by simp; omega), cond_pos (by simp; omega), cond_pos (by simp; omega), cond_pos (by simp; omega)]
        simp
      · rw [cond_neg h3, if_neg h3]
  rw [i1]
  simp only [Option.bind_some]
  rw [hj]
  simp only [Option.bind_some]
  unfold dayT
  by_cases ht : d.t = 7200
  · rw [if_pos ht, ht]; simp
  · rw [if_neg ht, show (d.t != 7200) = true by simpa using ht, cond_true, hoursT_val n d.t (by omega) (by omega)]
    simp only [Option.bind_some]
    rw [cond_pos (by simp; omega), cond_pos (by simp; omega)]
    simp
/-! ### rules -/
def offT (off doff : Int) : Str := if doff = off + 3600 then [] else hoursT (-doff)
def textT (r : RuleV) : Str := putT r.std ++ hoursT (-r.off) ++ if r.dst = [] then [] else putT r.dst ++ offT r.off r.doff ++ 44 :: (dayT r.a ++ 44 :: dayT r.b)
theorem isName_len {s : Str} (h : isName s = true) : 3 ≤ s.length ∧ s.length ≤ 10 ∧ s.all nameB = true := by
  unfold isName at h
  simp only [Bool.and_eq_true, decide_eq_true_eq] at h
  exact ⟨h.1.1, h.1.2, h.2⟩
theorem nearB_of {x far : Int} (h : nearB x far = true) : -far ≤ x ∧ x ≤ far := by
  unfold nearB at h
  simpa using h
/-- What a right rule is. -/
theorem right_of {r : RuleV} (h : rightS r = true) : isName r.std = true ∧ -89999 ≤ r.off ∧ r.off ≤ 89999 ∧
    (r.dst = [] ∧ r.doff = 0 ∧ zeroD r.a = true ∧ zeroD r.b = true ∨ isName r.dst = true ∧ r.dst ≠ [] ∧ -89999 ≤ r.doff ∧ r.doff ≤ 89999 ∧ dayOK r.a = true ∧ dayOK r.b = true) := by
  unfold rightS at h
  simp only [Bool.and_eq_true] at h
  obtain ⟨⟨h1, h2⟩, h⟩ := h
  have h3 := nearB_of h2
  refine ⟨h1, h3.1, h3.2, ?_⟩
  split at h
  · rename_i hd
    simp only [Bool.and_eq_true, beq_iff_eq] at h
    exact .inl ⟨hd, h.1.1, h.1.2, h.2⟩
  · rename_i hd
    simp only [Bool.and_eq_true] at h
    have h4 := nearB_of h.1.1.2
    exact .inr ⟨h.1.1.1, hd, h4.1, h4.2, h.1.2, h.2⟩
theorem offT_len (off doff : Int) (h : doff.natAbs < 1000000) : (offT off doff).length ≤ 10 := by
  unfold offT
  split
  · simp
  · exact hoursT_len _ (by omega)
theorem textT_len (r : RuleV) (h : rightS r = true) : (textT r).length ≤ 94 := by
  obtain ⟨h1, h2, h3, h4⟩ := right_of h
  have l1 := isName_len h1
  have l2 := putT_len r.std
  have l3 := hoursT_len (-r.off) (by omega)
  unfold textT
  rcases h4 with ⟨h4, _⟩ | ⟨h4, h5, h6, h7, h8, h9⟩
  · rw [if_pos h4]; simp only [List.length_append, List.length_nil]; omega
  · have l4 := isName_len h4
    have l5 := putT_len r.dst
    have l6 := offT_len r.off r.doff (by omega)
    have l7 := dayT_len r.a h8
    have l8 := dayT_len r.b h9
    rw [if_neg h5]
    simp only [List.length_append, List.length_cons]
    omega
theorem join3 (a b c : Str) : Lib.join [a, b, c] [44] = a ++ 44 :: (b ++ 44 :: c) := by simp [Lib.join, Lib.joinTail]
theorem text_val (n : Nat) (r : RuleV) (hn : 200 < n) (h : rightS r = true) : footer_Text_f n r.std r.dst r.off r.doff r.a.k r.a.m r.a.w r.a.d r.a.t r.b.k r.b.m r.b.w r.b.d r.b.t = some (textT r, 0) := by
  obtain ⟨h1, h2, h3, h4⟩ := right_of h
  have l1 := isName_len h1
  have l2 := putT_len r.std
  have l3 := hoursT_len (-r.off) (by omega)
  have hd : r.dst.length ≤ 10 := by
    rcases h4 with ⟨h4, _⟩ | ⟨h4, _⟩
    · rw [h4]; simp
    · exact (isName_len h4).2.1
  unfold footer_Text_f footer_Text_b
  rw [right_val n _ _ _ _ _ _ _ _ _ _ _ _ _ _ (by omega) (by omega) (by omega) (by omega)]
  rw [show rightS ⟨r.std, r.dst, r.off, r.doff, ⟨r.a.k, r.a.m, r.a.w, r.a.d, r.a.t⟩, ⟨r.b.k, r.b.m, r.b.w, r.b.d, r.b.t⟩⟩ = true from h]
  simp only [Option.bind_some, Bool.not_true, cond_false]
  rw [put_val n r.std (by omega) (by omega), wi (0 - r.off) (by omega) (by omega), Int.zero_sub, hoursT_val n _ (by omega) (by omega)]
  simp only [Option.bind_some]
  rw [cond_pos (by omega)]
  unfold textT
  rcases h4 with ⟨h4, _⟩ | ⟨h4, h5, h6, h7, h8, h9⟩
  · rw [if_pos h4, h4]; simp
  · have l4 := isName_len h4
    have l5 := putT_len r.dst
    have l6 := offT_len r.off r.doff (by omega)
    have l7 := dayT_len r.a h8
    have l8 := dayT_len r.b h9
    have l9 := hoursT_len (-r.doff) (by omega)
    rw [if_neg h5, show (r.dst == ([] : Str)) = false by simpa using h5, cond_false, put_val n r.dst (by omega) (by omega)]
    simp only [Option.bind_some]
    rw [cond_pos (by simp only [List.length_append]; omega)]
    have hj : footer_Text_j0 n (putT r.std ++ hoursT (-r.off) ++ putT r.dst) r.std r.dst r.off r.doff r.a.k r.a.m r.a.w r.a.d r.a.t r.b.k r.b.m r.b.w r.b.d r.b.t = some (putT r.std ++ hoursT (-r.off) ++ putT r.dst ++ offT r.off r.doff, r.std, r.dst, r.off, r.doff, r.a.k, r.a.m, r.a.w, r.a.d, r.a.t, r.b.k, r.b.m, r.b.w, r.b.d, r.b.t) := by
      rw [footer_Text_j0, footer_Text_j0_b, wi (r.off + 3600) (by omega) (by omega), wi (0 - r.doff) (by omega) (by omega), Int.zero_sub]
      unfold offT
      by_cases he : r.doff = r.off + 3600
      · rw [if_pos he, he]; simp
      · rw [if_neg he, show (r.doff != r.off + 3600) = true by simpa using he, cond_true, hoursT_val n _ (by omega) (by omega)]
        simp only [Option.bind_some]
        rw [cond_pos (by simp only [List.length_append]; omega)]
    rw [hj]
    simp only [Option.bind_some]
    rw [dayT_val n r.a (by omega) h8, dayT_val n r.b (by omega) h9]
    simp only [Option.bind_some, join3]
    rw [cond_pos (by simp), cond_pos (by simp only [List.length_append, List.length_cons]; omega)]
    simp
theorem text_bad (n : Nat) (r : RuleV) (hn : 200 < n) (hs : r.std.length ≤ 50) (hd : r.dst.length ≤ 50) (h : rightS r = false) : footer_Text_f n r.std r.dst r.off r.doff r.a.k r.a.m r.a.w r.a.d r.a.t r.b.k r.b.m r.b.w r.b.d r.b.t = some ([], 2) := by
  unfold footer_Text_f footer_Text_b
  rw [right_val n _ _ _ _ _ _ _ _ _ _ _ _ _ _ (by omega) (by omega) (by omega) (by omega)]
  rw [show rightS ⟨r.std, r.dst, r.off, r.doff, ⟨r.a.k, r.a.m, r.a.w, r.a.d, r.a.t⟩, ⟨r.b.k, r.b.m, r.b.w, r.b.d, r.b.t⟩⟩ = false from h]
  rfl
end Go.Proofs.YtpooncihlnllnaaGreatDoor.H

/- Chapter 07: days and rules written by the reference; the law FooterTexts. -/
namespace Go.Proofs.YtpooncihlnllnaaGreatDoor.H
open Go.Sh Go.RowKit
set_option linter.unusedSimpArgs false
set_option linter.unusedVariables false

theorem rplain_loop (n : Nat) (s : Str) (hs : s.length < 9223372036854775808) : ∀ (m i : Nat), s.length - i < m →
    clepsydraref07_plain_l0 n m s (i : Int) = some (if (s.drop i).all letterB = true then Sum.inr () else Sum.inl ())
  | 0, i, hm => by omega
  | m + 1, i, hm => by
    rw [clepsydraref07_plain_l0, clepsydraref07_plain_l0_b]
    cases hd : s.drop i with
    | nil =>
      have := drop_nil hd
      rw [cond_neg (by omega)]
      simp
    | cons c r =>
      obtain ⟨h1, h2, h3⟩ := drop_cons hd
      rw [cond_pos (by omega), cond_pos (by omega), Int.toNat_natCast, h1]
      simp only [Option.bind_some, rletter_val]
      rw [wrap1 i (by omega), rplain_loop n s hs m (i + 1) (by omega), h2]
      rw [show ((c :: r).all letterB) = (letterB c && r.all letterB) from rfl]
      have : ∀ v1 v2 : Bool, cond (!v1) (some (Sum.inl ())) (some (if v2 = true then Sum.inr () else Sum.inl ())) = some (if (v1 && v2) = true then (Sum.inr () : Unit ⊕ Unit) else Sum.inl ()) := by decide
      exact this _ _
theorem rput_val (n : Nat) (s : Str) (hs : s.length < 1000) (hn : s.length < n) : clepsydraref07_put_f n s = some (putT s) := by
  unfold clepsydraref07_put_f clepsydraref07_put_b clepsydraref07_plain_f clepsydraref07_plain_b putT
  rw [show (0 : Int) = ((0 : Nat) : Int) from rfl, rplain_loop n s (by omega) n 0 (by omega), List.drop_zero]
  rcases Bool.eq_false_or_eq_true (s.all letterB) with h | h
  · simp [h]
  · simp only [h, Bool.false_eq_true, if_false, Option.bind_some, Sum.elim_inl, cond_false]
    rw [cond_pos (by simp; omega), cond_pos (by simp; omega)]
    simp

theorem rdayT_val (n : Nat) (d : DayV) (hn : 20 < n) (h : dayOK d = true) : clepsydraref07_dayText_f n d.k d.m d.w d.d d.t = some (dayT d) := by
  have hb := dayOK_of h
  have l1 := decLen d.d.toNat (by omega)
  have l2 := decLen d.m.toNat (by omega)
  have l3 := decLen d.w.toNat (by omega)
  have l4 := headT_len d h
  have l5 := hoursT_len d.t (by omega)
  unfold clepsydraref07_dayText_f clepsydraref07_dayText_b
  have ed : d.d = ((d.d.toNat : Nat) : Int) := by omega
  have em : d.m = ((d.m.toNat : Nat) : Int) := by omega
  have ew : d.w = ((d.w.toNat : Nat) : Int) := by omega
  have i1 : clepsydraref07_digits_f n d.d 1 = some (Lib.decDigits d.d.toNat) := by rw [ed, digits1_val n _ hn (by omega), Int.toNat_natCast]
  have i2 : clepsydraref07_digits_f n d.m 1 = some (Lib.decDigits d.m.toNat) := by rw [em, digits1_val n _ hn (by omega), Int.toNat_natCast]
  have i3 : clepsydraref07_digits_f n d.w 1 = some (Lib.decDigits d.w.toNat) := by rw [ew, digits1_val n _ hn (by omega), Int.toNat_natCast]
  have hj : clepsydraref07_dayText_j0 n [] d.k d.m d.w d.d d.t = some (headT d, d.k, d.m, d.w, d.d, d.t) := by
    rw [clepsydraref07_dayText_j0, clepsydraref07_dayText_j0_b, i1, i2, i3]
    unfold headT
    rw [beqI, beqI, beqI]
    by_cases h1 : d.k = 1
    · rw [cond_pos h1, if_pos h1]
      simp only [Option.bind_some]
      rw [cond_pos (by simp only [List.length_cons, List.length_nil]; omega)]
      rfl
    · rw [cond_neg h1, if_neg h1]
      by_cases h3 : d.k = 3
      · rw [cond_neg (show ¬ d.k = 2 by omega), cond_pos h3, if_pos h3]
        simp only [Option.bind_some]
        rw [cond_pos (by simp; omega), cond_pos (by simp; omega), cond_pos (by simp; omega), cond_pos (by simp; omega), cond_pos (by simp; omega)]
        simp
      · rw [cond_pos (show d.k = 2 by omega), if_neg h3]
        rfl
  rw [hj]
  simp only [Option.bind_some]
  unfold dayT
  by_cases ht : d.t = 7200
  · rw [if_pos ht, ht]; simp
  · rw [if_neg ht, show (d.t != 7200) = true by simpa using ht, cond_true, rhoursT_val n d.t hn (by omega)]
    simp only [Option.bind_some]
    rw [cond_pos (by simp; omega), cond_pos (by simp; omega)]
    simp

theorem rtext_val (n : Nat) (r : RuleV) (hn : 200 < n) (h : rightS r = true) : clepsydraref07_Text_f n r.std r.dst r.off r.doff r.a.k r.a.m r.a.w r.a.d r.a.t r.b.k r.b.m r.b.w r.b.d r.b.t = some (textT r) := by
  obtain ⟨h1, h2, h3, h4⟩ := right_of h
  have l1 := isName_len h1
  have l2 := putT_len r.std
  have l3 := hoursT_len (-r.off) (by omega)
  unfold clepsydraref07_Text_f clepsydraref07_Text_b
  rw [rput_val n r.std (by omega) (by omega), wi (0 - r.off) (by omega) (by omega), Int.zero_sub, rhoursT_val n _ (by omega) (by omega)]
  simp only [Option.bind_some]
  rw [cond_pos (by omega)]
  unfold textT
  rcases h4 with ⟨h4, _⟩ | ⟨h4, h5, h6, h7, h8, h9⟩
  · rw [if_pos h4, h4]; simp
  · have l4 := isName_len h4
    have l5 := putT_len r.dst
    have l6 := offT_len r.off r.doff (by omega)
    have l7 := dayT_len r.a h8
    have l8 := dayT_len r.b h9
    have l9 := hoursT_len (-r.doff) (by omega)
    rw [if_neg h5, show (r.dst == ([] : Str)) = false by simpa using h5, cond_false, rput_val n r.dst (by omega) (by omega)]
    simp only [Option.bind_some]
    rw [cond_pos (by simp only [List.length_append]; omega)]
    have hj : clepsydraref07_Text_j0 n (putT r.std ++ hoursT (-r.off) ++ putT r.dst) r.std r.dst r.off r.doff r.a.k r.a.m r.a.w r.a.d r.a.t r.b.k r.b.m r.b.w r.b.d r.b.t = some (putT r.std ++ hoursT (-r.off) ++ putT r.dst ++ offT r.off r.doff, r.std, r.dst, r.off, r.doff, r.a.k, r.a.m, r.a.w, r.a.d, r.a.t, r.b.k, r.b.m, r.b.w, r.b.d, r.b.t) := by
      rw [clepsydraref07_Text_j0, clepsydraref07_Text_j0_b, wi (r.off + 3600) (by omega) (by omega), wi (0 - r.doff) (by omega) (by omega), Int.zero_sub]
      unfold offT
      by_cases he : r.doff = r.off + 3600
      · rw [if_pos he, he]; simp
      · rw [if_neg he, show (r.doff != r.off + 3600) = true by simpa using he, cond_true, rhoursT_val n _ (by omega) (by omega)]
        simp only [Option.bind_some]
        rw [cond_pos (by simp only [List.length_append]; omega)]
    rw [hj]
    simp only [Option.bind_some]
    rw [rdayT_val n r.a (by omega) h8, rdayT_val n r.b (by omega) h9]
    simp only [Option.bind_some]
    rw [cond_pos (by simp only [List.length_append, List.length_cons, List.length_nil]; omega), cond_pos (by simp only [List.length_append, List.length_cons, List.length_nil]; omega), cond_pos (by simp only [List.length_append, List.length_cons, List.length_nil]; omega), cond_pos (by simp only [List.length_append, List.length_cons, List.length_nil]; omega)]
    simp
theorem footerTexts_law (n : Nat) (hn : 200 < n) (r : RuleV) : clepsydralaw07_FooterTexts_f n r.std r.dst r.off r.doff r.a.k r.a.m r.a.w r.a.d r.a.t r.b.k r.b.m r.b.w r.b.d r.b.t = some true := by
  unfold clepsydralaw07_FooterTexts_f clepsydralaw07_FooterTexts_b
  rw [clepsydralaw07_FooterTexts_j0, clepsydralaw07_FooterTexts_j0_b, works_val n hn]
  by_cases h1 : (r.std.length : Int) > 50
  · rw [cond_pos h1]; rfl
  · rw [cond_neg h1]
    by_cases h2 : (r.dst.length : Int) > 50
    · rw [decide_eq_true h2]; rfl
    · rw [decide_eq_false h2]
      simp only [Option.bind_some, cond_false, clepsydralaw07_plain_f, clepsydralaw07_plain_b]
      rw [right_val n _ _ _ _ _ _ _ _ _ _ _ _ _ _ (by omega) (by omega) (by omega) (by omega), rright_val n _ _ _ _ _ _ _ _ _ _ _ _ _ _ (by omega) (by omega) (by omega) (by omega)]
      cases h : rightS r with
      | true =>
        rw [text_val n r hn h, rtext_val n r hn h]
        simp [h]
      | false =>
        rw [text_bad n r hn (by omega) (by omega) h]
        simp [h]
end Go.Proofs.YtpooncihlnllnaaGreatDoor.H

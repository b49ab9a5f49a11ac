/- Chapter 07: numbers and hours written by the program. -/
import Derived.Test.YtpooncihlnllnaaDoorT23
import Derived.Test.YtpooncihlnllnaaDoorU3
namespace Go.Proofs.YtpooncihlnllnaaDoor.H
open Go.Sh Go.RowKit
set_option linter.unusedSimpArgs false
set_option linter.unusedVariables false

/-! ### numbers -/
theorem itoa_val (n a : Nat) (ha : a < 9223372036854775807) : strconv_Itoa_f n (a : Int) = some (Lib.decDigits a) := by
  unfold strconv_Itoa_f
  have h1 : (decide (-9223372036854775808 ≤ (a : Int)) && decide ((a : Int) ≤ 9223372036854775807)) = true := by
    rw [decide_eq_true (by omega), decide_eq_true (by omega)]; rfl
  rw [h1, cond_true, Lib.itoa, if_neg (by omega), Int.toNat_natCast]
def digC (a : Nat) : UInt8 := UInt8.ofNat (48 + a)
theorem decD (a : Nat) : Lib.decDigits a = (if a / 10 = 0 then [] else Lib.decDigits (a / 10)) ++ [digC (a % 10)] := by
  rw [Lib.decDigits]
  by_cases h : a < 10
  · rw [dif_pos h, if_pos (by omega), Nat.mod_eq_of_lt h]; rfl
  · rw [dif_neg h, if_neg (by omega)]; rfl
def two (a : Nat) : Str := [digC (a / 10), digC (a % 10)]
theorem two_itoa (a : Nat) (h : a < 100) : (Lib.decDigits (100 + a)).drop 1 = two a := by
  rw [decD, if_neg (by omega), Lib.decDigits_two (by omega) (by omega)]
  rw [show (100 + a) / 10 % 10 = a / 10 by omega, show (100 + a) % 10 = a % 10 by omega]
  rfl
/-! ### hours -/
def hourT (a : Nat) : Str := Lib.decDigits (a / 3600) ++ (if a % 3600 = 0 then [] else 58 :: two (a / 60 % 60)) ++ (if a % 60 = 0 then [] else 58 :: two (a % 60))
def hoursT (x : Int) : Str := if x < 0 then 45 :: hourT x.natAbs else hourT x.natAbs
theorem decLen (a : Nat) (h : a < 1000) : (Lib.decDigits a).length ≤ 3 := by
  rw [decD]
  by_cases h1 : a / 10 = 0
  · rw [if_pos h1]; simp
  · rw [if_neg h1, decD]
    by_cases h2 : a / 10 / 10 = 0
    · rw [if_pos h2]; simp
    · rw [if_neg h2, Lib.decDigits_one (by omega)]; simp
theorem hourT_len (a : Nat) (h : a < 1000000) : (hourT a).length ≤ 9 := by
  have := decLen (a / 3600) (by omega)
  unfold hourT
  simp only [List.length_append]
  split <;> split <;> simp [two] <;> omega
theorem hoursT_len (x : Int) (h : x.natAbs < 1000000) : (hoursT x).length ≤ 10 := by
  have := hourT_len x.natAbs h
  unfold hoursT
  split
  · simp only [List.length_cons]; omega
  · omega
theorem tm (a b : Nat) : Int.tmod (a : Int) (b : Int) = ((a % b : Nat) : Int) := rfl
theorem td (a b : Nat) : Int.tdiv (a : Int) (b : Int) = ((a / b : Nat) : Int) := rfl
theorem bneN (a : Nat) : ((a : Int) != 0) = !decide (a = 0) := by by_cases h : a = 0 <;> simp [h]

theorem hour_part (n a : Nat) (s : Str) (ha : a < 1000000) (hs : s.length < 1000) :
    footer_hours_j0 n (a : Int) s [3600, 60] 0 = some (s ++ (if a % 3600 = 0 then [] else 58 :: two (a / 60 % 60)))
    ∧ footer_hours_j0 n (a : Int) s [3600, 60] 1 = some (s ++ (if a % 60 = 0 then [] else 58 :: two (a % 60))) := by
  have e1 : Int.tmod (a : Int) 3600 = ((a % 3600 : Nat) : Int) := rfl
  have e2 : Int.tmod (a : Int) 60 = ((a % 60 : Nat) : Int) := rfl
  constructor
  · rw [footer_hours_j0, footer_hours_j0_b]
    rw [show ([3600, 60] : List Int)[(0 : Int).toNat]? = some 3600 from rfl]
    simp only [Option.bind_some, show ((3600 : Int) == 0) = false from rfl, cond_false, e1, bneN, show Int.tdiv 3600 60 = 60 from rfl]
    rw [wi 60 (by omega) (by omega)]
    rw [cond_pos (by omega)]
    by_cases h : a % 3600 = 0
    · simp [h]
    · simp only [h, decide_false, Bool.not_false, cond_true, show ((60 : Int) == 0) = false from rfl, cond_false, if_false]
      have e3 : Int.tdiv ((a % 3600 : Nat) : Int) 60 = ((a % 3600 / 60 : Nat) : Int) := rfl
      rw [e3, wi ((a % 3600 / 60 : Nat) : Int) (by omega) (by omega), wi (100 + _) (by omega) (by omega)]
      rw [show (100 : Int) + ((a % 3600 / 60 : Nat) : Int) = ((100 + a % 3600 / 60 : Nat) : Int) by omega, itoa_val n _ (by omega)]
      simp only [Option.bind_some]
      have hlen : (Lib.decDigits (100 + a % 3600 / 60)).length ≤ 3 := decLen _ (by omega)
      have hd := two_itoa (a % 3600 / 60) (by omega)
      have hl1 : 1 ≤ (Lib.decDigits (100 + a % 3600 / 60)).length := by
        have := congrArg List.length hd
        simp only [List.length_drop, two, List.length_cons, List.length_nil] at this
        omega
      rw [cond_pos (by omega), hd]
      rw [cond_pos (by simp [two]), cond_pos (by simp [two]; omega)]
      rw [show a % 3600 / 60 = a / 60 % 60 by omega]
      rfl
  · rw [footer_hours_j0, footer_hours_j0_b]
    rw [show ([3600, 60] : List Int)[(1 : Int).toNat]? = some 60 from rfl]
    simp only [Option.bind_some, show ((60 : Int) == 0) = false from rfl, cond_false, e2, bneN, show Int.tdiv 60 60 = 1 from rfl]
    rw [wi 1 (by omega) (by omega)]
    rw [cond_pos (by omega)]
    by_cases h : a % 60 = 0
    · simp [h]
    · simp only [h, decide_false, Bool.not_false, cond_true, show ((1 : Int) == 0) = false from rfl, cond_false, if_false]
      have e3 : Int.tdiv ((a % 60 : Nat) : Int) 1 = ((a % 60 / 1 : Nat) : Int) := rfl
      rw [e3, Nat.div_one, wi ((a % 60 : Nat) : Int) (by omega) (by omega), wi (100 + _) (by omega) (by omega)]
      rw [show (100 : Int) + ((a % 60 : Nat) : Int) = ((100 + a % 60 : Nat) : Int) by omega, itoa_val n _ (by omega)]
      simp only [Option.bind_some]
      have hd := two_itoa (a % 60) (by omega)
      have hl1 : 1 ≤ (Lib.decDigits (100 + a % 60)).length := by
        have := congrArg List.length hd
        simp only [List.length_drop, two, List.length_cons, List.length_nil] at this
        omega
      rw [cond_pos (by omega), hd]
      rw [cond_pos (by simp [two]), cond_pos (by simp [two]; omega)]
      rfl
theorem hour_l (n a : Nat) (hn : 5 < n) (ha : a < 1000000) : (footer_hours_l0 n n (a : Int) (Lib.decDigits (a / 3600)) [3600, 60] 2 0) = some (hourT a) := by
  obtain ⟨k, hk⟩ : ∃ k, n = k + 3 := ⟨n - 3, by omega⟩
  have hl := decLen (a / 3600) (by omega)
  conv => lhs; arg 2; rw [hk]
  rw [footer_hours_l0, footer_hours_l0_b, cond_pos (by omega), (hour_part n a _ ha (by omega)).1]
  simp only [Option.bind_some]
  rw [show IntKind.i64.wrap (0 + 1) = 1 from rfl, footer_hours_l0, footer_hours_l0_b, cond_pos (by omega), (hour_part n a _ ha (by simp only [List.length_append]; split <;> simp [two] <;> omega)).2]
  simp only [Option.bind_some]
  rw [show IntKind.i64.wrap (1 + 1) = 2 from rfl, footer_hours_l0, footer_hours_l0_b, cond_neg (by omega)]
  rfl
theorem hour_l1 (n a : Nat) (hn : 5 < n) (ha : a < 1000000) : (footer_hours_1_l0 n n (a : Int) (Lib.decDigits (a / 3600)) [3600, 60] 2 0) = some (hourT a) := by
  have h : ∀ (m : Nat) (x : Int) (s : Str) (l : List Int) (i j : Int), footer_hours_1_l0 n m x s l i j = footer_hours_l0 n m x s l i j := by
    intro m
    induction m with
    | zero => intros; rfl
    | succ m ih =>
      intro x s l i j
      rw [footer_hours_1_l0, footer_hours_l0, footer_hours_1_l0_b, footer_hours_l0_b]
      rw [show footer_hours_1_j0 n x s l j = footer_hours_j0 n x s l j from rfl]
      simp only [ih]
  rw [h]
  exact hour_l n a hn ha
theorem hoursT_val (n : Nat) (x : Int) (hn : 5 < n) (hx : x.natAbs < 1000000) : footer_hours_f n x = some (hoursT x) := by
  unfold footer_hours_f footer_hours_b
  have hl := hourT_len x.natAbs hx
  by_cases h : x < 0
  · rw [cond_pos h, hoursT, if_pos h]
    unfold footer_hours_1_f footer_hours_1_b
    obtain ⟨a, rfl⟩ : ∃ a : Nat, x = -(a : Int) := ⟨x.natAbs, by omega⟩
    rw [Int.natAbs_neg, Int.natAbs_natCast] at *
    rw [show (0 : Int) - -(a : Int) = (a : Int) by omega, wi (a : Int) (by omega) (by omega), cond_neg (by omega)]
    have e : Int.tdiv (a : Int) 3600 = ((a / 3600 : Nat) : Int) := rfl
    rw [e, wi _ (by omega) (by omega), itoa_val n _ (by omega)]
    simp only [Option.bind_some]
    rw [show ((([3600, 60] : List Int).length : Nat) : Int) = 2 from rfl, hour_l1 n a hn hx]
    simp only [Option.bind_some]
    rw [cond_pos (by simp only [List.length_cons, List.length_nil]; omega)]
    rfl
  · rw [cond_neg h, hoursT, if_neg h]
    obtain ⟨a, rfl⟩ : ∃ a : Nat, x = (a : Int) := ⟨x.natAbs, by omega⟩
    rw [Int.natAbs_natCast] at *
    have e : Int.tdiv (a : Int) 3600 = ((a / 3600 : Nat) : Int) := rfl
    rw [e, wi _ (by omega) (by omega), itoa_val n _ (by omega)]
    simp only [Option.bind_some]
    rw [show ((([3600, 60] : List Int).length : Nat) : Int) = 2 from rfl, hour_l n a hn hx]
    rfl
end Go.Proofs.YtpooncihlnllnaaDoor.H

/- Chapter 02: the laws TimespanUnits, TimespanSums, TimespanKnown. -/
import Derived.Test.YtmdnbpndhnjiaaaDoorU8
import Derived.Test.YtmdnbpndhnjiaaaDoorT4
import Derived.Test.YtmdnbpndhnjiaaaDoorT5
import Derived.Test.YtmdnbpndhnjiaaaDoorT35
namespace Go.Proofs.YtmdnbpndhnjiaaaDoor.H
open Go.Sh Go.RowKit
set_option linter.unusedSimpArgs false
set_option linter.unusedVariables false

/-! ### so many of a unit -/
/-- So many digits. -/
def sixS (j : Nat) (f : Nat) : Str := match j with
  | 0 => []
  | j + 1 => sixS j (f / 10) ++ [digC (f % 10)]
theorem sixS_ok : ∀ (j f : Nat), (sixS j f).all digB = true ∧ (sixS j f).length = j ∧ (f < 10 ^ j → valN (sixS j f) = f)
  | 0, f => ⟨rfl, rfl, fun h => by simp at h; subst h; rfl⟩
  | j + 1, f => by
    obtain ⟨h1, h2, h3⟩ := sixS_ok j (f / 10)
    have hm := digC_dig (f % 10) (Nat.mod_lt _ (by omega))
    refine ⟨by simp [sixS, h1, hm.1], by simp [sixS, h2], fun h => ?_⟩
    have hp : (10 : Nat) ^ (j + 1) = 10 ^ j * 10 := Nat.pow_succ ..
    rw [sixS, valN_snoc, h3 (by omega), hm.2]
    omega
theorem six_loop (n : Nat) : ∀ (m i f : Nat) (t : Str), 6 - i < m → i ≤ 6 → t.length + 6 ≤ 1000 + i → f < 9223372036854775808 → clepsydralaw02_TimespanUnits_l1 n m (f : Int) t (i : Int) = some (sixS (6 - i) f ++ t)
  | 0, i, f, t, hm, _, _, _ => by omega
  | m + 1, i, f, t, hm, hi, ht, hf => by
    rw [clepsydralaw02_TimespanUnits_l1, clepsydralaw02_TimespanUnits_l1_b]
    by_cases h : i < 6
    · have hmod := Nat.mod_lt f (show 0 < 10 by omega)
      have e1 : Int.tmod (f : Int) 10 = ((f % 10 : Nat) : Int) := rfl
      have e2 : Int.tdiv (f : Int) 10 = ((f / 10 : Nat) : Int) := rfl
      rw [cond_pos (by omega), e1, e2, wrap1 _ (by omega), cond_pos (by omega), cond_pos (by simp only [List.length_cons, List.length_nil]; omega), cond_pos (by omega), Int.toNat_natCast, cond_pos (by omega), Int.toNat_natCast, digit_cut _ hmod, cond_pos (by simp only [List.length_cons, List.length_nil]; omega), i64N _ (by omega), wrap1 i (by omega),
        six_loop n m (i + 1) (f / 10) _ (by omega) (by omega) (by simp only [List.length_append, List.length_cons, List.length_nil]; omega) (by omega)]
      rw [show 6 - i = (6 - (i + 1)) + 1 by omega, sixS, List.append_assoc]
    · rw [cond_neg (by omega), show 6 - i = 0 by omega]
      rfl
theorem num_loop (n : Nat) : ∀ (j m k : Nat) (t : Str), j < m → k < 10 ^ j → k < 9223372036854775808 → t.length + j < 1000000 → (k = 0 → t ≠ []) → clepsydralaw02_TimespanUnits_l0 n m t (k : Int) = some ((if k = 0 then [] else Lib.decDigits k) ++ t)
  | j, 0, k, t, hj, _, _, _, _ => by omega
  | j, m + 1, k, t, hj, hk, hk2, ht, hz => by
    rw [clepsydralaw02_TimespanUnits_l0, clepsydralaw02_TimespanUnits_l0_b, clepsydralaw02_TimespanUnits_j0, clepsydralaw02_TimespanUnits_j0_b]
    by_cases h : k = 0
    · subst h
      rw [cond_neg (by omega), show (t == []) = false by simpa using hz rfl]
      rfl
    · have hm := Nat.mod_lt k (show 0 < 10 by omega)
      have e1 : Int.tmod (k : Int) 10 = ((k % 10 : Nat) : Int) := rfl
      have e2 : Int.tdiv (k : Int) 10 = ((k / 10 : Nat) : Int) := rfl
      obtain ⟨j', rfl⟩ : ∃ j', j = j' + 1 := by
        cases j with
        | zero => simp at hk; omega
        | succ j' => exact ⟨j', rfl⟩
      have hp : (10 : Nat) ^ (j' + 1) = 10 ^ j' * 10 := Nat.pow_succ ..
      rw [cond_pos (by omega), Option.bind_some, cond_true, e1, e2, wrap1 _ (by omega), cond_pos (by omega), cond_pos (by simp only [List.length_cons, List.length_nil]; omega), cond_pos (by omega), Int.toNat_natCast, cond_pos (by omega), Int.toNat_natCast, digit_cut _ hm, cond_pos (by simp only [List.length_cons, List.length_nil]; omega), i64N _ (by omega),
        num_loop n j' m (k / 10) _ (by omega) (by omega) (by omega) (by simp only [List.length_append, List.length_cons, List.length_nil]; omega) (fun _ => by simp), if_neg h]
      congr 1
      conv => rhs; rw [decD]
      by_cases h10 : k / 10 = 0
      · rw [if_pos h10]; rfl
      · rw [if_neg h10]; simp
theorem num_val (n k : Nat) (hn : 100 < n) (hk : k < 1000000000) : clepsydralaw02_TimespanUnits_l0 n n [] (k : Int) = some (Lib.decDigits k) := by
  obtain ⟨m, rfl⟩ : ∃ m, n = m + 1 := ⟨n - 1, by omega⟩
  have hm := Nat.mod_lt k (show 0 < 10 by omega)
  have e1 : Int.tmod (k : Int) 10 = ((k % 10 : Nat) : Int) := rfl
  have e2 : Int.tdiv (k : Int) 10 = ((k / 10 : Nat) : Int) := rfl
  rw [clepsydralaw02_TimespanUnits_l0, clepsydralaw02_TimespanUnits_l0_b, clepsydralaw02_TimespanUnits_j0, clepsydralaw02_TimespanUnits_j0_b]
  have hb : cond (decide ((k : Int) > 0)) (some true) (some (([] : Str) == [])) = some true := by cases decide ((k : Int) > 0) <;> rfl
  rw [hb, Option.bind_some, cond_true, e1, e2, wrap1 _ (by omega), cond_pos (by omega), cond_pos (by simp only [List.length_cons, List.length_nil]; omega), cond_pos (by omega), Int.toNat_natCast, cond_pos (by omega), Int.toNat_natCast, digit_cut _ hm, cond_pos (by simp only [List.length_cons, List.length_nil]; omega), i64N _ (by omega),
    num_loop (m + 1) 9 m (k / 10) _ (by omega) (by omega) (by omega) (by simp) (fun _ => by simp)]
  congr 1
  conv => rhs; rw [decD]
  by_cases h10 : k / 10 = 0
  · rw [if_pos h10]; rfl
  · rw [if_neg h10]; simp

/-! ### the names of units -/
theorem names_all : (List.range 29).all (fun k => match clepsydralaw02_TimespanUnits_c0[k]? with | none => false | some s => decide (clepsydralaw02_TimespanUnits_c1[k]? = some ((unitN s : Nat) : Int)) && s.all letB && decide (unitN s ≠ 0) && decide (s.length ≤ 7)) = true := by decide +kernel
theorem name_at (k : Nat) (h : k < 29) : ∃ s : Str, clepsydralaw02_TimespanUnits_c0[k]? = some s ∧ clepsydralaw02_TimespanUnits_c1[k]? = some ((unitN s : Nat) : Int) ∧ s.all letB = true ∧ unitN s ≠ 0 ∧ s.length ≤ 7 := by
  have := List.all_eq_true.1 names_all k (List.mem_range.2 h)
  split at this
  · exact absurd this (by decide)
  · rename_i s hs
    simp only [Bool.and_eq_true, decide_eq_true_eq] at this
    exact ⟨s, hs, this.1.1.1, this.1.1.2, this.1.2, this.2⟩
theorem parse_one (w f b u : Str) (g v : Nat) (h1 : w.all digB = true) (h2 : w ≠ []) (h3 : f = [] ∧ g = 0 ∨ ∃ d : Str, f = 46 :: d ∧ d.all digB = true ∧ d.length = 6 ∧ g = valN d) (h4 : b.all blkB = true) (h5 : u.all letB = true) (h6 : unitN u ≠ 0) (h7 : longS (valN w) g (unitN u) = v) (h8 : v < 9223372036854775807) : parseS (w ++ (f ++ (b ++ u))) = ((v : Int), 0) := by
  rw [parse_items (items_one w f b u g h1 h2 h3 h4 h5 h6) (by simp), totS]
  subst h7
  rw [show ([longS (valN w) g (unitN u)] : List Nat).sum = longS (valN w) g (unitN u) by simp, if_pos h8]
theorem longS_0 (w u : Nat) : longS w 0 u = w * u := by unfold longS; simp
theorem is_yes (n : Nat) (s : Str) (m : Int) (hn : s.length < n) (hl : s.length < 281474976710656) (h : parseS s = (m, 0)) : clepsydralaw02_is_f n s m 0 = some true := by
  rw [is_val n s m 0 hn hl, h, decide_eq_true rfl]
theorem is_no (n : Nat) (s : Str) (hn : s.length < n) (hl : s.length < 281474976710656) (h : parseS s = (0, 6)) : clepsydralaw02_is_f n s 0 6 = some true := by
  rw [is_val n s 0 6 hn hl, h, decide_eq_true rfl]
theorem units_nat (n : Nat) (hn : 2000 ≤ n) (a b c : Nat) (ha : a < 4294967296) (hb : b < 4294967296) (hc : c < 256) : clepsydralaw02_TimespanUnits_f n (a : Int) (b : Int) (c : Int) = some true := by
  unfold clepsydralaw02_TimespanUnits_f clepsydralaw02_TimespanUnits_b
  have hw := works_val n (by omega)
  have e0 : (clepsydralaw02_TimespanUnits_c0.length : Int) = 29 := rfl
  have e1 : Int.tmod (a : Int) 262144 = ((a % 262144 : Nat) : Int) := rfl
  have e2 : Int.tmod (b : Int) 1000000 = ((b % 1000000 : Nat) : Int) := rfl
  have e3 : Int.tmod (c : Int) 29 = ((c % 29 : Nat) : Int) := rfl
  have hq := Nat.mod_lt a (show 0 < 262144 by omega)
  have hf := Nat.mod_lt b (show 0 < 1000000 by omega)
  have hk := Nat.mod_lt c (show 0 < 29 by omega)
  rw [e0, show ((29 : Int) == 0) = false by rfl, cond_false, i64N c (by omega), e3, e1, e2, i64N (a % 262144) (by omega), i64N (b % 1000000) (by omega)]
  generalize a % 262144 = q at hq ⊢
  generalize b % 1000000 = f at hf ⊢
  generalize c % 29 = k at hk ⊢
  obtain ⟨s, g1, g2, g3, g4, g5⟩ := name_at k hk
  obtain ⟨d1, d2, d3⟩ := dec_all q
  have d4 := (fmt_val n q (by omega)).2
  obtain ⟨s1, s2, s3⟩ := sixS_ok 6 f
  have hu := unitN_le s
  have hqu : q * unitN s ≤ 262143 * 31557600000000 := Nat.mul_le_mul (by omega) hu
  obtain ⟨m1, m2⟩ := more_lt f (unitN s) hf hu
  have h6 : clepsydralaw02_TimespanUnits_l1 n n (f : Int) [] 0 = some (sixS (6 - 0) f ++ []) := six_loop n n 0 f [] (by omega) (by omega) (by simp) (by omega)
  rw [h6, Option.bind_some, num_val n q (by omega) (by omega), Option.bind_some]
  have sx : sixS (6 - 0) f ++ [] = sixS 6 f := List.append_nil _
  have more : longS q f (unitN s) = q * unitN s + (unitN s / 1000000 * f + unitN s % 1000000 * f / 1000000) := rfl
  have p1 : parseS (Lib.decDigits q ++ s) = (((q * unitN s : Nat) : Int), 0) := parse_one (Lib.decDigits q) [] [] s 0 _ d1 d3 (.inl ⟨rfl, rfl⟩) rfl g3 g4 (by rw [longS_0, d2]) (by omega)
  have p2 : parseS ((Lib.decDigits q ++ [32, 9]) ++ s) = (((q * unitN s : Nat) : Int), 0) := by
    rw [List.append_assoc]
    exact parse_one (Lib.decDigits q) [] [32, 9] s 0 _ d1 d3 (.inl ⟨rfl, rfl⟩) rfl g3 g4 (by rw [longS_0, d2]) (by omega)
  have p3 : parseS (((Lib.decDigits q ++ [46]) ++ sixS 6 f) ++ s) = (((longS q f (unitN s) : Nat) : Int), 0) := by
    have := parse_one (Lib.decDigits q) (46 :: sixS 6 f) [] s f (longS q f (unitN s)) d1 d3 (.inr ⟨_, rfl, s1, s2, (s3 (by omega)).symm⟩) rfl g3 g4 (by rw [d2]) (by omega)
    rw [List.append_assoc, List.append_assoc]
    exact this
  have l1 : (Lib.decDigits q ++ s).length ≤ 40 := by rw [List.length_append]; omega
  have l2 : ((Lib.decDigits q ++ [32, 9]) ++ s).length ≤ 40 := by simp only [List.length_append, List.length_cons, List.length_nil]; omega
  have l3 : (((Lib.decDigits q ++ [46]) ++ sixS 6 f) ++ s).length ≤ 40 := by simp only [List.length_append, List.length_cons, List.length_nil]; omega
  have w1 : IntKind.i64.wrap ((q : Int) * ((unitN s : Nat) : Int)) = ((q * unitN s : Nat) : Int) := by rw [← Int.natCast_mul, i64N _ (by omega)]
  have k0 : ∀ (α : Type) (x y : α), cond (decide (0 ≤ (k : Int))) x y = x := fun α x y => cond_pos (by omega) x y
  have v2 : (Lib.decDigits q ++ [32, 9]).length + s.length ≤ 9223372036854775807 := by rw [← List.length_append]; omega
  have v3 : ((Lib.decDigits q ++ [46]) ++ sixS 6 f).length + s.length ≤ 9223372036854775807 := by rw [← List.length_append]; omega
  rw [sx, k0, Int.toNat_natCast, g2, Option.bind_some, k0, Option.bind_some, k0, g1, Option.bind_some, cond_pos (by omega), k0, Option.bind_some, w1, is_yes n _ _ (by omega) (by omega) p1, Option.bind_some, cond_true,
    cond_pos (by simp only [List.length_cons, List.length_nil]; omega), k0, Option.bind_some, cond_pos v2, k0, Option.bind_some, w1, is_yes n _ _ (by omega) (by omega) p2, Option.bind_some, cond_true,
    cond_pos (by simp only [List.length_cons, List.length_nil]; omega), cond_pos (by simp only [List.length_append, List.length_cons, List.length_nil]; omega), k0, Option.bind_some, cond_pos v3, k0, Option.bind_some, w1, more_val f (unitN s) hf hu, ← Int.natCast_add, i64N _ (by omega), ← more, is_yes n _ _ (by omega) (by omega) p3, Option.bind_some, cond_true, hw]
  rfl
theorem TimespanUnits_law (n : Nat) (hn : 2000 ≤ n) (a b c : Int) (ha : 0 ≤ a ∧ a < 4294967296) (hb : 0 ≤ b ∧ b < 4294967296) (hc : 0 ≤ c ∧ c < 256) : clepsydralaw02_TimespanUnits_f n a b c = some true := by
  obtain ⟨a, rfl⟩ := Int.eq_ofNat_of_zero_le ha.1
  obtain ⟨b, rfl⟩ := Int.eq_ofNat_of_zero_le hb.1
  obtain ⟨c, rfl⟩ := Int.eq_ofNat_of_zero_le hc.1
  exact units_nat n hn a b c (by omega) (by omega) (by omega)
end Go.Proofs.YtmdnbpndhnjiaaaDoor.H

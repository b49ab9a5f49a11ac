/- Chapter 02: the program's parser of a whole text. -/
import Derived.Test.YtmdnbpndhnjiaaaDoorU2
namespace Go.Proofs.YtmdnbpndhnjiaaaDoor.H
open Go.Sh Go.RowKit
set_option linter.unusedSimpArgs false
set_option linter.unusedVariables false

/-! ### numbers that fit -/
theorem u64_in (a : Int) (h0 : 0 ≤ a) (h1 : a < 18446744073709551616) : IntKind.u64.wrap a = a := by rw [IntKind.wrap_u64]; omega
theorem minus_val (n a : Nat) (h : a < 9223372036854775808) : usec_minus_f n (a : Int) = some 0 := by
  unfold usec_minus_f usec_minus_b
  rw [u64_in _ (by omega) (by omega), Int.fdiv_eq_ediv_of_nonneg _ (by omega), show (2 ^ 63 : Int) = 9223372036854775808 by rfl]
  congr 1
  omega
theorem told_val (n : Nat) (a : Int) (b : Bool) : usec_told_f n a b = some (if b then (a, true) else (0, false)) := by
  unfold usec_told_f usec_told_b
  cases b <;> rfl
theorem add_val (n a b : Nat) (ha : a < 9223372036854775808) (hb : b < 9223372036854775808) : usec_Add_f n (a : Int) (b : Int) = some (if a + b < 9223372036854775808 then (((a + b : Nat) : Int), true) else (0, false)) := by
  unfold usec_Add_f usec_Add_b
  rw [minus_val n a ha, minus_val n b hb]
  simp only [Option.bind_some, bne_self_eq_false, cond_false]
  by_cases h : a + b < 9223372036854775808
  · rw [show IntKind.i64.wrap ((a : Int) + (b : Int)) = ((a + b : Nat) : Int) by rw [IntWalk.i64_in _ (by omega)]; omega, minus_val n (a + b) h]
    simp only [Option.bind_some, told_val, beq_self_eq_true, if_true]
    rw [if_pos h]
  · have hw : IntKind.i64.wrap ((a : Int) + (b : Int)) = (a : Int) + (b : Int) - 18446744073709551616 := by rw [IntKind.wrap_i64]; omega
    have hm : usec_minus_f n ((a : Int) + (b : Int) - 18446744073709551616) = some 1 := by
      unfold usec_minus_f usec_minus_b
      have : IntKind.u64.wrap ((a : Int) + (b : Int) - 18446744073709551616) = (a : Int) + (b : Int) := by rw [IntKind.wrap_u64]; omega
      rw [this, Int.fdiv_eq_ediv_of_nonneg _ (by omega), show (2 ^ 63 : Int) = 9223372036854775808 by rfl]
      congr 1
      omega
    rw [hw, hm]
    simp only [Option.bind_some, told_val]
    rw [if_neg h]
    rfl
theorem size_val (n a : Nat) (h : a < 9223372036854775808) : usec_size_f n (a : Int) = some (a : Int) := by
  unfold usec_size_f usec_size_b
  rw [cond_neg (by omega), u64_in _ (by omega) (by omega)]
theorem mul64_val (n a b : Nat) (ha : a < 9223372036854775808) (hb : b < 9223372036854775808) : bits_Mul64_f n (a : Int) (b : Int) = some (((a * b / 18446744073709551616 : Nat) : Int), ((a * b % 18446744073709551616 : Nat) : Int)) := by
  unfold bits_Mul64_f
  rw [decide_eq_true (by omega), decide_eq_true (by omega), decide_eq_true (by omega), decide_eq_true (by omega)]
  simp only [Bool.and_self, cond_true]
  rw [← Int.natCast_mul]
  generalize a * b = p
  rfl
theorem told_hi (n p : Nat) : cond (((p / 18446744073709551616 : Nat) : Int) != 0) (some ((0 : Int), false)) ((usec_told_f n (IntKind.i64.wrap ((p % 18446744073709551616 : Nat) : Int)) (decide (((p % 18446744073709551616 : Nat) : Int) < 9223372036854775808))).bind fun o => some (o.1, o.2)) = some (if p < 9223372036854775808 then ((p : Int), true) else (0, false)) := by
  rw [told_val]
  by_cases h1 : p / 18446744073709551616 = 0
  · rw [h1, show (((0 : Nat) : Int) != 0) = false by rfl, cond_false]
    by_cases h2 : p < 9223372036854775808
    · rw [show p % 18446744073709551616 = p by omega, decide_eq_true (by omega), IntWalk.i64_in _ (by omega), if_pos h2]
      rfl
    · rw [decide_eq_false (by omega), if_neg h2]
      rfl
  · rw [show (((p / 18446744073709551616 : Nat) : Int) != 0) = true by simp; omega, cond_true, if_neg (by omega)]
theorem mul_val (n a b : Nat) (ha : a < 9223372036854775808) (hb : b < 9223372036854775808) : usec_Mul_f n (a : Int) (b : Int) = some (if a * b < 9223372036854775808 then (((a * b : Nat) : Int), true) else (0, false)) := by
  unfold usec_Mul_f usec_Mul_b
  rw [size_val n a ha, Option.bind_some, size_val n b hb, Option.bind_some, mul64_val n a b ha hb, Option.bind_some, minus_val n a ha, Option.bind_some, minus_val n b hb, Option.bind_some, show ((0 : Int) != 0) = false by rfl, cond_false]
  exact told_hi n (a * b)
theorem tq (a b : Nat) : Int.tdiv (a : Int) (b : Int) = ((a / b : Nat) : Int) := rfl
theorem tr (a b : Nat) : Int.tmod (a : Int) (b : Int) = ((a % b : Nat) : Int) := rfl
theorem more_lt (f u : Nat) (hf : f < 1000000) (hu : u ≤ 31557600000000) : u / 1000000 * f ≤ 31557600 * 1000000 ∧ u % 1000000 * f ≤ 1000000 * 1000000 := by
  exact ⟨Nat.mul_le_mul (by omega) (by omega), Nat.mul_le_mul (by omega) (by omega)⟩
theorem more_val (f u : Nat) (hf : f < 1000000) (hu : u ≤ 31557600000000) :
    IntKind.i64.wrap ((IntKind.i64.wrap ((IntKind.i64.wrap (Int.tdiv (u : Int) (1000000 : Int))) * (f : Int))) + (IntKind.i64.wrap (Int.tdiv (IntKind.i64.wrap ((Int.tmod (u : Int) (1000000 : Int)) * (f : Int))) (1000000 : Int)))) = ((u / 1000000 * f + u % 1000000 * f / 1000000 : Nat) : Int) := by
  obtain ⟨h1, h2⟩ := more_lt f u hf hu
  rw [show (1000000 : Int) = ((1000000 : Nat) : Int) by rfl, tq, tr, IntWalk.i64_in ((u / 1000000 : Nat) : Int) (by omega), ← Int.natCast_mul, ← Int.natCast_mul, IntWalk.i64_in ((u / 1000000 * f : Nat) : Int) (by omega), IntWalk.i64_in ((u % 1000000 * f : Nat) : Int) (by omega), tq, IntWalk.i64_in ((u % 1000000 * f / 1000000 : Nat) : Int) (by omega), ← Int.natCast_add, IntWalk.i64_in _ (by omega)]
theorem long_val (n : Nat) (w : Str) (f u : Nat) (hw : w.all digB = true) (hne : w ≠ []) (hl : w.length ≤ 281474976710656) (hf : f < 1000000) (h0 : 0 < u) (hu : u ≤ 31557600000000) :
    timespan_part_long_f n w (f : Int) (u : Int) = some (if longS (valN w) f u < 9223372036854775808 then (((longS (valN w) f u : Nat) : Int), true) else (0, false)) := by
  obtain ⟨h1, h2⟩ := more_lt f u hf hu
  obtain ⟨v, hp⟩ := parse_val n w hw hne hl
  have hle : valN w ≤ valN w * u := Nat.le_mul_of_pos_right _ h0
  unfold timespan_part_long_f timespan_part_long_b
  rw [hp, Option.bind_some]
  unfold longS
  by_cases hv : valN w < 9223372036854775808
  · rw [if_pos hv, cond_true, mul_val n _ u hv (by omega), more_val f u hf hu, Option.bind_some]
    by_cases hm : valN w * u < 9223372036854775808
    · rw [if_pos hm, Bool.not_true, cond_false, add_val n _ _ hm (by omega), Option.bind_some]
    · rw [if_neg hm, if_neg (by omega), Bool.not_false, cond_true]
  · rw [if_neg hv, if_neg (by omega), cond_false]

/-! ### all parts -/
theorem pj0_val (n : Nat) (a b : Bool) (x : Nat) (d : Bool) : timespan_Parse_j0 n a b (x : Int) d = some (a && b && d && decide (x < 9223372036854775807)) := by
  unfold timespan_Parse_j0 timespan_Parse_j0_b
  have : decide ((x : Int) < 9223372036854775807) = decide (x < 9223372036854775807) := by rw [decide_eq_decide]; omega
  cases a <;> cases b <;> cases d <;> simp [this]
theorem parse_loop (n : Nat) : ∀ (m : Nat) (s : Str) (sum : Nat) (fits : Bool), s.length < m → s.length < n → s.length < 281474976710656 → s.dropWhile blkB = s → sum < 9223372036854775808 → (fits = true → sum < 9223372036854775807) →
    match itemsS s with
    | none => timespan_Parse_l0 n m (sum : Int) fits s = some (.inl ())
    | some l => ∃ sum' : Nat, timespan_Parse_l0 n m (sum : Int) fits s = some (.inr ((sum' : Int), fits && decide (sum + l.sum < 9223372036854775807), [])) ∧ (fits = true → sum + l.sum < 9223372036854775807 → sum' = sum + l.sum)
  | 0, s, sum, fits, hm, _, _, _, _, _ => by omega
  | m + 1, s, sum, fits, hm, hn, hl, hs, hsum, hfit => by
    rw [timespan_Parse_l0, timespan_Parse_l0_b]
    by_cases he : s = []
    · subst he
      rw [itemsS_nil rfl]
      refine ⟨sum, ?_, fun _ _ => by simp⟩
      have e : decide (sum + ([] : List Nat).sum < 9223372036854775807) = decide (sum < 9223372036854775807) := rfl
      rw [e]
      simp only [beq_self_eq_true, Bool.not_true, cond_false]
      cases fits with
      | false => rfl
      | true => rw [decide_eq_true (hfit rfl)]; rfl
    · have hs' : s.dropWhile blkB ≠ [] := by rw [hs]; exact he
      rw [show (s == []) = false by simpa using he]
      simp only [Bool.not_false, cond_true]
      have hp := part_val n s hn hl
      cases hps : partS s with
      | none =>
        rw [itemsS_none hs' (by rw [hs]; exact hps)]
        rw [hps] at hp
        obtain ⟨a, b, d, r, hp⟩ := hp
        rw [hp]
        rfl
      | some x =>
        obtain ⟨v, r⟩ := x
        rw [itemsS_some hs' (by rw [hs]; exact hps)]
        have hr := partS_len hps
        rw [hps] at hp
        obtain ⟨f, u, hp, hv, hf, h0, hu, hne⟩ := hp
        rw [hp]
        simp only [Option.bind_some, Bool.not_true, cond_false]
        have htl := tw_len (p := digB) s
        rw [long_val n _ f u (tw_all s) hne (by omega) hf h0 hu, ← hv]
        simp only [Option.bind_some]
        have hrd := dw_len (p := blkB) r
        -- what this part does to the sum
        have key : ∃ all : Nat, ∃ room also : Bool, all < 9223372036854775808 ∧
            (usec_Add_f n (sum : Int) (if v < 9223372036854775808 then (((v : Nat) : Int), true) else ((0 : Int), false)).1 = some ((all : Int), also)) ∧ (if v < 9223372036854775808 then (((v : Nat) : Int), true) else ((0 : Int), false)).2 = room ∧
            (fits && room && also && decide (all < 9223372036854775807)) = (fits && decide (sum + v < 9223372036854775807)) ∧ (fits = true → sum + v < 9223372036854775807 → all = sum + v) := by
          by_cases h1 : v < 9223372036854775808
          · simp only [if_pos h1]
            rw [add_val n sum v hsum h1]
            by_cases h2 : sum + v < 9223372036854775808
            · rw [if_pos h2]
              exact ⟨sum + v, true, true, h2, rfl, rfl, by simp, fun _ _ => rfl⟩
            · rw [if_neg h2]
              refine ⟨0, true, false, by omega, rfl, rfl, ?_, fun _ h => by omega⟩
              rw [decide_eq_false (p := sum + v < 9223372036854775807) (by omega)]
              simp
          · simp only [if_neg h1]
            have ha := add_val n sum 0 hsum (by omega)
            rw [if_pos (by omega)] at ha
            refine ⟨sum + 0, false, true, by omega, ha, rfl, ?_, fun _ h => by omega⟩
            rw [decide_eq_false (p := sum + v < 9223372036854775807) (by omega)]
            simp
        obtain ⟨all, room, also, k1, k2, k3, k4, k5⟩ := key
        rw [k2, k3]
        simp only [Option.bind_some, pj0_val, k4]
        rw [runB_val n r (by omega) (by omega)]
        simp only [Option.bind_some]
        have ih := parse_loop n m (r.dropWhile blkB) all (fits && decide (sum + v < 9223372036854775807)) (by omega) (by omega) (by omega) (dw_dw r) k1 (fun h => by
          simp only [Bool.and_eq_true, decide_eq_true_eq] at h
          rw [k5 h.1 h.2]; exact h.2)
        rw [itemsS_dw] at ih
        cases hi : itemsS r with
        | none => rw [hi] at ih; exact ih
        | some l =>
          rw [hi] at ih
          obtain ⟨sum', h1, h2⟩ := ih
          refine ⟨sum', ?_, fun h3 h4 => ?_⟩
          · rw [h1]
            have e : decide (sum + (v :: l).sum < 9223372036854775807) = decide (sum + v + l.sum < 9223372036854775807) := by
              rw [decide_eq_decide, List.sum_cons]; omega
            rw [e]
            congr 4
            cases fits with
            | false => rfl
            | true =>
              by_cases h5 : sum + v < 9223372036854775807
              · rw [decide_eq_true h5, k5 rfl h5]; rfl
              · rw [decide_eq_false h5, decide_eq_false (p := sum + v + l.sum < 9223372036854775807) (by omega)]; rfl
          · simp only [List.sum_cons] at h4 ⊢
            have h5 : sum + v < 9223372036854775807 := by omega
            rw [h2 (by rw [h3, decide_eq_true h5]; rfl) (by rw [k5 h3 h5]; omega), k5 h3 h5]
            omega

/-! ### ends cut off -/
theorem rs_cons (c : UInt8) (t : Str) : ((c :: t).reverse.dropWhile blkB).reverse = if (t.reverse.dropWhile blkB).reverse = [] then (if blkB c then [] else [c]) else c :: (t.reverse.dropWhile blkB).reverse := by
  rw [List.reverse_cons, List.dropWhile_append]
  by_cases h : t.reverse.dropWhile blkB = []
  · rw [h]
    simp only [List.isEmpty_nil, if_true, List.reverse_nil]
    cases hc : blkB c <;> simp [hc]
  · have : (t.reverse.dropWhile blkB).isEmpty = false := by simpa using h
    rw [this, if_neg (by simp), if_neg (by simpa using h), List.reverse_append]
    rfl
theorem lr_strip : ∀ (s : Str), ((s.reverse.dropWhile blkB).reverse).dropWhile blkB = ((s.dropWhile blkB).reverse.dropWhile blkB).reverse
  | [] => rfl
  | c :: t => by
    have ih := lr_strip t
    rw [rs_cons]
    by_cases hc : blkB c = true
    · rw [List.dropWhile_cons_of_pos hc, ← ih]
      by_cases h : (t.reverse.dropWhile blkB).reverse = []
      · rw [if_pos h, if_pos hc, h]
      · rw [if_neg h, List.dropWhile_cons_of_pos hc]
    · rw [List.dropWhile_cons_of_neg hc, rs_cons]
      have hc' : blkB c = false := by simpa using hc
      by_cases h : (t.reverse.dropWhile blkB).reverse = []
      · rw [if_pos h, if_neg hc, List.dropWhile_cons_of_neg hc]
      · rw [if_neg h, List.dropWhile_cons_of_neg hc]
theorem lib_trim (s : Str) : Lib.trimS s [32, 9] = trimS s := by
  have e : (fun b => ([32, 9] : Str).contains b) = blkB := by
    funext b
    simp only [List.contains_cons, List.contains_nil, Bool.or_false, blkB]
  unfold Lib.trimS Lib.trimLeftS Lib.trimRightS trimS
  rw [e, lr_strip]
theorem trimS_len (s : Str) : (trimS s).length ≤ s.length := by
  have h1 := dw_len (p := blkB) s
  have h2 := dw_len (p := blkB) (s.dropWhile blkB).reverse
  simp only [List.length_reverse] at h2
  simp only [trimS, List.length_reverse]
  omega
theorem trimS_head (s : Str) : (trimS s).dropWhile blkB = trimS s := by
  have h := lr_strip s
  have e : trimS s = ((s.reverse.dropWhile blkB).reverse).dropWhile blkB := by rw [h]; rfl
  rw [e, dw_dw]
theorem Parse_val (n : Nat) (s : Str) (hn : s.length < n) (hl : s.length < 281474976710656) : timespan_Parse_f n s = some (parseS s) := by
  have ht := trimS_len s
  unfold timespan_Parse_f timespan_Parse_b strings_Trim_f
  have hb : (decide (s.length ≤ 9223372036854775807) && decide (([32, 9] : Str).length < 4294967281) && ([32, 9] : Str).all fun b => decide (b.toNat < 128)) = true := by
    rw [decide_eq_true (by omega)]; rfl
  rw [hb, cond_true]
  simp only [Option.bind_some, lib_trim]
  unfold parseS
  by_cases h1 : trimS s = [105, 110, 102, 105, 110, 105, 116, 121]
  · rw [if_pos h1, h1]; rfl
  · rw [if_neg h1, show (trimS s == [105, 110, 102, 105, 110, 105, 116, 121]) = false by simpa using h1, cond_false]
    by_cases h2 : trimS s = []
    · rw [if_pos h2, h2]; rfl
    · rw [if_neg h2, show (trimS s == []) = false by simpa using h2, cond_false]
      have h := parse_loop n n (trimS s) 0 true (by omega) (by omega) (by omega) (trimS_head s) (by omega) (fun _ => by omega)
      cases hi : itemsS (trimS s) with
      | none =>
        rw [hi] at h
        rw [show (0 : Int) = ((0 : Nat) : Int) by rfl, h]
        rfl
      | some l =>
        rw [hi] at h
        obtain ⟨sum', h3, h4⟩ := h
        simp only
        rw [show (timespan_Parse_l0 n n 0 true (trimS s)) = (timespan_Parse_l0 n n ((0 : Nat) : Int) true (trimS s)) by rfl, h3]
        simp only [Option.bind_some, Sum.elim_inr, Bool.true_and, Nat.zero_add]
        unfold totS
        by_cases h5 : l.sum < 9223372036854775807
        · rw [decide_eq_true h5, if_pos h5, h4 rfl (by rw [Nat.zero_add]; exact h5), Nat.zero_add]
          rfl
        · rw [decide_eq_false h5, if_neg h5]
          rfl
end Go.Proofs.YtmdnbpndhnjiaaaDoor.H

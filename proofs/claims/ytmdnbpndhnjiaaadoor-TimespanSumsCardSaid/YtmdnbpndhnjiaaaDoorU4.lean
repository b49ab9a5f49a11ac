/- Chapter 02: the reference's parser: a part. -/
import Derived.Test.YtmdnbpndhnjiaaaDoorU3
import Derived.Test.YtmdnbpndhnjiaaaDoorT015
import Derived.Test.YtmdnbpndhnjiaaaDoorT05
namespace Go.Proofs.YtmdnbpndhnjiaaaDoor.H
open Go.Sh Go.RowKit
set_option linter.unusedSimpArgs false
set_option linter.unusedVariables false

theorem rdigit_val (n : Nat) (b : UInt8) : clepsydraref02_digit_f n (b.toNat : Int) = some (digB b) := by
  have h := byte_all (p := fun x => clepsydraref02_digit_f 0 (x : Int) = some (digB (UInt8.ofNat x))) (by decide +kernel) b
  rw [UInt8.ofNat_toNat] at h
  exact h
theorem rletter_val (n : Nat) (b : UInt8) : clepsydraref02_letter_f n (b.toNat : Int) = some (letB b) := by
  have h := byte_all (p := fun x => clepsydraref02_letter_f 0 (x : Int) = some (letB (UInt8.ofNat x))) (by decide +kernel) b
  rw [UInt8.ofNat_toNat] at h
  exact h
theorem rblank_val (n : Nat) (b : UInt8) : clepsydraref02_blank_f n (b.toNat : Int) = some (blkB b) := by
  have h := byte_all (p := fun x => clepsydraref02_blank_f 0 (x : Int) = some (blkB (UInt8.ofNat x))) (by decide +kernel) b
  rw [UInt8.ofNat_toNat] at h
  exact h
theorem runit_all : unitL.all (fun s => decide (clepsydraref02_unit_f 0 s = some ((unitN s : Nat) : Int))) = true := by decide +kernel
theorem runit_val (n : Nat) (s : Str) : clepsydraref02_unit_f n s = some ((unitN s : Nat) : Int) := by
  by_cases h : s ∈ unitL
  · exact of_decide_eq_true (List.all_eq_true.1 runit_all s h)
  · rw [unitN_not h]
    have k := beq_not h
    unfold clepsydraref02_unit_f clepsydraref02_unit_b clepsydraref02_unit_j7 clepsydraref02_unit_j7_b clepsydraref02_unit_j6 clepsydraref02_unit_j6_b clepsydraref02_unit_j5 clepsydraref02_unit_j5_b clepsydraref02_unit_j4 clepsydraref02_unit_j4_b clepsydraref02_unit_j3 clepsydraref02_unit_j3_b clepsydraref02_unit_j2 clepsydraref02_unit_j2_b clepsydraref02_unit_j1 clepsydraref02_unit_j1_b clepsydraref02_unit_j0 clepsydraref02_unit_j0_b
    simp (disch := decide) only [k, cond_false, Option.bind_some]
    rfl
theorem sub48 (c : UInt8) (h : digB c = true) : IntKind.i64.wrap (IntKind.u8.wrap ((c.toNat : Int) - (48 : Int))) = ((c.toNat - 48 : Nat) : Int) := by
  have := digB_iff.1 h
  rw [show IntKind.u8.wrap ((c.toNat : Int) - (48 : Int)) = ((c.toNat - 48 : Nat) : Int) by rw [IntKind.wrap_u8]; omega, IntWalk.i64_in _ (by omega)]

theorem ne0 (a : Nat) (h : 0 < a) : ((a : Int) == 0) = false := by rw [beq_eq_false_iff_ne]; omega
/-! ### loops over bytes of a kind -/
theorem idxL {p : UInt8 → Bool} (s : Str) (f : Nat → Int → Option Int) (h1 : ∀ (m i : Nat) (c : UInt8) (r : Str), s.drop i = c :: r → f (m + 1) (i : Int) = if p c then f m ((i + 1 : Nat) : Int) else some (i : Int))
    (h2 : ∀ (m i : Nat), s.drop i = [] → f (m + 1) (i : Int) = some (i : Int)) : ∀ (m i : Nat), s.length - i < m → i ≤ s.length → f m (i : Int) = some (((i + ((s.drop i).takeWhile p).length : Nat) : Int))
  | 0, i, hm, hi => by omega
  | m + 1, i, hm, hi => by
    cases hd : s.drop i with
    | nil => rw [h2 m i hd]; simp
    | cons c r =>
      obtain ⟨k1, k2, k3⟩ := drop_cons hd
      rw [h1 m i c r hd]
      cases hc : p c with
      | false => rw [List.takeWhile_cons_of_neg (by simp [hc])]; simp
      | true =>
        rw [if_pos rfl, idxL s f h1 h2 m (i + 1) (by omega) (by omega), List.takeWhile_cons_of_pos hc, k2]
        congr 1
        simp only [List.length_cons]
        omega
theorem rblanks_val (n : Nat) (s : Str) (i : Nat) (hi : i ≤ s.length) (hn : s.length < n) (hl : s.length < 9223372036854775807) : clepsydraref02_part_l1 n n s (i : Int) = some (((i + ((s.drop i).takeWhile blkB).length : Nat) : Int)) :=
  idxL s (fun m i => clepsydraref02_part_l1 n m s i) (fun m i c r hd => by
    obtain ⟨k1, k2, k3⟩ := drop_cons hd
    rw [clepsydraref02_part_l1, clepsydraref02_part_l1_b, clepsydraref02_part_j3, clepsydraref02_part_j3_b, cond_pos (by omega), cond_pos (by omega), Int.toNat_natCast, k1]
    simp only [Option.bind_some, rblank_val, wrap1 i (by omega)]
    cases blkB c <;> rfl) (fun m i hd => by
    have := drop_nil hd
    rw [clepsydraref02_part_l1, clepsydraref02_part_l1_b, clepsydraref02_part_j3, clepsydraref02_part_j3_b, cond_neg (by omega)]
    rfl) n i (by omega) hi
theorem rletters_val (n : Nat) (s : Str) (i : Nat) (hi : i ≤ s.length) (hn : s.length < n) (hl : s.length < 9223372036854775807) : clepsydraref02_part_l0 n n s (i : Int) = some (((i + ((s.drop i).takeWhile letB).length : Nat) : Int)) :=
  idxL s (fun m i => clepsydraref02_part_l0 n m s i) (fun m i c r hd => by
    obtain ⟨k1, k2, k3⟩ := drop_cons hd
    rw [clepsydraref02_part_l0, clepsydraref02_part_l0_b, clepsydraref02_part_j2, clepsydraref02_part_j2_b, cond_pos (by omega), cond_pos (by omega), Int.toNat_natCast, k1]
    simp only [Option.bind_some, rletter_val, wrap1 i (by omega)]
    cases letB c <;> rfl) (fun m i hd => by
    have := drop_nil hd
    rw [clepsydraref02_part_l0, clepsydraref02_part_l0_b, clepsydraref02_part_j2, clepsydraref02_part_j2_b, cond_neg (by omega)]
    rfl) n i (by omega) hi
/-- A number that is too great is told as -1. -/
def encN (v : Nat) : Int := if v ≤ 9223372036854775807 then (v : Int) else -1
theorem rwhole_step (n v d : Nat) (hd : d ≤ 9) : clepsydraref02_part_j10 n (encN v) (d : Int) = some (encN (v * 10 + d)) := by
  unfold clepsydraref02_part_j10 clepsydraref02_part_j10_b clepsydraref02_part_j9 clepsydraref02_part_j9_b
  have e : IntKind.i64.wrap (Int.tdiv (IntKind.i64.wrap ((9223372036854775807 : Int) - (d : Int))) (10 : Int)) = (((9223372036854775807 - d) / 10 : Nat) : Int) := by
    rw [show IntKind.i64.wrap ((9223372036854775807 : Int) - (d : Int)) = ((9223372036854775807 - d : Nat) : Int) by rw [IntWalk.i64_in _ (by omega)]; omega, show (10 : Int) = ((10 : Nat) : Int) by rfl, tq, IntWalk.i64_in _ (by omega)]
  rw [e]
  unfold encN
  by_cases h : v ≤ 9223372036854775807
  · rw [if_pos h, cond_pos (by omega)]
    by_cases h2 : v * 10 + d ≤ 9223372036854775807
    · rw [if_pos h2, decide_eq_true (by omega)]
      simp only [Option.bind_some, cond_true]
      rw [IntWalk.i64_in ((v : Int) * 10) (by omega), IntWalk.i64_in _ (by omega)]
      congr 1
    · rw [if_neg h2, decide_eq_false (by omega)]
      rfl
  · rw [if_neg h, if_neg (by omega), cond_neg (by omega)]
    rfl
theorem rwhole_val (n : Nat) (s : Str) (hl : s.length < 9223372036854775807) : ∀ (m i v : Nat), s.length - i < m → i ≤ s.length →
    clepsydraref02_part_l4 n m s (i : Int) (encN v) = some (((i + ((s.drop i).takeWhile digB).length : Nat) : Int), encN (valA v ((s.drop i).takeWhile digB)))
  | 0, i, v, hm, _ => by omega
  | m + 1, i, v, hm, hi => by
    rw [clepsydraref02_part_l4, clepsydraref02_part_l4_b, clepsydraref02_part_j11, clepsydraref02_part_j11_b]
    cases hd : s.drop i with
    | nil =>
      have := drop_nil hd
      rw [cond_neg (by omega)]
      simp [valA]
    | cons c r =>
      obtain ⟨k1, k2, k3⟩ := drop_cons hd
      rw [cond_pos (by omega), cond_pos (by omega), Int.toNat_natCast, k1]
      simp only [Option.bind_some, rdigit_val]
      cases hc : digB c with
      | false =>
        rw [List.takeWhile_cons_of_neg (by simp [hc])]
        simp [valA]
      | true =>
        have := digB_iff.1 hc
        rw [cond_true, cond_pos (by omega), sub48 c hc, rwhole_step n v _ (by omega)]
        simp only [Option.bind_some, wrap1 i (by omega)]
        rw [rwhole_val n s hl m (i + 1) _ (by omega) (by omega), k2, List.takeWhile_cons_of_pos hc, valA_cons]
        congr 3
        simp only [List.length_cons]
        omega
theorem valA_take_lt (P : Str) (h : P.all digB = true) : valN (P.take 6) < 1000000 := by
  have h1 := valA_lt (P.take 6) 0 0 (by omega) (by
    rw [List.all_eq_true] at h ⊢
    exact fun x hx => h x (List.mem_of_mem_take hx))
  rw [Nat.zero_add] at h1
  have h2 : (10 : Nat) ^ (P.take 6).length ≤ 10 ^ 6 := Nat.pow_le_pow_right (by omega) (by rw [List.length_take]; omega)
  have h3 : (10 : Nat) ^ 6 = 1000000 := by rfl
  exact Nat.lt_of_lt_of_le h1 (by omega)
theorem rfrac_val (n : Nat) (s : Str) (hl : s.length < 281474976710656) : ∀ (m i : Nat) (P : Str), s.length - i < m → i ≤ s.length → P.length ≤ i → P.all digB = true →
    clepsydraref02_part_l3 n m s (i : Int) ((valN (P.take 6) : Nat) : Int) (P.length : Int) = some (((i + ((s.drop i).takeWhile digB).length : Nat) : Int), ((valN ((P ++ (s.drop i).takeWhile digB).take 6) : Nat) : Int), ((P ++ (s.drop i).takeWhile digB).length : Int))
  | 0, i, P, hm, _, _, _ => by omega
  | m + 1, i, P, hm, hi, hP, hall => by
    rw [clepsydraref02_part_l3, clepsydraref02_part_l3_b, clepsydraref02_part_j6, clepsydraref02_part_j6_b]
    cases hd : s.drop i with
    | nil =>
      have := drop_nil hd
      rw [cond_neg (by omega)]
      simp
    | cons c r =>
      obtain ⟨k1, k2, k3⟩ := drop_cons hd
      rw [cond_pos (by omega), cond_pos (by omega), Int.toNat_natCast, k1]
      simp only [Option.bind_some, rdigit_val]
      cases hc : digB c with
      | false =>
        rw [List.takeWhile_cons_of_neg (by simp [hc])]
        simp
      | true =>
        have hdg := digB_iff.1 hc
        have hj : clepsydraref02_part_j5 n s (i : Int) ((valN (P.take 6) : Nat) : Int) (P.length : Int) = some (((valN ((P ++ [c]).take 6) : Nat) : Int)) := by
          unfold clepsydraref02_part_j5 clepsydraref02_part_j5_b
          by_cases h6 : P.length < 6
          · have hlt := valA_take_lt P hall
            rw [cond_pos (by omega), cond_pos (by omega), Int.toNat_natCast, k1]
            simp only [Option.bind_some]
            rw [sub48 c hc, IntWalk.i64_in (((valN (P.take 6) : Nat) : Int) * 10) (by omega), IntWalk.i64_in _ (by omega)]
            rw [List.take_of_length_le (by omega : P.length ≤ 6)] at hlt ⊢
            rw [List.take_of_length_le (by simp; omega)]
            congr 1
            unfold valN
            rw [valA_append]
            simp only [valA, List.foldl_cons, List.foldl_nil]
            omega
          · rw [cond_neg (by omega), List.take_append_of_le_length (by omega)]
        rw [cond_true, hj]
        simp only [Option.bind_some, wrap1 i (by omega)]
        have hw : IntKind.i64.wrap ((P.length : Int) + 1) = ((P ++ [c]).length : Int) := by
          rw [wrap1 _ (by omega)]; simp
        rw [hw, rfrac_val n s hl m (i + 1) (P ++ [c]) (by omega) (by omega) (by simp; omega) (by rw [List.all_append, hall]; simp [hc]), k2, List.takeWhile_cons_of_pos hc]
        simp only [List.append_assoc, List.singleton_append, List.length_cons]
        congr 3
        omega
theorem rscale_val (n : Nat) : ∀ (m f k : Nat), 6 - k < m → k ≤ 6 → f * 10 ^ (6 - k) < 1000000 → clepsydraref02_part_l2 n m (f : Int) (k : Int) = some (((f * 10 ^ (6 - k) : Nat) : Int))
  | 0, f, k, hm, _, _ => by omega
  | m + 1, f, k, hm, hk, hf => by
    rw [clepsydraref02_part_l2, clepsydraref02_part_l2_b]
    by_cases h : k < 6
    · have e : f * 10 ^ (6 - k) = f * 10 * 10 ^ (6 - (k + 1)) := by
        rw [show 6 - k = (6 - (k + 1)) + 1 by omega, Nat.pow_succ, Nat.mul_assoc, Nat.mul_comm (10 ^ _) 10]
      have hle : f * 10 ≤ f * 10 * 10 ^ (6 - (k + 1)) := Nat.le_mul_of_pos_right _ (Nat.pow_pos (by omega))
      rw [cond_pos (by omega), wrap1 k (by omega), show IntKind.i64.wrap ((f : Int) * 10) = ((f * 10 : Nat) : Int) by rw [IntWalk.i64_in _ (by omega)]; omega, rscale_val n m (f * 10) (k + 1) (by omega) (by omega) (by omega), e]
    · rw [cond_neg (by omega), show 6 - k = 0 by omega, Nat.pow_zero, Nat.mul_one]
/-- What stands behind the number, as the reference reads it. -/
theorem rtail_val (n : Nat) (s : Str) (i : Nat) (hi : i ≤ s.length) (hn : s.length < n) (hn9 : 9 < n) (hl : s.length < 281474976710656) :
    match fracS (s.drop i) with
    | none => clepsydraref02_part_j8 n s (i : Int) 0 0 = some (.inl ())
    | some (f, r) => ∃ j g k : Nat, clepsydraref02_part_j8 n s (i : Int) 0 0 = some (.inr ((j : Int), (g : Int), (k : Int))) ∧ i ≤ j ∧ j ≤ s.length ∧ s.drop j = r ∧ clepsydraref02_part_l2 n n (g : Int) (k : Int) = some (f : Int) := by
  unfold clepsydraref02_part_j8 clepsydraref02_part_j8_b clepsydraref02_part_j7 clepsydraref02_part_j7_b
  have zero : clepsydraref02_part_l2 n n ((0 : Nat) : Int) ((0 : Nat) : Int) = some ((0 : Nat) : Int) := by
    have := rscale_val n n 0 0 (by omega) (by omega) (by simp)
    simpa using this
  cases hd : s.drop i with
  | nil =>
    have := drop_nil hd
    simp only [fracS]
    rw [cond_neg (by omega)]
    exact ⟨i, 0, 0, rfl, Nat.le_refl _, hi, hd, zero⟩
  | cons c t =>
    obtain ⟨k1, k2, k3⟩ := drop_cons hd
    rw [cond_pos (by omega), cond_pos (by omega), Int.toNat_natCast, k1]
    simp only [Option.bind_some]
    rw [show ((c.toNat : Int) == 46) = decide (c = 46) by
      rw [show (46 : Int) = (((46 : UInt8).toNat : Nat) : Int) by rfl, beq_byte]
      by_cases h : c = 46 <;> simp [h]]
    simp only [fracS]
    by_cases hc : c = 46
    · rw [decide_eq_true hc, if_pos hc]
      simp only [cond_true]
      rw [wrap1 i (by omega)]
      have h3 := rfrac_val n s hl n (i + 1) [] (by omega) (by omega) (by simp) rfl
      rw [k2] at h3
      simp only [List.nil_append, List.take_nil, List.length_nil] at h3
      rw [show ((0 : Int)) = ((valN ([] : Str) : Nat) : Int) by rfl, show ((valN ([] : Str) : Nat) : Int) = ((valN ([] : Str) : Nat) : Int) by rfl]
      have h3' : clepsydraref02_part_l3 n n s ((i + 1 : Nat) : Int) ((valN ([] : Str) : Nat) : Int) ((valN ([] : Str) : Nat) : Int) = _ := h3
      rw [h3']
      simp only [Option.bind_some]
      unfold clepsydraref02_part_j4 clepsydraref02_part_j4_b
      have hlen := tw_len (p := digB) t
      have htl : t.length = s.length - (i + 1) := by rw [← k2]; simp
      by_cases h1 : t.takeWhile digB = [] ∨ 6 < (t.takeWhile digB).length
      · rw [if_pos h1]
        rcases h1 with h1 | h1
        · rw [h1]; rfl
        · rw [ne0 _ (show 0 < (t.takeWhile digB).length by omega), cond_false, decide_eq_true (by omega)]
          rfl
      · rw [if_neg h1]
        simp only [not_or] at h1
        have hpos := List.length_pos_iff.2 h1.1
        rw [ne0 _ (show 0 < (t.takeWhile digB).length by omega), cond_false, decide_eq_false (by omega)]
        refine ⟨i + 1 + (t.takeWhile digB).length, valN (t.takeWhile digB), (t.takeWhile digB).length, ?_, by omega, by omega, ?_, ?_⟩
        · rw [List.take_of_length_le (by omega)]
          rfl
        · rw [← List.drop_drop, k2, tw_drop]
        · have hlt := fracS_lt (s := c :: t) (r := t.dropWhile digB) (f := valN (t.takeWhile digB) * 10 ^ (6 - (t.takeWhile digB).length)) (by simp only [fracS]; rw [if_pos hc, if_neg (by simp only [not_or]; exact h1)])
          exact rscale_val n n _ _ (by omega) (by omega) hlt
    · rw [decide_eq_false hc, if_neg hc]
      exact ⟨i, 0, 0, rfl, Nat.le_refl _, hi, hd, zero⟩
theorem rpart_val (n : Nat) (s : Str) (i : Nat) (hi : i ≤ s.length) (hn : s.length < n) (hn9 : 9 < n) (hl : s.length < 281474976710656) :
    match partS (s.drop i) with
    | none => clepsydraref02_part_f n s (i : Int) = some (0, -1)
    | some (v, r) => ∃ k : Nat, clepsydraref02_part_f n s (i : Int) = some (if v < 9223372036854775807 then (v : Int) else -1, (k : Int)) ∧ i < k ∧ k ≤ s.length ∧ (s.drop k).dropWhile blkB = r.dropWhile blkB := by
  have hw := rwhole_val n s (by omega) n i 0 (by omega) hi
  have hwl := tw_len (p := digB) (s.drop i)
  have hdl := drop_len s i
  unfold partS clepsydraref02_part_f clepsydraref02_part_b
  rw [show (0 : Int) = encN 0 by rfl, hw]
  simp only [Option.bind_some]
  by_cases h0 : (s.drop i).takeWhile digB = []
  · rw [if_pos h0, h0]
    simp only [List.length_nil, Nat.add_zero, beq_self_eq_true, cond_true]
  · have hpos := List.length_pos_iff.2 h0
    rw [if_neg h0, show (((i + ((s.drop i).takeWhile digB).length : Nat) : Int) == (i : Int)) = false by simp; omega, cond_false]
    have ht := rtail_val n s (i + ((s.drop i).takeWhile digB).length) (by omega) hn hn9 hl
    have hdd : s.drop (i + ((s.drop i).takeWhile digB).length) = (s.drop i).dropWhile digB := by rw [← List.drop_drop, tw_drop]
    rw [hdd] at ht
    have e0 : encN 0 = 0 := rfl
    rw [e0]
    cases hf : fracS ((s.drop i).dropWhile digB) with
    | none =>
      rw [hf] at ht
      simp only at ht
      rw [ht]
      rfl
    | some x =>
      obtain ⟨f, q⟩ := x
      rw [hf] at ht
      obtain ⟨j, g, k, h1, h2, h3, h4, h5⟩ := ht
      have hflt := fracS_lt hf
      rw [h1]
      simp only [Option.bind_some, Sum.elim_inr, h5]
      have hb := tw_len (p := blkB) (s.drop j)
      have hjl := drop_len s j
      rw [rblanks_val n s j h3 hn (by omega)]
      simp only [Option.bind_some]
      rw [rletters_val n s _ (by omega) hn (by omega)]
      simp only [Option.bind_some]
      have hq : s.drop (j + ((s.drop j).takeWhile blkB).length) = q.dropWhile blkB := by rw [← List.drop_drop, tw_drop, h4]
      rw [hq]
      have hql := drop_len s (j + ((s.drop j).takeWhile blkB).length)
      rw [hq] at hql
      have hlt := tw_len (p := letB) (q.dropWhile blkB)
      rw [cond_pos (by omega), cond_pos (by omega), cond_pos (by omega), cond_pos (by omega)]
      simp only [Int.toNat_natCast]
      have hsub : (s.take (j + ((s.drop j).takeWhile blkB).length + ((q.dropWhile blkB).takeWhile letB).length)).drop (j + ((s.drop j).takeWhile blkB).length) = (q.dropWhile blkB).takeWhile letB := by
        rw [List.drop_take, hq, show j + ((s.drop j).takeWhile blkB).length + ((q.dropWhile blkB).takeWhile letB).length - (j + ((s.drop j).takeWhile blkB).length) = ((q.dropWhile blkB).takeWhile letB).length by omega, tw_take]
      rw [hsub, runit_val]
      simp only [Option.bind_some]
      by_cases hu : unitN ((q.dropWhile blkB).takeWhile letB) = 0
      · rw [if_pos hu, hu]
        rfl
      · rw [if_neg hu, show (((unitN ((q.dropWhile blkB).takeWhile letB) : Nat) : Int) == 0) = false by simp; omega, cond_false]
        have hule := unitN_le ((q.dropWhile blkB).takeWhile letB)
        obtain ⟨m1, m2⟩ := more_lt f _ hflt hule
        -- the place behind
        obtain ⟨kk, hj1, hk1, hk2, hk3⟩ : ∃ kk : Nat, clepsydraref02_part_j1 n (j : Int) (((j + ((s.drop j).takeWhile blkB).length + ((q.dropWhile blkB).takeWhile letB).length : Nat)) : Int) (((j + ((s.drop j).takeWhile blkB).length : Nat)) : Int) = some (kk : Int) ∧ i < kk ∧ kk ≤ s.length ∧ (s.drop kk).dropWhile blkB = ((q.dropWhile blkB).dropWhile letB).dropWhile blkB := by
          unfold clepsydraref02_part_j1 clepsydraref02_part_j1_b
          by_cases he : (q.dropWhile blkB).takeWhile letB = []
          · refine ⟨j, ?_, by omega, h3, ?_⟩
            · rw [he]; simp
            · have : (q.dropWhile blkB).dropWhile letB = q.dropWhile blkB := by
                have := List.takeWhile_append_dropWhile (p := letB) (l := q.dropWhile blkB)
                rw [he, List.nil_append] at this
                exact this
              rw [this, dw_dw, h4]
          · have := List.length_pos_iff.2 he
            refine ⟨j + ((s.drop j).takeWhile blkB).length + ((q.dropWhile blkB).takeWhile letB).length, ?_, by omega, by omega, ?_⟩
            · rw [show ((((j + ((s.drop j).takeWhile blkB).length : Nat)) : Int) == (((j + ((s.drop j).takeWhile blkB).length + ((q.dropWhile blkB).takeWhile letB).length : Nat)) : Int)) = false by simp; omega]
              rfl
            · rw [← List.drop_drop, hq, tw_drop]
        rw [hj1]
        simp only [Option.bind_some]
        refine ⟨kk, ?_, hk1, hk2, hk3⟩
        rw [more_val f _ hflt hule]
        unfold clepsydraref02_part_j0 clepsydraref02_part_j0_b longS encN
        show _ = some (if valN ((s.drop i).takeWhile digB) * _ + _ < 9223372036854775807 then _ else _, _)
        have hww : valA 0 ((s.drop i).takeWhile digB) = valN ((s.drop i).takeWhile digB) := rfl
        rw [hww]
        generalize valN ((s.drop i).takeWhile digB) = w at *
        generalize unitN ((q.dropWhile blkB).takeWhile letB) = u at *
        generalize hM : u / 1000000 * f + u % 1000000 * f / 1000000 = M at *
        have hMle : M ≤ 32557601000000 := by omega
        have hwu : w ≤ w * u := Nat.le_mul_of_pos_right _ (by omega)
        by_cases g1 : w ≤ 9223372036854775807
        · rw [if_pos g1, cond_neg (by omega), show ((u : Int) == 0) = false by simp; omega, cond_false]
          have e2 : IntKind.i64.wrap (Int.tdiv (9223372036854775806 : Int) (u : Int)) = ((9223372036854775806 / u : Nat) : Int) := by
            have := Nat.div_le_self 9223372036854775806 u
            rw [show (9223372036854775806 : Int) = ((9223372036854775806 : Nat) : Int) by rfl, tq]
            generalize 9223372036854775806 / u = qd at this ⊢
            rw [IntWalk.i64_in _ (by omega)]
          rw [e2]
          by_cases g2 : w > 9223372036854775806 / u
          · rw [decide_eq_true (by omega)]
            have g2' := (Nat.div_lt_iff_lt_mul (show 0 < u by omega)).1 g2
            rw [if_neg (by omega)]
            rfl
          · rw [decide_eq_false (by omega)]
            simp only [Option.bind_some, cond_false]
            have g2' : w * u ≤ 9223372036854775806 := (Nat.le_div_iff_mul_le (show 0 < u by omega)).1 (by omega)
            rw [show IntKind.i64.wrap ((w : Int) * (u : Int)) = ((w * u : Nat) : Int) by rw [← Int.natCast_mul, IntWalk.i64_in _ (by omega)], IntWalk.i64_in ((9223372036854775806 : Int) - (M : Int)) (by omega)]
            by_cases g3 : w * u + M < 9223372036854775807
            · rw [cond_neg (by omega), if_pos g3, IntWalk.i64_in _ (by omega)]
              rfl
            · rw [cond_pos (by omega), if_neg g3]
        · rw [if_neg g1, cond_pos (by omega), if_neg (by omega)]
          rfl
end Go.Proofs.YtmdnbpndhnjiaaaDoor.H

/- Chapter 02: what a text of spans says, as plain functions; bytes, runs of bytes, numbers. -/
import Derived.Test.YtmdnbpndhnjiaaaDoorT012345
import Derived.Test.YtmdnbpndhnjiaaaDoorPA
import Derived.Lib.ParseIntBCases
namespace Go.Proofs.YtmdnbpndhnjiaaaDoor.H
open Go.Sh Go.RowKit
set_option linter.unusedSimpArgs false
set_option linter.unusedVariables false

/-! ### bytes -/
def digB (b : UInt8) : Bool := 48 ≤ b && b ≤ 57
def letB (b : UInt8) : Bool := (65 ≤ b && b ≤ 90) || (97 ≤ b && b ≤ 122)
def blkB (b : UInt8) : Bool := b == 32 || b == 9
theorem digit_val (n : Nat) (b : UInt8) : timespan_digit_f n (b.toNat : Int) = some (digB b) := by
  have h := byte_all (p := fun x => timespan_digit_f 0 (x : Int) = some (digB (UInt8.ofNat x))) (by decide +kernel) b
  rw [UInt8.ofNat_toNat] at h
  exact h
theorem letter_val (n : Nat) (b : UInt8) : timespan_letter_f n (b.toNat : Int) = some (letB b) := by
  have h := byte_all (p := fun x => timespan_letter_f 0 (x : Int) = some (letB (UInt8.ofNat x))) (by decide +kernel) b
  rw [UInt8.ofNat_toNat] at h
  exact h
theorem blank_val (n : Nat) (b : UInt8) : timespan_blank_f n (b.toNat : Int) = some (blkB b) := by
  have h := byte_all (p := fun x => timespan_blank_f 0 (x : Int) = some (blkB (UInt8.ofNat x))) (by decide +kernel) b
  rw [UInt8.ofNat_toNat] at h
  exact h
theorem digB_iff {c : UInt8} : digB c = true ↔ 48 ≤ c.toNat ∧ c.toNat ≤ 57 := by
  simp only [digB, Bool.and_eq_true, decide_eq_true_eq, UInt8.le_iff_toNat_le]
  exact Iff.rfl
theorem dig_blk {c : UInt8} (h : digB c = true) : blkB c = false ∧ letB c = false := by
  have := byte_all (p := fun x => digB (UInt8.ofNat x) = true → blkB (UInt8.ofNat x) = false ∧ letB (UInt8.ofNat x) = false) (by decide +kernel) c
  rw [UInt8.ofNat_toNat] at this
  exact this h
theorem let_blk {c : UInt8} (h : letB c = true) : blkB c = false ∧ digB c = false ∧ c ≠ 46 := by
  have := byte_all (p := fun x => letB (UInt8.ofNat x) = true → blkB (UInt8.ofNat x) = false ∧ digB (UInt8.ofNat x) = false ∧ UInt8.ofNat x ≠ 46) (by decide +kernel) c
  rw [UInt8.ofNat_toNat] at this
  exact this h
theorem blk_off {c : UInt8} (h : blkB c = true) : letB c = false ∧ digB c = false ∧ c ≠ 46 := by
  have := byte_all (p := fun x => blkB (UInt8.ofNat x) = true → letB (UInt8.ofNat x) = false ∧ digB (UInt8.ofNat x) = false ∧ UInt8.ofNat x ≠ 46) (by decide +kernel) c
  rw [UInt8.ofNat_toNat] at this
  exact this h

/-! ### runs of bytes -/
section
variable {p : UInt8 → Bool}
theorem tw_take (s : Str) : s.take (s.takeWhile p).length = s.takeWhile p := by
  conv => lhs; arg 2; rw [← List.takeWhile_append_dropWhile (p := p) (l := s)]
  exact List.take_left
theorem tw_drop (s : Str) : s.drop (s.takeWhile p).length = s.dropWhile p := by
  conv => lhs; arg 2; rw [← List.takeWhile_append_dropWhile (p := p) (l := s)]
  exact List.drop_left
theorem tw_len (s : Str) : (s.takeWhile p).length ≤ s.length := (List.takeWhile_sublist p).length_le
theorem dw_len (s : Str) : (s.dropWhile p).length ≤ s.length := (List.dropWhile_sublist p).length_le
theorem tw_dw_len (s : Str) : (s.takeWhile p).length + (s.dropWhile p).length = s.length := by
  rw [← List.length_append, List.takeWhile_append_dropWhile]
theorem tw_all (s : Str) : (s.takeWhile p).all p = true := by
  induction s with
  | nil => rfl
  | cons c s ih =>
    cases hc : p c with
    | true => rw [List.takeWhile_cons_of_pos hc, List.all_cons, hc, ih]; rfl
    | false => rw [List.takeWhile_cons_of_neg (by simp [hc])]; rfl
theorem dw_head {s r : Str} {c : UInt8} (h : s.dropWhile p = c :: r) : p c = false := by
  induction s with
  | nil => simp at h
  | cons x s ih =>
    by_cases hx : p x = true
    · rw [List.dropWhile_cons_of_pos hx] at h; exact ih h
    · rw [List.dropWhile_cons_of_neg hx] at h
      injection h with h1 _
      subst h1
      simpa using hx
theorem dw_dw (s : Str) : (s.dropWhile p).dropWhile p = s.dropWhile p := by
  cases h : s.dropWhile p with
  | nil => rfl
  | cons c r => rw [List.dropWhile_cons_of_neg (by simp [dw_head h])]
/-- A loop that runs over bytes of a kind. -/
theorem runL (f : Nat → Int → Str → Option (Int × Str)) (h1 : ∀ (m : Nat) (s : Str) (i : Nat) (c : UInt8) (r : Str), s.drop i = c :: r → s.length < 9223372036854775807 → f (m + 1) (i : Int) s = if p c then f m ((i + 1 : Nat) : Int) s else some ((i : Int), s))
    (h2 : ∀ (m : Nat) (s : Str) (i : Nat), s.drop i = [] → f (m + 1) (i : Int) s = some ((i : Int), s)) (s : Str) (hs : s.length < 9223372036854775807) : ∀ (m i : Nat), s.length - i < m → i ≤ s.length → f m (i : Int) s = some (((i + ((s.drop i).takeWhile p).length : Nat) : Int), s)
  | 0, i, hm, hi => by omega
  | m + 1, i, hm, hi => by
    cases hd : s.drop i with
    | nil => rw [h2 m s i hd]; simp
    | cons c r =>
      obtain ⟨k1, k2, k3⟩ := drop_cons hd
      rw [h1 m s i c r hd hs]
      cases hc : p c with
      | false => rw [List.takeWhile_cons_of_neg (by simp [hc])]; simp
      | true =>
        rw [if_pos rfl, runL f h1 h2 s hs m (i + 1) (by omega) (by omega), List.takeWhile_cons_of_pos hc, k2]
        congr 2
        simp only [List.length_cons]
        omega
end
theorem runD_val (n : Nat) (s : Str) (hn : s.length < n) (hs : s.length < 9223372036854775807) : timespan_text_run_f n s = some (s.takeWhile digB, s.dropWhile digB) := by
  have h := runL (p := digB) (timespan_text_run_l0 n) (fun m s i c r hd hl => by
    obtain ⟨k1, k2, k3⟩ := drop_cons hd
    rw [timespan_text_run_l0, timespan_text_run_l0_b, timespan_text_run_j0, timespan_text_run_j0_b, cond_pos (by omega), cond_pos (by omega), Int.toNat_natCast, k1]
    simp only [Option.bind_some, digit_val, wrap1 i (by omega)]
    cases digB c <;> rfl) (fun m s i hd => by
    have := drop_nil hd
    rw [timespan_text_run_l0, timespan_text_run_l0_b, timespan_text_run_j0, timespan_text_run_j0_b, cond_neg (by omega)]
    rfl) s hs n 0 (by omega) (by omega)
  have hl := tw_len (p := digB) s
  unfold timespan_text_run_f timespan_text_run_b
  rw [show (0 : Int) = ((0 : Nat) : Int) by rfl, h]
  simp only [Option.bind_some, List.drop_zero, Nat.zero_add, Int.toNat_natCast, tw_take, tw_drop]
  rw [cond_pos (by omega), cond_pos (by omega), cond_pos (by omega), cond_pos (by omega)]
theorem runB_val (n : Nat) (s : Str) (hn : s.length < n) (hs : s.length < 9223372036854775807) : timespan_text_run_1_f n s = some (s.takeWhile blkB, s.dropWhile blkB) := by
  have h := runL (p := blkB) (timespan_text_run_1_l0 n) (fun m s i c r hd hl => by
    obtain ⟨k1, k2, k3⟩ := drop_cons hd
    rw [timespan_text_run_1_l0, timespan_text_run_1_l0_b, timespan_text_run_1_j0, timespan_text_run_1_j0_b, cond_pos (by omega), cond_pos (by omega), Int.toNat_natCast, k1]
    simp only [Option.bind_some, blank_val, wrap1 i (by omega)]
    cases blkB c <;> rfl) (fun m s i hd => by
    have := drop_nil hd
    rw [timespan_text_run_1_l0, timespan_text_run_1_l0_b, timespan_text_run_1_j0, timespan_text_run_1_j0_b, cond_neg (by omega)]
    rfl) s hs n 0 (by omega) (by omega)
  have hl := tw_len (p := blkB) s
  unfold timespan_text_run_1_f timespan_text_run_1_b
  rw [show (0 : Int) = ((0 : Nat) : Int) by rfl, h]
  simp only [Option.bind_some, List.drop_zero, Nat.zero_add, Int.toNat_natCast, tw_take, tw_drop]
  rw [cond_pos (by omega), cond_pos (by omega), cond_pos (by omega), cond_pos (by omega)]
theorem runC_val (n : Nat) (s : Str) (hn : s.length < n) (hs : s.length < 9223372036854775807) : timespan_text_run_2_f n s = some (s.takeWhile letB, s.dropWhile letB) := by
  have h := runL (p := letB) (timespan_text_run_2_l0 n) (fun m s i c r hd hl => by
    obtain ⟨k1, k2, k3⟩ := drop_cons hd
    rw [timespan_text_run_2_l0, timespan_text_run_2_l0_b, timespan_text_run_2_j0, timespan_text_run_2_j0_b, cond_pos (by omega), cond_pos (by omega), Int.toNat_natCast, k1]
    simp only [Option.bind_some, letter_val, wrap1 i (by omega)]
    cases letB c <;> rfl) (fun m s i hd => by
    have := drop_nil hd
    rw [timespan_text_run_2_l0, timespan_text_run_2_l0_b, timespan_text_run_2_j0, timespan_text_run_2_j0_b, cond_neg (by omega)]
    rfl) s hs n 0 (by omega) (by omega)
  have hl := tw_len (p := letB) s
  unfold timespan_text_run_2_f timespan_text_run_2_b
  rw [show (0 : Int) = ((0 : Nat) : Int) by rfl, h]
  simp only [Option.bind_some, List.drop_zero, Nat.zero_add, Int.toNat_natCast, tw_take, tw_drop]
  rw [cond_pos (by omega), cond_pos (by omega), cond_pos (by omega), cond_pos (by omega)]

/-! ### numbers -/
def valA (a : Nat) (d : Str) : Nat := d.foldl (fun a c => a * 10 + (c.toNat - 48)) a
def valN (d : Str) : Nat := valA 0 d
theorem valA_le : ∀ (d : Str) (a : Nat), a ≤ valA a d
  | [], a => Nat.le_refl _
  | c :: d, a => by
    have := valA_le d (a * 10 + (c.toNat - 48))
    simp only [valA, List.foldl_cons] at this ⊢
    omega
theorem valA_cons (a : Nat) (c : UInt8) (d : Str) : valA a (c :: d) = valA (a * 10 + (c.toNat - 48)) d := by simp only [valA, List.foldl_cons]
theorem valA_append (a : Nat) (d e : Str) : valA a (d ++ e) = valA (valA a d) e := by simp [valA, List.foldl_append]
theorem valA_zeros (a k : Nat) : valA a (List.replicate k 48) = a * 10 ^ k := by
  induction k generalizing a with
  | zero => simp [valA]
  | succ k ih =>
    rw [List.replicate_succ, valA_cons, ih]
    rw [show a * 10 + ((48 : UInt8).toNat - 48) = a * 10 by rw [show (48 : UInt8).toNat = 48 by rfl]; omega, Nat.pow_succ, Nat.mul_assoc, Nat.mul_comm (10 ^ k) 10]
theorem valA_lt : ∀ (d : Str) (a k : Nat), a < 10 ^ k → d.all digB = true → valA a d < 10 ^ (k + d.length)
  | [], a, k, h, _ => h
  | c :: d, a, k, h, hd => by
    simp only [List.all_cons, Bool.and_eq_true, digB_iff] at hd
    have hp : (10 : Nat) ^ (k + 1) = 10 ^ k * 10 := Nat.pow_succ ..
    have := valA_lt d (a * 10 + (c.toNat - 48)) (k + 1) (by omega) hd.2
    rw [valA_cons, show k + (c :: d).length = k + 1 + d.length by simp only [List.length_cons]; omega]
    exact this
theorem uintM_val (M : Nat) (hM : M = 18446744073709551615) : ∀ (l : Str) (acc : Nat), acc ≤ M → l.all digB = true → Lib.parseUintM M acc l = if valA acc l ≤ M then .ok (valA acc l) else .range
  | [], acc, h, _ => by rw [Lib.parseUintM, if_pos (show valA acc [] ≤ M from h)]; rfl
  | c :: r, acc, h, hd => by
    simp only [List.all_cons, Bool.and_eq_true, digB_iff] at hd
    have hle := valA_le r (acc * 10 + (c.toNat - 48))
    rw [Lib.parseUintM, if_pos hd.1, valA_cons]
    by_cases h1 : 1844674407370955162 ≤ acc
    · rw [if_pos h1, if_neg (by omega)]
    · rw [if_neg h1]
      by_cases h2 : M < acc * 10 + (c.toNat - 48)
      · rw [if_pos h2, if_neg (by omega)]
      · rw [if_neg h2, uintM_val M hM r _ (by omega) hd.2]
/-- A number's text, parsed: its value, or it is too great. -/
theorem parse_val (n : Nat) (d : Str) (hd : d.all digB = true) (hne : d ≠ []) (hl : d.length ≤ 281474976710656) : ∃ v : Int, strconv_ParseInt_f n d 10 64 = some (if valN d < 9223372036854775808 then (((valN d : Nat) : Int), true) else (v, false)) := by
  cases d with
  | nil => exact absurd rfl hne
  | cons c r =>
    have hd' := hd
    simp only [List.all_cons, Bool.and_eq_true, digB_iff] at hd'
    have e : Lib.parseIntB 64 (c :: r) = if valN (c :: r) < 9223372036854775808 then .ok ((valN (c :: r) : Nat) : Int) else .range := by
      rw [Lib.parseIntB_plain 64 c r (by omega) (by omega)]
      unfold Lib.parseUintB
      rw [if_neg (by simp), uintM_val (2 ^ 64 - 1) (by decide) (c :: r) 0 (by omega) hd]
      rw [show valA 0 (c :: r) = valN (c :: r) by rfl, show (2 ^ 64 - 1 : Nat) = 18446744073709551615 by decide]
      by_cases h1 : valN (c :: r) ≤ 18446744073709551615
      · rw [if_pos h1]
        simp only [Lib.signlessC]
        rw [show (2 ^ (64 - 1) : Nat) = 9223372036854775808 by decide]
        by_cases h2 : valN (c :: r) < 9223372036854775808
        · rw [if_neg (by omega), if_pos h2]
        · rw [if_pos (by omega), if_neg h2]
      · rw [if_neg h1, if_neg (by omega)]; rfl
    refine ⟨Lib.intSat 64 (c :: r), ?_⟩
    unfold strconv_ParseInt_f
    rw [e]
    have hb : (decide ((10 : Int) = 10) && decide ((64 : Int) = 64) && decide ((c :: r).length ≤ 281474976710656)) = true := by
      rw [decide_eq_true hl]; rfl
    rw [hb, cond_true]
    by_cases h2 : valN (c :: r) < 9223372036854775808
    · rw [if_pos h2, if_pos h2]
    · rw [if_neg h2, if_neg h2]

/-! ### units -/
def unitN (s : Str) : Nat :=
  if s = [117, 115] ∨ s = [117, 115, 101, 99] then 1
  else if s = [109, 115] ∨ s = [109, 115, 101, 99] then 1000
  else if s = [] ∨ s = [115] ∨ s = [115, 101, 99] ∨ s = [115, 101, 99, 111, 110, 100] ∨ s = [115, 101, 99, 111, 110, 100, 115] then 1000000
  else if s = [109] ∨ s = [109, 105, 110] ∨ s = [109, 105, 110, 117, 116, 101] ∨ s = [109, 105, 110, 117, 116, 101, 115] then 60000000
  else if s = [104] ∨ s = [104, 114] ∨ s = [104, 111, 117, 114] ∨ s = [104, 111, 117, 114, 115] then 3600000000
  else if s = [100] ∨ s = [100, 97, 121] ∨ s = [100, 97, 121, 115] then 86400000000
  else if s = [119] ∨ s = [119, 101, 101, 107] ∨ s = [119, 101, 101, 107, 115] then 604800000000
  else if s = [77] ∨ s = [109, 111, 110, 116, 104] ∨ s = [109, 111, 110, 116, 104, 115] then 2629800000000
  else if s = [121] ∨ s = [121, 101, 97, 114] ∨ s = [121, 101, 97, 114, 115] then 31557600000000
  else 0
theorem beq_dec (s a : Str) : (s == a) = decide (s = a) := by
  by_cases h : s = a
  · subst h; simp
  · rw [decide_eq_false h]; exact beq_false_of_ne h
/-- All names of units. -/
def unitL : List Str := [[117, 115], [117, 115, 101, 99], [109, 115], [109, 115, 101, 99], [], [115], [115, 101, 99], [115, 101, 99, 111, 110, 100], [115, 101, 99, 111, 110, 100, 115], [109], [109, 105, 110], [109, 105, 110, 117, 116, 101], [109, 105, 110, 117, 116, 101, 115], [104], [104, 114], [104, 111, 117, 114], [104, 111, 117, 114, 115], [100], [100, 97, 121], [100, 97, 121, 115], [119], [119, 101, 101, 107], [119, 101, 101, 107, 115], [77], [109, 111, 110, 116, 104], [109, 111, 110, 116, 104, 115], [121], [121, 101, 97, 114], [121, 101, 97, 114, 115]]
theorem beq_not {s : Str} (h : s ∉ unitL) (a : Str) (ha : a ∈ unitL) : (s == a) = false := beq_false_of_ne fun e => h (e ▸ ha)
theorem ne_not {s : Str} (h : s ∉ unitL) (a : Str) (ha : a ∈ unitL) : (s = a) = False := eq_false fun e => h (e ▸ ha)
theorem unitN_not {s : Str} (h : s ∉ unitL) : unitN s = 0 := by
  unfold unitN
  have k := ne_not h
  simp (disch := decide) only [k, or_false, if_false, false_or]
theorem unit_all : unitL.all (fun s => decide (timespan_unit_f 0 s = some ((unitN s : Nat) : Int))) = true := by decide +kernel
theorem unit_val (n : Nat) (s : Str) : timespan_unit_f n s = some ((unitN s : Nat) : Int) := by
  by_cases h : s ∈ unitL
  · exact of_decide_eq_true (List.all_eq_true.1 unit_all s h)
  · rw [unitN_not h]
    have k := beq_not h
    unfold timespan_unit_f timespan_unit_b timespan_unit_j7 timespan_unit_j7_b timespan_unit_j6 timespan_unit_j6_b timespan_unit_j5 timespan_unit_j5_b timespan_unit_j4 timespan_unit_j4_b timespan_unit_j3 timespan_unit_j3_b timespan_unit_j2 timespan_unit_j2_b timespan_unit_j1 timespan_unit_j1_b timespan_unit_j0 timespan_unit_j0_b
    simp (disch := decide) only [k, cond_false, Option.bind_some]
    rfl
theorem unitN_le (s : Str) : unitN s ≤ 31557600000000 := by
  unfold unitN
  repeat' split
  all_goals omega
end Go.Proofs.YtmdnbpndhnjiaaaDoor.H

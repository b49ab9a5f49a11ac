/- Chapter 07: what the reference says of names, days and rules. -/
import Derived.Test.YtpooncihlnllnaaDoorT024
import Derived.Test.YtpooncihlnllnaaDoorU3
namespace Go.Proofs.YtpooncihlnllnaaDoor.H
open Go.Sh Go.RowKit
set_option linter.unusedSimpArgs false
set_option linter.unusedVariables false

theorem rletter_val (n : Nat) (b : UInt8) : clepsydraref07_letter_f n (b.toNat : Int) = some (letterB b) := by
  have h := byte_all (p := fun x => clepsydraref07_letter_f 0 (x : Int) = some (letterB (UInt8.ofNat x))) (by decide +kernel) b
  rw [UInt8.ofNat_toNat] at h
  exact h
theorem rdigit_val (n : Nat) (b : UInt8) : clepsydraref07_digit_f n (b.toNat : Int) = some (digitB b) := by
  have h := byte_all (p := fun x => clepsydraref07_digit_f 0 (x : Int) = some (digitB (UInt8.ofNat x))) (by decide +kernel) b
  rw [UInt8.ofNat_toNat] at h
  exact h

/-! ### names -/
theorem rname_loop (n : Nat) (s : Str) (hs : s.length < 9223372036854775808) : ∀ (m i : Nat), s.length - i < m →
    clepsydraref07_name_l0 n m s (i : Int) = some (if (s.drop i).all nameB = true then Sum.inr () else Sum.inl ())
  | 0, i, hm => by omega
  | m + 1, i, hm => by
    rw [clepsydraref07_name_l0, clepsydraref07_name_l0_b, clepsydraref07_name_j0, clepsydraref07_name_j0_b]
    cases hd : s.drop i with
    | nil =>
      have := drop_nil hd
      rw [cond_neg (by omega)]
      simp
    | cons c r =>
      obtain ⟨h1, h2, h3⟩ := drop_cons hd
      rw [cond_pos (by omega)]
      simp only [cond_pos (show (0 : Int) ≤ (i : Int) by omega), Int.toNat_natCast, h1, Option.bind_some, rletter_val, rdigit_val]
      have e43 : ((c.toNat : Int) != 43) = (c != 43) := bne_byte c 43
      have e45 : ((c.toNat : Int) != 45) = (c != 45) := bne_byte c 45
      rw [e43, e45, wrap1 i (by omega), rname_loop n s hs m (i + 1) (by omega), h2]
      have hn : nameB c = (letterB c || digitB c || c == 43 || c == 45) := rfl
      simp only [List.all_cons, hn, bne]
      generalize letterB c = v1, digitB c = v2, (c == 43) = v3, (c == 45) = v4, r.all nameB = v5
      cases v1 <;> cases v2 <;> cases v3 <;> cases v4 <;> cases v5 <;> rfl
theorem rnameF_val (n : Nat) (s : Str) (hs : s.length < 9223372036854775808) (hn : s.length < n) : clepsydraref07_name_f n s = some (isName s) := by
  unfold clepsydraref07_name_f clepsydraref07_name_b isName
  rw [show (0 : Int) = ((0 : Nat) : Int) from rfl, rname_loop n s hs n 0 (by omega), List.drop_zero]
  cases h : s.all nameB with
  | false => simp
  | true =>
    simp only [Option.bind_some, if_true, Sum.elim_inr]
    rw [cond_and, Bool.and_true]
    have e1 : decide ((s.length : Int) ≥ (3 : Int)) = decide (3 ≤ s.length) := by rw [decide_eq_decide]; omega
    have e2 : decide ((s.length : Int) ≤ (10 : Int)) = decide (s.length ≤ 10) := by rw [decide_eq_decide]; omega
    rw [e1, e2]
/-! ### days -/
theorem rdayF_val (n : Nat) (k m w d t : Int) : clepsydraref07_day_f n k m w d t = some (dayOK ⟨k, m, w, d, t⟩) := by
  unfold clepsydraref07_day_f clepsydraref07_day_b clepsydraref07_day_j0 clepsydraref07_day_j0_b dayOK nearB
  by_cases h1 : t < -604799
  · rw [cond_pos h1]
    have : ¬ (-604799 ≤ t) := by omega
    simp [this]
  · rw [cond_neg h1]
    by_cases h2 : t > 604799
    · have : ¬ (t ≤ 604799) := by omega
      simp [h2, this]
    · have e1 : -604799 ≤ t := by omega
      have e2 : t ≤ 604799 := by omega
      simp only [h2, decide_false, Option.bind_some, cond_false, beqI, cond_and, e1, e2, decide_true, Bool.true_and, ge_iff_le, Bool.and_assoc]
      by_cases k1 : k = 1
      · simp [k1]
      · by_cases k2 : k = 2
        · simp [k2]
        · by_cases k3 : k = 3
          · simp [k3]
          · rw [decide_eq_false k1, decide_eq_false k2, decide_eq_false k3]
            simp [k1, k2, k3]
theorem roff_val (n : Nat) (x : Int) : clepsydraref07_off_f n x = some (nearB x 89999) := by
  unfold clepsydraref07_off_f clepsydraref07_off_b nearB
  rw [cond_and]
theorem rright_val (n : Nat) (std dst : Str) (off doff k m w d t k' m' w' d' t' : Int) (hs : std.length < 9223372036854775808) (hn : std.length < n) (hs' : dst.length < 9223372036854775808) (hn' : dst.length < n) :
    clepsydraref07_Right_f n std dst off doff k m w d t k' m' w' d' t' = some (rightS ⟨std, dst, off, doff, ⟨k, m, w, d, t⟩, ⟨k', m', w', d', t'⟩⟩) := by
  unfold clepsydraref07_Right_f clepsydraref07_Right_b rightS
  rw [clepsydraref07_Right_j1, clepsydraref07_Right_j1_b, rnameF_val n std hs hn]
  simp only [Option.bind_some]
  cases isName std with
  | false => simp
  | true =>
    simp only [Bool.not_true, cond_false, Bool.true_and, roff_val, Option.bind_some]
    cases nearB off 89999 with
    | false => simp
    | true =>
      simp only [Bool.not_true, cond_false, Bool.true_and]
      by_cases hd : dst = []
      · subst hd
        rw [clepsydraref07_Right_j0, clepsydraref07_Right_j0_b]
        have z : ∀ k m w d t : Int, ((k == 0) && ((m == 0) && ((w == 0) && ((d == 0) && ((t == 0) && true))))) = zeroD ⟨k, m, w, d, t⟩ := fun k m w d t => by simp [zeroD, Bool.and_assoc]
        simp only [beq_self_eq_true, cond_true, if_true, z]
        cases doff == 0 <;> cases zeroD ⟨k, m, w, d, t⟩ <;> cases zeroD ⟨k', m', w', d', t'⟩ <;> rfl
      · have : (dst == ([] : Str)) = false := by simpa using hd
        rw [this, cond_false, rnameF_val n dst hs' hn', if_neg hd]
        simp only [Option.bind_some, roff_val, rdayF_val, cond_andB, Bool.and_assoc]
end Go.Proofs.YtpooncihlnllnaaDoor.H

import Derived.Test.YtpooncihlnllnaaGreatDoorT0c
import Derived.Test.YtpooncihlnllnaaGreatDoorMA
/- Chapter 07: what the reference says of names, days and rules. -/
namespace Go.Proofs.YtpooncihlnllnaaGreatDoor.H
open Go.Sh Go.RowKit
set_option linter.unusedSimpArgs false
set_option linter.unusedVariables false

theorem rletter_val (n : Nat) (b : UInt8) : clepsydraref07_letter_f n (b.toNat : Int) = some (letterB b) := by
  have h := byte_all (p := fun x => clepsydraref07_letter_f 0 (x : Int) = some (letterB (UInt8.ofNat x))) (by decide +kernel) b
  rw [UInt8.ofNat_toNat] at h
  exact h
theorem rdigit_val (n : Nat) (b : UInt8) : clepsydraref07_digit_f n (b.toNat : Int) = some (digitB b) := by
  have h := byte_all (p := fun x => clepsydraref07_digit_f 0 (x : Int) = some (digitB (UInt8.ofNat x))) (by decide +kernel) b
  rw [UInt8.ofNat_toNat] at h
  exact h

/-! ### names -/
theorem rname_loop (n : Nat) (s : Str) (hs : s.length < 9223372036854775808) : ∀ (m i : Nat), s.length - i < m →
    clepsydraref07_name_l0 n m s (i : Int) = some (if (s.drop i).all nameB = true then Sum.inr () else Sum.inl ())
  | 0, i, hm => by omega
  | m + 1, i, hm => by
    rw [clepsydraref07_name_l0, clepsydraref07_name_l0_b, clepsydraref07_name_j0, clepsydraref07_name_j0_b]
    cases hd : s.drop i with
    | nil =>
      have := drop_nil hd
      rw [cond_neg (by omega)]
      simp
    | cons c r =>
      obtain ⟨h1, h2, h3⟩ := drop_cons hd
      rw [cond_pos (by omega)]
      simp only [cond_pos (show (0 : Int) ≤ (i : Int) by omega), Int.toNat_natCast, h1, Option.bind_some, rletter_val, rdigit_val]
      have e43 : ((c.toNat : Int) != 43) = (c != 43) := bne_byte c 43
      have e45 : ((c.toNat : Int) != 45) = (c != 45) := bne_byte c 45
      rw [e43, e45, wrap1 i (by omega), rname_loop n s hs m (i + 1) (by omega), h2]
      have hn : nameB c = (letterB c || digitB c || c == 43 || c == 45) := rfl
      simp only [List.all_cons, hn, bne]
      generalize letterB c = v1, digitB c = v2, (c == 43) = v3, (c == 45) = v4, r.all nameB = v5
      cases v1 <;> cases v2 <;> cases v3 <;> cases v4 <;> cases v5 <;> rfl
theorem rnameF_val (n : Nat) (s : Str) (hs : s.length < 9223372036854775808) (hn : s.length < n) : clepsydraref07_name_f n s = some (isName s) := by
  unfold clepsydraref07_name_f clepsydraref07_name_b isName
  rw [show (0 : Int) = ((0 : Nat) : Int) from rfl, rname_loop n s hs n 0 (by omega), List.drop_zero]
  cases h : s.all nameB with
  | false => simp
  | true =>
    simp only [Option.bind_some, if_true, Sum.elim_inr]
    rw [cond_and, Bool.and_true]
    have e1 : decide ((s.length : Int) ≥ (3 : Int)) = decide (3 ≤ s.length) := by rw [decide_eq_decide]; omega
    have e2 : decide ((s.length : Int) ≤ (10 : Int)) = decide (s.length ≤ 10) := by rw [decide_eq_decide]; omega
    rw [e1, e2]
/-! ### days -/
theorem rdayF_val (n : Nat) (k m w d t : Int) : clepsydraref07_day_f n k m w d t = some (dayOK ⟨k, m, w, d, t⟩) := by
  unfold clepsydraref07_day_f clepsydraref07_day_b clepsydraref07_day_j0 clepsydraref07_day_j0_b dayOK nearB
  by_cases h1 : t < -604799
  · rw [cond_pos h1]
    have : ¬ (-604799 ≤ t) := by omega
    simp [this]
  · rw [cond_neg h1]
    by_cases h2 : t > 604799
    · have : ¬ (t ≤ 604799) := by omega
      simp [h2, this]
    · have e1 : -604799 ≤ t := by omega
      have e2 : t ≤ 604799 := by omega
      simp only [h2, decide_false, Option.bind_some, cond_false, beqI, cond_and, e1, e2, decide_true, Bool.true_and, ge_iff_le, Bool.and_assoc]
      by_cases k1 : k = 1
      · simp [k1]
      · by_cases k2 : k = 2
        · simp [k2]
        · by_cases k3 : k = 3
          · simp [k3]
          · rw [decide_eq_false k1, decide_eq_false k2, decide_eq_false k3]
            simp [k1, k2, k3]
theorem roff_val (n : Nat) (x : Int) : clepsydraref07_off_f n x = some (nearB x 89999) := by
  unfold clepsydraref07_off_f clepsydraref07_off_b nearB
  rw [cond_and]
theorem rright_val (n : Nat) (std dst : Str) (off doff k m w d t k' m' w' d' t' : Int) (hs : std.length < 9223372036854775808) (hn : std.length < n) (hs' : dst.length < 9223372036854775808) (hn' : dst.length < n) :
    clepsydraref07_Right_f n std dst off doff k m w d t k' m' w' d' t' = some (rightS ⟨std, dst, off, doff, ⟨k, m, w, d, t⟩, ⟨k', m', w', d', t'⟩⟩) := by
  unfold clepsydraref07_Right_f clepsydraref07_Right_b rightS
  rw [clepsydraref07_Right_j1, clepsydraref07_Right_j1_b, rnameF_val n std hs hn]
  simp only [Option.bind_some]
  cases isName std with
  | false => simp
  | true =>
    simp only [Bool.not_true, cond_false, Bool.true_and, roff_val, Option.bind_some]
    cases nearB off 89999 with
    | false => simp
    | true =>
      simp only [Bool.not_true, cond_false, Bool.true_and]
      by_cases hd : dst = []
      · subst hd
        rw [clepsydraref07_Right_j0, clepsydraref07_Right_j0_b]
        have z : ∀ k m w d t : Int, ((k == 0) && ((m == 0) && ((w == 0) && ((d == 0) && ((t == 0) && true))))) = zeroD ⟨k, m, w, d, t⟩ := fun k m w d t => by simp [zeroD, Bool.and_assoc]
        simp only [beq_self_eq_true, cond_true, if_true, z]
        cases doff == 0 <;> cases zeroD ⟨k, m, w, d, t⟩ <;> cases zeroD ⟨k', m', w', d', t'⟩ <;> rfl
      · have : (dst == ([] : Str)) = false := by simpa using hd
        rw [this, cond_false, rnameF_val n dst hs' hn', if_neg hd]
        simp only [Option.bind_some, roff_val, rdayF_val, cond_andB, Bool.and_assoc]
end Go.Proofs.YtpooncihlnllnaaGreatDoor.H

/- Chapter 07: what the reference's reader does. -/
namespace Go.Proofs.YtpooncihlnllnaaGreatDoor.H
open Go.Sh Go.RowKit
set_option linter.unusedSimpArgs false
set_option linter.unusedVariables false

/-! ### where one is: at the rest r of s -/
def At (s r : Str) (i : Int) : Prop := r <:+ s ∧ i = ((s.length - r.length : Nat) : Int)
theorem At.nil {s : Str} {i : Int} (h : At s [] i) : i = (s.length : Int) := by simpa [At] using h.2
theorem At.le {s r : Str} {i : Int} (h : At s r i) : r.length ≤ s.length := h.1.length_le
theorem At.cons {s r : Str} {c : UInt8} {i : Int} (h : At s (c :: r) i) : ∃ k : Nat, i = (k : Int) ∧ k < s.length ∧ s[k]? = some c ∧ At s r ((k + 1 : Nat) : Int) := by
  obtain ⟨⟨p, hp⟩, hi⟩ := h
  subst hp
  refine ⟨p.length, ?_, ?_, ?_, ⟨⟨p ++ [c], by simp⟩, ?_⟩⟩
  · rw [hi]; simp
  · simp
  · simp
  · simp [List.length_append]; omega
theorem At.start (s : Str) : At s s 0 := ⟨List.suffix_refl s, by simp⟩
/-- A part between two places. -/
theorem At.part {s m r : Str} {i j : Int} (h : At s (m ++ r) i) (h2 : At s r j) : (s.take j.toNat).drop i.toNat = m := by
  obtain ⟨⟨p, hp⟩, hi⟩ := h
  subst hp
  have hj := h2.2
  subst hi hj
  simp only [Int.toNat_natCast]
  have e1 : (p ++ (m ++ r)).length - r.length = (p ++ m).length := by simp only [List.length_append]; omega
  have e2 : (p ++ (m ++ r)).length - (m ++ r).length = p.length := by simp only [List.length_append]; omega
  rw [e1, e2, ← List.append_assoc, List.take_left, List.drop_left]
theorem At.drop {s r : Str} {i : Int} (h : At s r i) (k : Nat) (hk : k ≤ r.length) : At s (r.drop k) (i + k) := by
  obtain ⟨h1, h2⟩ := h
  refine ⟨(List.drop_suffix k r).trans h1, ?_⟩
  have := h1.length_le
  rw [h2, List.length_drop]
  omega
theorem At.le2 {s r : Str} {i : Int} (h : At s r i) : 0 ≤ i ∧ i ≤ (s.length : Int) := by
  have := h.le
  rw [h.2]
  omega
theorem At.num {s r : Str} {i : Int} (h : At s r i) : i = (s.length : Int) - (r.length : Int) := by
  have := h.le
  rw [h.2]
  omega

/-! ### a byte -/
def headI : Str → Int
  | [] => 0
  | c :: _ => (c.toNat : Int)
theorem next_val (n : Nat) {s r : Str} {i : Int} (h : At s r i) (b : Bool) : clepsydraref07_reader_next_f n s i b = some (headI r, s, i, b) := by
  unfold clepsydraref07_reader_next_f clepsydraref07_reader_next_b
  cases r with
  | nil => rw [h.nil, cond_neg (by omega)]; rfl
  | cons c r =>
    obtain ⟨k, rfl, h1, h2, h3⟩ := h.cons
    rw [cond_pos (by omega), cond_pos (by omega), Int.toNat_natCast, h2]
    rfl
theorem reat_val (n : Nat) (a : Int) (c : UInt8) {s r : Str} {i : Int} (h : At s r i) (b : Bool) (hs : s.length < 9223372036854775808) (ha : a = (c.toNat : Int) := by rfl) :
    ∃ j, clepsydraref07_reader_eat_f n a s i b = some ((eatS c r).1, s, j, b) ∧ At s (eatS c r).2 j := by
  subst ha
  unfold clepsydraref07_reader_eat_f clepsydraref07_reader_eat_b clepsydraref07_reader_eat_j0 clepsydraref07_reader_eat_j0_b
  cases r with
  | nil =>
    have := h.nil
    rw [cond_pos (by omega)]
    exact ⟨i, rfl, h⟩
  | cons x r =>
    obtain ⟨k, rfl, h1, h2, h3⟩ := h.cons
    rw [cond_neg (by omega), cond_pos (by omega), Int.toNat_natCast, h2]
    simp only [Option.bind_some, bne_byte]
    by_cases hx : x = c
    · subst hx
      refine ⟨((k + 1 : Nat) : Int), ?_, by simpa [eatS] using h3⟩
      rw [wrap1 k (by omega)]
      simp [eatS]
    · refine ⟨k, ?_, by simpa [eatS, hx] using h⟩
      rw [show (x != c) = true by simpa using hx]
      simp [eatS, hx]
theorem rmust_val (n : Nat) (a : Int) (c : UInt8) {s r : Str} {i : Int} (h : At s r i) (b : Bool) (hs : s.length < 9223372036854775808) (ha : a = (c.toNat : Int) := by rfl) :
    ∃ j, clepsydraref07_reader_must_f n a s i b = some (s, j, b || !(eatS c r).1) ∧ At s (eatS c r).2 j := by
  obtain ⟨j, h1, h2⟩ := reat_val n a c h b hs ha
  refine ⟨j, ?_, h2⟩
  unfold clepsydraref07_reader_must_f clepsydraref07_reader_must_b
  rw [h1]
  cases he : (eatS c r).1 <;> cases b <;> simp [he]

theorem runS_full (p : UInt8 → Bool) (r : Str) : runS p r.length r = r.takeWhile p := by simp [runS]
theorem runS_split (p : UInt8 → Bool) (k : Nat) (r : Str) : runS p k r ++ r.drop (runS p k r).length = r := by
  conv => rhs; rw [← List.take_append_drop (runS p k r).length r]
  rw [runS_take]
theorem open_loop (n : Nat) (s : Str) (b : Bool) (hs : s.length < 9223372036854775808) : ∀ (m : Nat) (r : Str) (i : Int), r.length < m → At s r i →
    clepsydraref07_reader_name_l1 n m s i b = some (s, i + ((r.takeWhile openB).length : Int), b)
  | 0, r, i, hm, _ => by omega
  | m + 1, r, i, hm, h => by
    rw [clepsydraref07_reader_name_l1, clepsydraref07_reader_name_l1_b, clepsydraref07_reader_name_j1, clepsydraref07_reader_name_j1_b]
    cases r with
    | nil =>
      have := h.nil
      rw [cond_neg (by omega)]
      simp
    | cons c r =>
      obtain ⟨k, rfl, h1, h2, h3⟩ := h.cons
      simp only [List.length_cons] at hm
      rw [cond_pos (by omega), cond_pos (by omega), Int.toNat_natCast, h2]
      have e : ((c.toNat : Int) != 62) = openB c := bne_byte c 62
      simp only [Option.bind_some, e]
      cases hc : openB c with
      | false => rw [List.takeWhile_cons_of_neg (by simp [hc])]; simp
      | true =>
        rw [List.takeWhile_cons_of_pos (by simp [hc]), cond_true, wrap1 k (by omega), open_loop n s b hs m r _ (by omega) h3]
        refine congrArg some (Prod.ext rfl (Prod.ext ?_ rfl))
        simp only [List.length_cons]
        omega
theorem letter_loop (n : Nat) (s : Str) (b : Bool) (hs : s.length < 9223372036854775808) : ∀ (m : Nat) (r : Str) (i : Int), r.length < m → At s r i →
    clepsydraref07_reader_name_l0 n m s i b = some (s, i + ((r.takeWhile letterB).length : Int), b)
  | 0, r, i, hm, _ => by omega
  | m + 1, r, i, hm, h => by
    rw [clepsydraref07_reader_name_l0, clepsydraref07_reader_name_l0_b, next_val n h]
    cases r with
    | nil =>
      simp only [Option.bind_some, headI]
      rw [show clepsydraref07_letter_f n 0 = some false from rletter_val n 0]
      simp
    | cons c r =>
      obtain ⟨k, rfl, h1, h2, h3⟩ := h.cons
      simp only [List.length_cons] at hm
      simp only [Option.bind_some, headI, rletter_val]
      cases hc : letterB c with
      | false => rw [List.takeWhile_cons_of_neg (by simp [hc])]; simp
      | true =>
        rw [List.takeWhile_cons_of_pos (by simp [hc]), cond_true, wrap1 k (by omega), letter_loop n s b hs m r _ (by omega) h3]
        refine congrArg some (Prod.ext rfl (Prod.ext ?_ rfl))
        simp only [List.length_cons]
        omega
theorem rreader_name_val (n : Nat) {s r : Str} {i : Int} (h : At s r i) (b : Bool) (hs : s.length < 9223372036854775808) (hn : s.length < n) :
    ∃ j, clepsydraref07_reader_name_f n s i b = some ((nameS r).1, s, j, b || (nameS r).2.2) ∧ At s (nameS r).2.1 j := by
  obtain ⟨j, h1, h2⟩ := reat_val n 60 60 h b hs
  have hle := h.le
  have hl := eatS_len 60 r
  unfold clepsydraref07_reader_name_f clepsydraref07_reader_name_b nameS
  rw [h1]
  simp only [Option.bind_some]
  cases he : (eatS 60 r).1 with
  | true =>
    simp only [cond_true, if_true]
    have hr := runS_len openB (eatS 60 r).2.length (eatS 60 r).2
    rw [open_loop n s b hs n _ _ (by omega) h2]
    rw [← runS_full]
    generalize hw : runS openB (eatS 60 r).2.length (eatS 60 r).2 = w at *
    have h3 := h2.drop w.length (by omega)
    have b2 := h2.le2
    have b3 := h3.le2
    simp only [Option.bind_some]
    rw [cond_pos (by omega), cond_pos (by omega), cond_pos (by omega), cond_pos (by omega)]
    obtain ⟨q, h4, h5⟩ := rmust_val n 62 62 h3 b hs
    rw [h4]
    simp only [Option.bind_some]
    have hsp : w ++ (eatS 60 r).2.drop w.length = (eatS 60 r).2 := by rw [← hw]; exact runS_split _ _ _
    rw [At.part (by rw [hsp]; exact h2) h3]
    rw [clepsydraref07_reader_name_j0, clepsydraref07_reader_name_j0_b, rnameF_val n w (by omega) (by omega)]
    refine ⟨q, ?_, h5⟩
    cases b <;> cases (eatS 62 ((eatS 60 r).2.drop w.length)).1 <;> rfl
  | false =>
    have hz : (eatS 60 r).2 = r ∧ j = i := by
      have hr : (eatS 60 r).2 = r := by
        cases r with
        | nil => rfl
        | cons x r => by_cases hx : x = 60 <;> simp_all [eatS]
      rw [hr] at h2
      exact ⟨hr, by rw [h2.2, h.2]⟩
    obtain ⟨hz1, rfl⟩ := hz
    simp only [cond_false, Bool.false_eq_true, if_false, hz1]
    have hr := runS_len letterB r.length r
    rw [letter_loop n s b hs n _ _ (by omega) h]
    rw [← runS_full]
    generalize hw : runS letterB r.length r = w at *
    have h3 := h.drop w.length (by omega)
    have b2 := h.le2
    have b3 := h3.le2
    simp only [Option.bind_some]
    rw [cond_pos (by omega), cond_pos (by omega), cond_pos (by omega), cond_pos (by omega)]
    have hsp : w ++ r.drop w.length = r := by rw [← hw]; exact runS_split _ _ _
    rw [At.part (by rw [hsp]; exact h) h3, rnameF_val n w (by omega) (by omega)]
    refine ⟨_, ?_, h3⟩
    cases b <;> rfl
end Go.Proofs.YtpooncihlnllnaaGreatDoor.H

/- Chapter 07: numbers, hours and days read by the reference. -/
namespace Go.Proofs.YtpooncihlnllnaaGreatDoor.H
open Go.Sh Go.RowKit
set_option linter.unusedSimpArgs false
set_option linter.unusedVariables false

theorem rnum_loop (n : Nat) (s : Str) (b : Bool) (most : Nat) (hm3 : most ≤ 3) (hs : s.length < 9223372036854775808) : ∀ (m : Nat) (r d : Str) (i : Int), most - d.length < m → d.length ≤ most → d.all digitB = true → At s r i →
    ∃ j, clepsydraref07_reader_number_l0 n m (most : Int) (valS d : Int) (d.length : Int) s i b = some (((valS (d ++ runS digitB (most - d.length) r) : Nat) : Int), (((d ++ runS digitB (most - d.length) r).length : Nat) : Int), s, j, b) ∧ At s (r.drop (runS digitB (most - d.length) r).length) j
  | 0, r, d, i, hm, _, _, _ => by omega
  | m + 1, r, d, i, hm, hl, hd, h => by
    rw [clepsydraref07_reader_number_l0, clepsydraref07_reader_number_l0_b, clepsydraref07_reader_number_j0, clepsydraref07_reader_number_j0_b]
    by_cases hx : d.length < most
    · rw [cond_pos (by omega), next_val n h]
      simp only [Option.bind_some]
      obtain ⟨k, hk⟩ : ∃ k, most - d.length = k + 1 := ⟨most - d.length - 1, by omega⟩
      cases r with
      | nil =>
        rw [show clepsydraref07_digit_f n (headI []) = some false from rdigit_val n 0]
        refine ⟨i, ?_, by simpa [runS] using h⟩
        simp [runS]
      | cons c r =>
        obtain ⟨q, rfl, h1, h2, h3⟩ := h.cons
        rw [show clepsydraref07_digit_f n (headI (c :: r)) = some (digitB c) from rdigit_val n c]
        simp only [Option.bind_some]
        cases hc : digitB c with
        | false =>
          have hr : runS digitB (most - d.length) (c :: r) = [] := by rw [hk, runS, List.take_succ_cons, List.takeWhile_cons_of_neg (by simp [hc])]
          rw [hr]
          refine ⟨_, ?_, by simpa using h⟩
          simp
        | true =>
          have hr : runS digitB (most - d.length) (c :: r) = c :: runS digitB k r := by rw [hk, runS, List.take_succ_cons, List.takeWhile_cons_of_pos (by simp [hc])]; rfl
          rw [hr, cond_true, next_val n h]
          simp only [Option.bind_some, headI]
          have hv := valS_lt d (by omega) hd
          have hv3 : (10 : Nat) ^ d.length ≤ 10 ^ 3 := Nat.pow_le_pow_right (by omega) (by omega)
          have hcd := (digitB_iff c).1 hc
          have e1 : IntKind.i64.wrap (IntKind.i64.wrap (IntKind.i64.wrap (10 * (valS d : Int)) + IntKind.i64.wrap (c.toNat : Int)) - 48) = ((valS (d ++ [c]) : Nat) : Int) := by
            rw [wi (10 * _) (by omega) (by omega), wi (c.toNat : Int) (by omega) (by omega), wi (_ + _) (by omega) (by omega), wi (_ - _) (by omega) (by omega), valS_snoc]
            omega
          have e2 : IntKind.i64.wrap ((d.length : Int) + 1) = (((d ++ [c]).length : Nat) : Int) := by rw [wrap1 _ (by omega), List.length_append]; rfl
          rw [e1, e2, wrap1 q (by omega)]
          have hl2 : (d ++ [c]).length = d.length + 1 := by simp
          obtain ⟨j, h4, h5⟩ := rnum_loop n s b most hm3 hs m r (d ++ [c]) _ (by omega) (by omega) (by simp [hd, hc]) h3
          rw [hl2, show most - (d.length + 1) = k by omega, ← hl2] at h4
          rw [hl2, show most - (d.length + 1) = k by omega] at h5
          refine ⟨j, ?_, by simpa using h5⟩
          rw [h4]
          simp
    · rw [cond_neg (by omega)]
      have hz : most - d.length = 0 := by omega
      refine ⟨i, ?_, by simpa [hz, runS] using h⟩
      simp [hz, runS]
theorem rnumber_val (n a b : Nat) (ha : a ≤ 3) (hb : b ≤ 3) {s r : Str} {i : Int} (h : At s r i) (bad : Bool) (hs : s.length < 9223372036854775808) (hn : 5 < n) :
    ∃ j, clepsydraref07_reader_number_f n (a : Int) (b : Int) s i bad = some (((numS a b r).1 : Int), s, j, bad || (numS a b r).2.2) ∧ At s (numS a b r).2.1 j := by
  obtain ⟨j, h1, h2⟩ := rnum_loop n s bad b hb hs n r [] i (by simp; omega) (by simp) (by simp) h
  unfold clepsydraref07_reader_number_f clepsydraref07_reader_number_b
  simp only [List.length_nil, Nat.sub_zero, List.nil_append] at h1 h2
  rw [show (0 : Int) = ((valS [] : Nat) : Int) from rfl]
  change ∃ j, ((clepsydraref07_reader_number_l0 n n (b : Int) ((valS [] : Nat) : Int) ((0 : Nat) : Int) s i bad).bind _) = _ ∧ _
  rw [h1]
  refine ⟨j, ?_, h2⟩
  have hd : decide ((((runS digitB b r).length : Nat) : Int) < (a : Int)) = decide ((runS digitB b r).length < a) := by rw [decide_eq_decide]; omega
  simp only [Option.bind_some, numS, hd]
  cases bad <;> rfl

/-! ### hours -/
theorem rsign_val (n : Nat) {s r : Str} {i : Int} (h : At s r i) (b : Bool) (hs : s.length < 9223372036854775808) :
    ∃ j, clepsydraref07_reader_hours_j2 n 1 s i b = some ((signS r).1, s, j, b) ∧ At s (signS r).2 j := by
  unfold clepsydraref07_reader_hours_j2 clepsydraref07_reader_hours_j2_b signS
  obtain ⟨j, h1, h2⟩ := reat_val n 45 45 h b hs
  rw [h1]
  simp only [Option.bind_some]
  cases he : (eatS 45 r).1 with
  | true => exact ⟨j, rfl, h2⟩
  | false =>
    obtain ⟨q, h3, h4⟩ := reat_val n 43 43 h2 b hs
    simp only [cond_false]
    rw [h3]
    exact ⟨q, rfl, h4⟩
theorem rhours_val (n most : Nat) {s r : Str} {i : Int} (h : At s r i) (b : Bool) (hs : s.length < 9223372036854775808) (hn : 5 < n) :
    ∃ j, clepsydraref07_reader_hours_f n (most : Int) s i b = some ((hoursS most r).1, s, j, b || (hoursS most r).2.2) ∧ At s (hoursS most r).2.1 j := by
  unfold clepsydraref07_reader_hours_f clepsydraref07_reader_hours_b hoursS
  obtain ⟨j1, h1, a1⟩ := rsign_val n h b hs
  rw [h1]
  simp only [Option.bind_some]
  obtain ⟨j2, h2, a2⟩ := rnumber_val n 1 3 (by omega) (by omega) a1 b hs hn
  rw [show clepsydraref07_reader_number_f n (1 : Int) (3 : Int) s j1 b = _ from h2]
  simp only [Option.bind_some]
  have l2 := numS_lt 1 3 (signS r).2 (by omega)
  generalize numS 1 3 (signS r).2 = hh at *
  rw [clepsydraref07_reader_hours_j1, clepsydraref07_reader_hours_j1_b]
  unfold minS
  obtain ⟨j3, h3, a3⟩ := reat_val n 58 58 a2 (b || hh.2.2) hs
  rw [h3]
  simp only [Option.bind_some]
  have sg := signS_or r
  -- what the rest says
  have fin : ∀ (m sc : Nat) (bad : Bool) (j : Int), m < 1000 → sc < 1000 →
      ((clepsydraref07_reader_hours_j0 n (most : Int) (hh.1 : Int) (m : Int) (sc : Int) s j bad).bind fun o127 => some (IntKind.i64.wrap ((signS r).1 * (IntKind.i64.wrap ((IntKind.i64.wrap ((IntKind.i64.wrap ((3600 : Int) * (hh.1 : Int))) + (IntKind.i64.wrap ((60 : Int) * (m : Int))))) + (sc : Int)))), o127.1, o127.2.1, o127.2.2))
      = some ((signS r).1 * (3600 * (hh.1 : Int) + (60 * (m : Int) + (sc : Int))), s, j, bad || decide (most < hh.1) || decide (60 ≤ m) || decide (60 ≤ sc)) := by
    intro m sc bad j hm hsc
    rw [clepsydraref07_reader_hours_j0, clepsydraref07_reader_hours_j0_b]
    have e1 : decide ((hh.1 : Int) > (most : Int)) = decide (most < hh.1) := by rw [decide_eq_decide]; omega
    have e2 : decide ((m : Int) > (59 : Int)) = decide (60 ≤ m) := by rw [decide_eq_decide]; omega
    have e3 : decide ((sc : Int) > (59 : Int)) = decide (60 ≤ sc) := by rw [decide_eq_decide]; omega
    rw [e1, e2, e3, wi (3600 * _) (by omega) (by omega), wi (60 * _) (by omega) (by omega), wi (3600 * (hh.1 : Int) + _) (by omega) (by omega), wi (3600 * (hh.1 : Int) + _ + _) (by omega) (by omega)]
    have e4 : IntKind.i64.wrap ((signS r).1 * (3600 * (hh.1 : Int) + 60 * (m : Int) + (sc : Int))) = (signS r).1 * (3600 * (hh.1 : Int) + (60 * (m : Int) + (sc : Int))) := by
      rcases sg with g | g <;> rw [g, wi _ (by omega) (by omega)] <;> omega
    rw [e4]
    cases bad <;> cases decide (most < hh.1) <;> cases decide (60 ≤ m) <;> cases decide (60 ≤ sc) <;> rfl
  cases he : (eatS 58 hh.2.1).1 with
  | false =>
    simp only [cond_false, Bool.false_eq_true, if_false, Option.bind_some]
    refine ⟨j3, ?_, a3⟩
    rw [show (0 : Int) = ((0 : Nat) : Int) from rfl, fin 0 0 _ _ (by omega) (by omega)]
    simp [Bool.or_assoc]
  | true =>
    simp only [cond_true, if_true]
    obtain ⟨j4, h4, a4⟩ := rnumber_val n 2 2 (by omega) (by omega) a3 (b || hh.2.2) hs hn
    rw [show clepsydraref07_reader_number_f n (2 : Int) (2 : Int) s j3 (b || hh.2.2) = _ from h4]
    simp only [Option.bind_some]
    have l4 := numS_lt 2 2 (eatS 58 hh.2.1).2 (by omega)
    generalize numS 2 2 (eatS 58 hh.2.1).2 = mm at *
    obtain ⟨j5, h5, a5⟩ := reat_val n 58 58 a4 (b || hh.2.2 || mm.2.2) hs
    rw [h5]
    simp only [Option.bind_some]
    cases hf : (eatS 58 mm.2.1).1 with
    | false =>
      simp only [cond_false, Bool.false_eq_true, if_false, Option.bind_some]
      refine ⟨j5, ?_, a5⟩
      rw [show (0 : Int) = ((0 : Nat) : Int) from rfl, fin mm.1 0 _ _ l4 (by omega)]
      cases b <;> cases hh.2.2 <;> cases mm.2.2 <;> cases decide (most < hh.1) <;> cases decide (60 ≤ mm.1) <;> simp
    | true =>
      simp only [cond_true, if_true]
      obtain ⟨j6, h6, a6⟩ := rnumber_val n 2 2 (by omega) (by omega) a5 (b || hh.2.2 || mm.2.2) hs hn
      rw [show clepsydraref07_reader_number_f n (2 : Int) (2 : Int) s j5 (b || hh.2.2 || mm.2.2) = _ from h6]
      simp only [Option.bind_some]
      have l6 := numS_lt 2 2 (eatS 58 mm.2.1).2 (by omega)
      generalize numS 2 2 (eatS 58 mm.2.1).2 = ss at *
      refine ⟨j6, ?_, a6⟩
      rw [fin mm.1 ss.1 _ _ l4 l6]
      cases b <;> cases hh.2.2 <;> cases mm.2.2 <;> cases ss.2.2 <;> cases decide (most < hh.1) <;> cases decide (60 ≤ mm.1) <;> cases decide (60 ≤ ss.1) <;> rfl

theorem rday_val (n : Nat) {s r : Str} {i : Int} (h : At s r i) (b : Bool) (hs : s.length < 9223372036854775808) (hn : 5 < n) :
    ∃ j, clepsydraref07_reader_day_f n s i b = some ((dayS r).1.k, (dayS r).1.m, (dayS r).1.w, (dayS r).1.d, (dayS r).1.t, s, j, b || (dayS r).2.2 || !dayOK (dayS r).1) ∧ At s (dayS r).2.1 j := by
  have num : ∀ {r : Str} {i : Int} (h : At s r i) (bad : Bool), ∃ j, clepsydraref07_reader_number_f n (1 : Int) (3 : Int) s i bad = some (((numS 1 3 r).1 : Int), s, j, bad || (numS 1 3 r).2.2) ∧ At s (numS 1 3 r).2.1 j := fun h bad => rnumber_val n 1 3 (by omega) (by omega) h bad hs hn
  have tail : ∀ (k m w : Int) (r : Str) (d : Nat) (i : Int) (bad bad0 : Bool) (dd : Nat × Str × Bool), dd = numS 1 3 r → At s dd.2.1 i →
      ∃ j, ((clepsydraref07_reader_day_j0 n s i (b || bad || dd.2.2) 0 0 0 0 0 k m w dd.1 7200).bind fun o147 => cond o147.2.2.1 (some (o147.2.2.2.2.2.2.2.2.1, o147.2.2.2.2.2.2.2.2.2.1, o147.2.2.2.2.2.2.2.2.2.2.1, o147.2.2.2.2.2.2.2.2.2.2.2.1, o147.2.2.2.2.2.2.2.2.2.2.2.2, o147.1, o147.2.1, true)) ((clepsydraref07_day_f n o147.2.2.2.2.2.2.2.2.1 o147.2.2.2.2.2.2.2.2.2.1 o147.2.2.2.2.2.2.2.2.2.2.1 o147.2.2.2.2.2.2.2.2.2.2.2.1 o147.2.2.2.2.2.2.2.2.2.2.2.2).bind fun o149 => some (o147.2.2.2.2.2.2.2.2.1, o147.2.2.2.2.2.2.2.2.2.1, o147.2.2.2.2.2.2.2.2.2.2.1, o147.2.2.2.2.2.2.2.2.2.2.2.1, o147.2.2.2.2.2.2.2.2.2.2.2.2, o147.1, o147.2.1, !o149)))
      = some ((dayTail k m w r bad).1.k, (dayTail k m w r bad).1.m, (dayTail k m w r bad).1.w, (dayTail k m w r bad).1.d, (dayTail k m w r bad).1.t, s, j, b || (dayTail k m w r bad).2.2 || !dayOK (dayTail k m w r bad).1) ∧ At s (dayTail k m w r bad).2.1 j := by
    intro k m w r d i bad bad0 dd hdd a
    subst hdd
    unfold dayTail
    rw [clepsydraref07_reader_day_j0, clepsydraref07_reader_day_j0_b]
    obtain ⟨j1, h1, a1⟩ := reat_val n 47 47 a (b || bad || (numS 1 3 r).2.2) hs
    rw [h1]
    simp only [Option.bind_some]
    cases he : (eatS 47 (numS 1 3 r).2.1).1 with
    | true =>
      obtain ⟨j2, h2, a2⟩ := rhours_val n 167 a1 (b || bad || (numS 1 3 r).2.2) hs hn
      simp only [cond_true, if_true]
      rw [show clepsydraref07_reader_hours_f n (167 : Int) s j1 (b || bad || (numS 1 3 r).2.2) = _ from h2]
      simp only [Option.bind_some, rdayF_val]
      refine ⟨j2, ?_, a2⟩
      generalize dayOK _ = ok
      cases b <;> cases bad <;> cases (numS 1 3 r).2.2 <;> cases (hoursS 167 (eatS 47 (numS 1 3 r).2.1).2).2.2 <;> cases ok <;> rfl
    | false =>
      simp only [cond_false, Bool.false_eq_true, if_false, Option.bind_some, rdayF_val]
      refine ⟨j1, ?_, a1⟩
      generalize dayOK _ = ok
      cases b <;> cases bad <;> cases (numS 1 3 r).2.2 <;> cases ok <;> rfl
  unfold clepsydraref07_reader_day_f clepsydraref07_reader_day_b dayS
  rw [clepsydraref07_reader_day_j1, clepsydraref07_reader_day_j1_b]
  obtain ⟨j1, h1, a1⟩ := reat_val n 74 74 h b hs
  rw [h1]
  simp only [Option.bind_some]
  cases he : (eatS 74 r).1 with
  | true =>
    obtain ⟨j2, h2, a2⟩ := num a1 b
    simp only [cond_true, if_true]
    rw [h2]
    simp only [Option.bind_some]
    have := tail 1 0 0 _ 0 j2 false false _ rfl a2
    rw [Bool.or_false] at this
    exact this
  | false =>
    simp only [cond_false, Bool.false_eq_true, if_false]
    obtain ⟨j2, h2, a2⟩ := reat_val n 77 77 a1 b hs
    rw [h2]
    simp only [Option.bind_some]
    cases hf : (eatS 77 (eatS 74 r).2).1 with
    | false =>
      obtain ⟨j3, h3, a3⟩ := num a2 b
      simp only [cond_false, Bool.false_eq_true, if_false]
      rw [h3]
      simp only [Option.bind_some]
      have := tail 2 0 0 _ 0 j3 false false _ rfl a3
      rw [Bool.or_false] at this
      exact this
    | true =>
      simp only [cond_true, if_true]
      obtain ⟨j3, h3, a3⟩ := num a2 b
      rw [h3]
      simp only [Option.bind_some]
      obtain ⟨j4, h4, a4⟩ := rmust_val n 46 46 a3 (b || (numS 1 3 (eatS 77 (eatS 74 r).2).2).2.2) hs
      rw [h4]
      simp only [Option.bind_some]
      obtain ⟨j5, h5, a5⟩ := num a4 (b || (numS 1 3 (eatS 77 (eatS 74 r).2).2).2.2 || !(eatS 46 (numS 1 3 (eatS 77 (eatS 74 r).2).2).2.1).1)
      rw [h5]
      simp only [Option.bind_some]
      obtain ⟨j6, h6, a6⟩ := rmust_val n 46 46 a5 (b || (numS 1 3 (eatS 77 (eatS 74 r).2).2).2.2 || !(eatS 46 (numS 1 3 (eatS 77 (eatS 74 r).2).2).2.1).1 || (numS 1 3 (eatS 46 (numS 1 3 (eatS 77 (eatS 74 r).2).2).2.1).2).2.2) hs
      rw [h6]
      simp only [Option.bind_some]
      obtain ⟨j7, h7, a7⟩ := num a6 (b || (numS 1 3 (eatS 77 (eatS 74 r).2).2).2.2 || !(eatS 46 (numS 1 3 (eatS 77 (eatS 74 r).2).2).2.1).1 || (numS 1 3 (eatS 46 (numS 1 3 (eatS 77 (eatS 74 r).2).2).2.1).2).2.2 || !(eatS 46 (numS 1 3 (eatS 46 (numS 1 3 (eatS 77 (eatS 74 r).2).2).2.1).2).2.1).1)
      rw [h7]
      simp only [Option.bind_some]
      have := tail 3 (numS 1 3 (eatS 77 (eatS 74 r).2).2).1 (numS 1 3 (eatS 46 (numS 1 3 (eatS 77 (eatS 74 r).2).2).2.1).2).1 _ 0 j7 ((numS 1 3 (eatS 77 (eatS 74 r).2).2).2.2 || !(eatS 46 (numS 1 3 (eatS 77 (eatS 74 r).2).2).2.1).1 || (numS 1 3 (eatS 46 (numS 1 3 (eatS 77 (eatS 74 r).2).2).2.1).2).2.2 || !(eatS 46 (numS 1 3 (eatS 46 (numS 1 3 (eatS 77 (eatS 74 r).2).2).2.1).2).2.1).1) false _ rfl a7
      simp only [← Bool.or_assoc] at this ⊢
      exact this
end Go.Proofs.YtpooncihlnllnaaGreatDoor.H

/- Chapter 07: a rule parsed by the reference; the law FooterParses. -/
namespace Go.Proofs.YtpooncihlnllnaaGreatDoor.H
open Go.Sh Go.RowKit
set_option linter.unusedSimpArgs false
set_option linter.unusedVariables false

def tupB (r : RuleV) (e : Bool) : Str × Str × Int × Int × Int × Int × Int × Int × Int × Int × Int × Int × Int × Int × Bool := (r.std, r.dst, r.off, r.doff, r.a.k, r.a.m, r.a.w, r.a.d, r.a.t, r.b.k, r.b.m, r.b.w, r.b.d, r.b.t, e)
theorem rparse_val (n : Nat) (s : Str) (hn : 200 < n) : clepsydraref07_Parse_f n s = some (match ruleS s with | some r => tupB r true | none => tupB .zero false) := by
  unfold clepsydraref07_Parse_f clepsydraref07_Parse_b ruleS
  by_cases h100 : 100 < s.length
  · rw [cond_pos (by omega), if_pos h100]; rfl
  · rw [cond_neg (by omega), if_neg h100]
    have h1 := nameS_len s
    have h1' := nameS_len1 s
    have h2 := hoursS_len 24 (nameS s).2.1
    have h2' := hoursS_lt 24 (nameS s).2.1
    obtain ⟨j1, k1, a1⟩ := rreader_name_val n (At.start s) false (by omega) (by omega)
    rw [k1]
    simp only [Option.bind_some, Bool.false_or]
    obtain ⟨j2, k2, a2⟩ := rhours_val n 24 a1 (nameS s).2.2 (by omega) (by omega)
    rw [show clepsydraref07_reader_hours_f n (24 : Int) s j1 (nameS s).2.2 = _ from k2]
    simp only [Option.bind_some]
    rw [wi (0 - (hoursS 24 (nameS s).2.1).1) (by omega) (by omega), Int.zero_sub]
    have fin : ∀ (r : RuleV) (t : Str) (i : Int) (bad bad' : Bool), At s t i → r.std.length ≤ 200 → r.dst.length ≤ 200 → (bad = false → bad' = true → rightS r = false) → (bad = true → bad' = true) →
        cond bad' (some (tupB .zero false)) (cond (i != (s.length : Int)) (some (tupB .zero false)) ((clepsydraref07_Right_f n r.std r.dst r.off r.doff r.a.k r.a.m r.a.w r.a.d r.a.t r.b.k r.b.m r.b.w r.b.d r.b.t).bind fun o80 => cond (!o80) (some (tupB .zero false)) (some (tupB r true))))
        = some (match (if bad = false ∧ t = [] ∧ rightS r = true then some r else none) with | some r => tupB r true | none => tupB .zero false) := by
      intro r t i bad bad' a g1 g2 g3 g4
      rw [rright_val n _ _ _ _ _ _ _ _ _ _ _ _ _ _ (by omega) (by omega) (by omega) (by omega)]
      have hi : (i != (s.length : Int)) = !decide (t = []) := by
        have hnum := a.num
        cases t with
        | nil => simp at hnum; simp [hnum]
        | cons c t =>
          have : ¬ i = (s.length : Int) := by simp only [List.length_cons] at hnum; omega
          simp [this]
      rw [hi]
      cases bad with
      | true => rw [g4 rfl]; simp
      | false =>
        cases bad' with
        | true => rw [g3 rfl rfl]; simp
        | false =>
          cases t with
          | cons c t => simp
          | nil => cases h : rightS r <;> simp [h]
    by_cases he : (hoursS 24 (nameS s).2.1).2.1 = []
    · have hr : readS s = (⟨(nameS s).1, [], -(hoursS 24 (nameS s).2.1).1, 0, .zero, .zero⟩, [], (nameS s).2.2 || (hoursS 24 (nameS s).2.1).2.2) := by unfold readS; dsimp only; rw [if_pos he]
      rw [he] at a2
      have hj := a2.nil
      rw [clepsydraref07_Parse_j2, clepsydraref07_Parse_j2_b, clepsydraref07_Parse_j1, clepsydraref07_Parse_j1_b, cond_neg (by omega)]
      simp only [Option.bind_some, cond_false]
      rw [hr]
      exact fin ⟨(nameS s).1, [], -(hoursS 24 (nameS s).2.1).1, 0, .zero, .zero⟩ [] j2 _ _ a2 (by show (nameS s).1.length ≤ 200; omega) (by simp) (fun h h' => by cases h.symm.trans h') (fun h => h)
    · have hr : readS s = restS (nameS s).1 (-(hoursS 24 (nameS s).2.1).1) (hoursS 24 (nameS s).2.1).2.1 ((nameS s).2.2 || (hoursS 24 (nameS s).2.1).2.2) := by unfold readS; dsimp only; rw [if_neg he]
      have hlt : j2 < (s.length : Int) := by
        have hnum := a2.num
        have : 0 < (hoursS 24 (nameS s).2.1).2.1.length := List.length_pos_iff.2 he
        omega
      rw [clepsydraref07_Parse_j2, clepsydraref07_Parse_j2_b, clepsydraref07_Parse_j1, clepsydraref07_Parse_j1_b, cond_pos hlt]
      simp only [Option.bind_some]
      rw [hr]
      have hoff : -5000000 < -(hoursS 24 (nameS s).2.1).1 ∧ -(hoursS 24 (nameS s).2.1).1 < 5000000 := by omega
      generalize ((nameS s).2.2 || (hoursS 24 (nameS s).2.1).2.2) = bad at *
      generalize -(hoursS 24 (nameS s).2.1).1 = off at *
      generalize (hoursS 24 (nameS s).2.1).2.1 = r at *
      cases bad with
      | true =>
        simp only [Bool.not_true, cond_false, Option.bind_some, cond_true]
        unfold restS
        simp
        rfl
      | false =>
        simp only [Bool.not_false, cond_true]
        obtain ⟨j3, k3, a3⟩ := rreader_name_val n a2 false (by omega) (by omega)
        have l3 := nameS_len1 r
        rw [k3]
        simp only [Option.bind_some, Bool.false_or]
        rw [clepsydraref07_Parse_j0, clepsydraref07_Parse_j0_b, next_val n a3]
        simp only [Option.bind_some]
        have hhd : (headI (nameS r).2.1 != 44) = !decide ((nameS r).2.1.head? = some 44) := by
          cases (nameS r).2.1 with
          | nil => rfl
          | cons c q =>
            rw [show (headI (c :: q) != 44) = (c != 44) from bne_byte c 44, List.head?_cons]
            by_cases h : c = 44 <;> simp [h]
        have ho : ∀ (K : Int → Str → Int → Bool → Option (Str × Str × Int × Int × Int × Int × Int × Int × Int × Int × Int × Int × Int × Int × Str × Int × Bool × Str × Str × Int × Int × Int × Int × Int × Int × Int × Int × Int × Int × Int × Int)) (b' : Bool),
          ∃ j, cond (headI (nameS r).2.1 != 44) ((clepsydraref07_reader_hours_f n (24 : Int) s j3 b').bind fun o49 => K (IntKind.i64.wrap (0 - o49.1)) o49.2.1 o49.2.2.1 o49.2.2.2) (K (IntKind.i64.wrap (off + 3600)) s j3 b')
            = K (offS off (nameS r).2.1).1 s j (b' || (offS off (nameS r).2.1).2.2) ∧ At s (offS off (nameS r).2.1).2.1 j := by
          intro K b'
          unfold offS
          rw [hhd]
          have hl := hoursS_lt 24 (nameS r).2.1
          by_cases hc : (nameS r).2.1.head? = some 44
          · rw [decide_eq_true hc, if_pos hc, wi (off + 3600) (by omega) (by omega)]
            exact ⟨j3, by simp, a3⟩
          · rw [decide_eq_false hc, if_neg hc]
            obtain ⟨q, g1, g2⟩ := rhours_val n 24 a3 b' (by omega) (by omega)
            refine ⟨q, ?_, g2⟩
            rw [show clepsydraref07_reader_hours_f n (24 : Int) s j3 b' = _ from g1]
            simp only [Option.bind_some, Bool.not_false, cond_true]
            rw [wi _ (by omega) (by omega), Int.zero_sub]
        obtain ⟨j4, k4, a4⟩ := ho (fun x t i b => some (([] : Str), ([] : Str), 0, 0, 0, 0, 0, 0, 0, 0, 0, 0, 0, 0, t, i, b, (nameS s).1, (nameS r).1, off, x, 0, 0, 0, 0, 0, 0, 0, 0, 0, 0)) (nameS r).2.2
        rw [k4]
        simp only [Option.bind_some]
        obtain ⟨j5, k5, a5⟩ := rmust_val n 44 44 a4 ((nameS r).2.2 || (offS off (nameS r).2.1).2.2) (by omega)
        rw [k5]
        simp only [Option.bind_some]
        obtain ⟨j6, k6, a6⟩ := rday_val n a5 ((nameS r).2.2 || (offS off (nameS r).2.1).2.2 || !(eatS 44 (offS off (nameS r).2.1).2.1).1) (by omega) (by omega)
        rw [k6]
        simp only [Option.bind_some]
        obtain ⟨j7, k7, a7⟩ := rmust_val n 44 44 a6 ((nameS r).2.2 || (offS off (nameS r).2.1).2.2 || !(eatS 44 (offS off (nameS r).2.1).2.1).1 || (dayS (eatS 44 (offS off (nameS r).2.1).2.1).2).2.2 || !dayOK (dayS (eatS 44 (offS off (nameS r).2.1).2.1).2).1) (by omega)
        rw [k7]
        simp only [Option.bind_some]
        obtain ⟨j8, k8, a8⟩ := rday_val n a7 ((nameS r).2.2 || (offS off (nameS r).2.1).2.2 || !(eatS 44 (offS off (nameS r).2.1).2.1).1 || (dayS (eatS 44 (offS off (nameS r).2.1).2.1).2).2.2 || !dayOK (dayS (eatS 44 (offS off (nameS r).2.1).2.1).2).1 || !(eatS 44 (dayS (eatS 44 (offS off (nameS r).2.1).2.1).2).2.1).1) (by omega) (by omega)
        rw [k8]
        simp only [Option.bind_some]
        refine fin (restS (nameS s).1 off r false).1 (restS (nameS s).1 off r false).2.1 j8 (restS (nameS s).1 off r false).2.2 _ a8 (by show (nameS s).1.length ≤ 200; omega) (by show (nameS r).1.length ≤ 200; have := a2.le; omega) ?_ ?_
        · unfold restS
          dsimp only
          intro g1 g2
          unfold rightS
          dsimp only
          have hne : ¬ (nameS r).1 = [] := by
            intro hz
            simp only [Bool.or_eq_false_iff, Bool.false_or] at g1
            have := nameS_bad r g1.1.1.1.1.1
            rw [hz, isName_nil] at this
            cases this
          rw [if_neg hne]
          revert g1 g2
          cases dayOK (dayS (eatS 44 (offS off (nameS r).2.1).2.1).2).1 <;> cases dayOK (dayS (eatS 44 (dayS (eatS 44 (offS off (nameS r).2.1).2.1).2).2.1).2).1 <;> simp
          intro q1 q2 q3 q4 q5 q6
          simp_all
        · unfold restS
          dsimp only
          intro g1
          revert g1
          generalize (nameS r).2.2 = v1
          generalize (offS off (nameS r).2.1).2.2 = v2
          generalize (eatS 44 (offS off (nameS r).2.1).2.1).1 = v3
          generalize (eatS 44 (dayS (eatS 44 (offS off (nameS r).2.1).2.1).2).2.1).1 = v4
          generalize dayS (eatS 44 (offS off (nameS r).2.1).2.1).2 = v5
          generalize dayS (eatS 44 v5.2.1).2 = v6
          cases v1 <;> cases v2 <;> cases v3 <;> cases v4 <;> cases v5.2.2 <;> cases v6.2.2 <;> simp
theorem footerParses_law (n : Nat) (hn : 200 < n) (s : Str) : clepsydralaw07_FooterParses_f n s = some true := by
  unfold clepsydralaw07_FooterParses_f clepsydralaw07_FooterParses_b
  rw [works_val n hn, parse_val n s hn, rparse_val n s hn]
  by_cases h : (s.length : Int) > 200
  · rw [cond_pos h]; rfl
  · rw [cond_neg h]
    cases ruleS s with
    | none => simp [tupR, tupB, clepsydralaw07_plain_f, clepsydralaw07_plain_b]
    | some r => simp [tupR, tupB, clepsydralaw07_plain_f, clepsydralaw07_plain_b]
end Go.Proofs.YtpooncihlnllnaaGreatDoor.H

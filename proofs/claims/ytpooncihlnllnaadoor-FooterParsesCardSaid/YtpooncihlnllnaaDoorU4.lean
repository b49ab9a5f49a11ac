/- Chapter 07: what the reference's reader does. -/
import Derived.Test.YtpooncihlnllnaaDoorT0
import Derived.Test.YtpooncihlnllnaaDoorUR
namespace Go.Proofs.YtpooncihlnllnaaDoor.H
open Go.Sh Go.RowKit
set_option linter.unusedSimpArgs false
set_option linter.unusedVariables false

/-! ### where one is: at the rest r of s -/
def At (s r : Str) (i : Int) : Prop := r <:+ s ∧ i = ((s.length - r.length : Nat) : Int)
theorem At.nil {s : Str} {i : Int} (h : At s [] i) : i = (s.length : Int) := by simpa [At] using h.2
theorem At.le {s r : Str} {i : Int} (h : At s r i) : r.length ≤ s.length := h.1.length_le
theorem At.cons {s r : Str} {c : UInt8} {i : Int} (h : At s (c :: r) i) : ∃ k : Nat, i = (k : Int) ∧ k < s.length ∧ s[k]? = some c ∧ At s r ((k + 1 : Nat) : Int) := by
  obtain ⟨⟨p, hp⟩, hi⟩ := h
  subst hp
  refine ⟨p.length, ?_, ?_, ?_, ⟨⟨p ++ [c], by simp⟩, ?_⟩⟩
  · rw [hi]; simp
  · simp
  · simp
  · simp [List.length_append]; omega
theorem At.start (s : Str) : At s s 0 := ⟨List.suffix_refl s, by simp⟩
/-- A part between two places. -/
theorem At.part {s m r : Str} {i j : Int} (h : At s (m ++ r) i) (h2 : At s r j) : (s.take j.toNat).drop i.toNat = m := by
  obtain ⟨⟨p, hp⟩, hi⟩ := h
  subst hp
  have hj := h2.2
  subst hi hj
  simp only [Int.toNat_natCast]
  have e1 : (p ++ (m ++ r)).length - r.length = (p ++ m).length := by simp only [List.length_append]; omega
  have e2 : (p ++ (m ++ r)).length - (m ++ r).length = p.length := by simp only [List.length_append]; omega
  rw [e1, e2, ← List.append_assoc, List.take_left, List.drop_left]
theorem At.drop {s r : Str} {i : Int} (h : At s r i) (k : Nat) (hk : k ≤ r.length) : At s (r.drop k) (i + k) := by
  obtain ⟨h1, h2⟩ := h
  refine ⟨(List.drop_suffix k r).trans h1, ?_⟩
  have := h1.length_le
  rw [h2, List.length_drop]
  omega
theorem At.le2 {s r : Str} {i : Int} (h : At s r i) : 0 ≤ i ∧ i ≤ (s.length : Int) := by
  have := h.le
  rw [h.2]
  omega
theorem At.num {s r : Str} {i : Int} (h : At s r i) : i = (s.length : Int) - (r.length : Int) := by
  have := h.le
  rw [h.2]
  omega

/-! ### a byte -/
def headI : Str → Int
  | [] => 0
  | c :: _ => (c.toNat : Int)
theorem next_val (n : Nat) {s r : Str} {i : Int} (h : At s r i) (b : Bool) : clepsydraref07_reader_next_f n s i b = some (headI r, s, i, b) := by
  unfold clepsydraref07_reader_next_f clepsydraref07_reader_next_b
  cases r with
  | nil => rw [h.nil, cond_neg (by omega)]; rfl
  | cons c r =>
    obtain ⟨k, rfl, h1, h2, h3⟩ := h.cons
    rw [cond_pos (by omega), cond_pos (by omega), Int.toNat_natCast, h2]
    rfl
theorem reat_val (n : Nat) (a : Int) (c : UInt8) {s r : Str} {i : Int} (h : At s r i) (b : Bool) (hs : s.length < 9223372036854775808) (ha : a = (c.toNat : Int) := by rfl) :
    ∃ j, clepsydraref07_reader_eat_f n a s i b = some ((eatS c r).1, s, j, b) ∧ At s (eatS c r).2 j := by
  subst ha
  unfold clepsydraref07_reader_eat_f clepsydraref07_reader_eat_b clepsydraref07_reader_eat_j0 clepsydraref07_reader_eat_j0_b
  cases r with
  | nil =>
    have := h.nil
    rw [cond_pos (by omega)]
    exact ⟨i, rfl, h⟩
  | cons x r =>
    obtain ⟨k, rfl, h1, h2, h3⟩ := h.cons
    rw [cond_neg (by omega), cond_pos (by omega), Int.toNat_natCast, h2]
    simp only [Option.bind_some, bne_byte]
    by_cases hx : x = c
    · subst hx
      refine ⟨((k + 1 : Nat) : Int), ?_, by simpa [eatS] using h3⟩
      rw [wrap1 k (by omega)]
      simp [eatS]
    · refine ⟨k, ?_, by simpa [eatS, hx] using h⟩
      rw [show (x != c) = true by simpa using hx]
      simp [eatS, hx]
theorem rmust_val (n : Nat) (a : Int) (c : UInt8) {s r : Str} {i : Int} (h : At s r i) (b : Bool) (hs : s.length < 9223372036854775808) (ha : a = (c.toNat : Int) := by rfl) :
    ∃ j, clepsydraref07_reader_must_f n a s i b = some (s, j, b || !(eatS c r).1) ∧ At s (eatS c r).2 j := by
  obtain ⟨j, h1, h2⟩ := reat_val n a c h b hs ha
  refine ⟨j, ?_, h2⟩
  unfold clepsydraref07_reader_must_f clepsydraref07_reader_must_b
  rw [h1]
  cases he : (eatS c r).1 <;> cases b <;> simp [he]

theorem runS_full (p : UInt8 → Bool) (r : Str) : runS p r.length r = r.takeWhile p := by simp [runS]
theorem runS_split (p : UInt8 → Bool) (k : Nat) (r : Str) : runS p k r ++ r.drop (runS p k r).length = r := by
  conv => rhs; rw [← List.take_append_drop (runS p k r).length r]
  rw [runS_take]
theorem open_loop (n : Nat) (s : Str) (b : Bool) (hs : s.length < 9223372036854775808) : ∀ (m : Nat) (r : Str) (i : Int), r.length < m → At s r i →
    clepsydraref07_reader_name_l1 n m s i b = some (s, i + ((r.takeWhile openB).length : Int), b)
  | 0, r, i, hm, _ => by omega
  | m + 1, r, i, hm, h => by
    rw [clepsydraref07_reader_name_l1, clepsydraref07_reader_name_l1_b, clepsydraref07_reader_name_j1, clepsydraref07_reader_name_j1_b]
    cases r with
    | nil =>
      have := h.nil
      rw [cond_neg (by omega)]
      simp
    | cons c r =>
      obtain ⟨k, rfl, h1, h2, h3⟩ := h.cons
      simp only [List.length_cons] at hm
      rw [cond_pos (by omega), cond_pos (by omega), Int.toNat_natCast, h2]
      have e : ((c.toNat : Int) != 62) = openB c := bne_byte c 62
      simp only [Option.bind_some, e]
      cases hc : openB c with
      | false => rw [List.takeWhile_cons_of_neg (by simp [hc])]; simp
      | true =>
        rw [List.takeWhile_cons_of_pos (by simp [hc]), cond_true, wrap1 k (by omega), open_loop n s b hs m r _ (by omega) h3]
        refine congrArg some (Prod.ext rfl (Prod.ext ?_ rfl))
        simp only [List.length_cons]
        omega
theorem letter_loop (n : Nat) (s : Str) (b : Bool) (hs : s.length < 9223372036854775808) : ∀ (m : Nat) (r : Str) (i : Int), r.length < m → At s r i →
    clepsydraref07_reader_name_l0 n m s i b = some (s, i + ((r.takeWhile letterB).length : Int), b)
  | 0, r, i, hm, _ => by omega
  | m + 1, r, i, hm, h => by
    rw [clepsydraref07_reader_name_l0, clepsydraref07_reader_name_l0_b, next_val n h]
    cases r with
    | nil =>
      simp only [Option.bind_some, headI]
      rw [show clepsydraref07_letter_f n 0 = some false from rletter_val n 0]
      simp
    | cons c r =>
      obtain ⟨k, rfl, h1, h2, h3⟩ := h.cons
      simp only [List.length_cons] at hm
      simp only [Option.bind_some, headI, rletter_val]
      cases hc : letterB c with
      | false => rw [List.takeWhile_cons_of_neg (by simp [hc])]; simp
      | true =>
        rw [List.takeWhile_cons_of_pos (by simp [hc]), cond_true, wrap1 k (by omega), letter_loop n s b hs m r _ (by omega) h3]
        refine congrArg some (Prod.ext rfl (Prod.ext ?_ rfl))
        simp only [List.length_cons]
        omega
theorem rreader_name_val (n : Nat) {s r : Str} {i : Int} (h : At s r i) (b : Bool) (hs : s.length < 9223372036854775808) (hn : s.length < n) :
    ∃ j, clepsydraref07_reader_name_f n s i b = some ((nameS r).1, s, j, b || (nameS r).2.2) ∧ At s (nameS r).2.1 j := by
  obtain ⟨j, h1, h2⟩ := reat_val n 60 60 h b hs
  have hle := h.le
  have hl := eatS_len 60 r
  unfold clepsydraref07_reader_name_f clepsydraref07_reader_name_b nameS
  rw [h1]
  simp only [Option.bind_some]
  cases he : (eatS 60 r).1 with
  | true =>
    simp only [cond_true, if_true]
    have hr := runS_len openB (eatS 60 r).2.length (eatS 60 r).2
    rw [open_loop n s b hs n _ _ (by omega) h2]
    rw [← runS_full]
    generalize hw : runS openB (eatS 60 r).2.length (eatS 60 r).2 = w at *
    have h3 := h2.drop w.length (by omega)
    have b2 := h2.le2
    have b3 := h3.le2
    simp only [Option.bind_some]
    rw [cond_pos (by omega), cond_pos (by omega), cond_pos (by omega), cond_pos (by omega)]
    obtain ⟨q, h4, h5⟩ := rmust_val n 62 62 h3 b hs
    rw [h4]
    simp only [Option.bind_some]
    have hsp : w ++ (eatS 60 r).2.drop w.length = (eatS 60 r).2 := by rw [← hw]; exact runS_split _ _ _
    rw [At.part (by rw [hsp]; exact h2) h3]
    rw [clepsydraref07_reader_name_j0, clepsydraref07_reader_name_j0_b, rnameF_val n w (by omega) (by omega)]
    refine ⟨q, ?_, h5⟩
    cases b <;> cases (eatS 62 ((eatS 60 r).2.drop w.length)).1 <;> rfl
  | false =>
    have hz : (eatS 60 r).2 = r ∧ j = i := by
      have hr : (eatS 60 r).2 = r := by
        cases r with
        | nil => rfl
        | cons x r => by_cases hx : x = 60 <;> simp_all [eatS]
      rw [hr] at h2
      exact ⟨hr, by rw [h2.2, h.2]⟩
    obtain ⟨hz1, rfl⟩ := hz
    simp only [cond_false, Bool.false_eq_true, if_false, hz1]
    have hr := runS_len letterB r.length r
    rw [letter_loop n s b hs n _ _ (by omega) h]
    rw [← runS_full]
    generalize hw : runS letterB r.length r = w at *
    have h3 := h.drop w.length (by omega)
    have b2 := h.le2
    have b3 := h3.le2
    simp only [Option.bind_some]
    rw [cond_pos (by omega), cond_pos (by omega), cond_pos (by omega), cond_pos (by omega)]
    have hsp : w ++ r.drop w.length = r := by rw [← hw]; exact runS_split _ _ _
    rw [At.part (by rw [hsp]; exact h) h3, rnameF_val n w (by omega) (by omega)]
    refine ⟨_, ?_, h3⟩
    cases b <;> rfl
end Go.Proofs.YtpooncihlnllnaaDoor.H

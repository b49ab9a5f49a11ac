import Derived.Test.YtpooncihlnllnaaGreatDoorT0c
import Derived.Test.YtpooncihlnllnaaGreatDoorPA
/- Chapter 07: what a reader of the program does, piece by piece. -/
namespace Go.Proofs.YtpooncihlnllnaaGreatDoor.H
open Go.Sh Go.RowKit
set_option linter.unusedSimpArgs false
set_option linter.unusedVariables false

/-! ### bytes -/
def letterB (b : UInt8) : Bool := (65 ≤ b && b ≤ 90) || (97 ≤ b && b ≤ 122)
def digitB (b : UInt8) : Bool := 48 ≤ b && b ≤ 57
def nameB (b : UInt8) : Bool := letterB b || digitB b || b == 43 || b == 45
def openB (b : UInt8) : Bool := b != 62
theorem letter_val (n : Nat) (b : UInt8) : footer_letter_f n (b.toNat : Int) = some (letterB b) := by
  have h := byte_all (p := fun x => footer_letter_f 0 (x : Int) = some (letterB (UInt8.ofNat x))) (by decide +kernel) b
  rw [UInt8.ofNat_toNat] at h
  exact h
theorem digit_val (n : Nat) (b : UInt8) : footer_digit_f n (b.toNat : Int) = some (digitB b) := by
  have h := byte_all (p := fun x => footer_digit_f 0 (x : Int) = some (digitB (UInt8.ofNat x))) (by decide +kernel) b
  rw [UInt8.ofNat_toNat] at h
  exact h
theorem open_val (n : Nat) (b : UInt8) : footer_reader_name_1_f n (b.toNat : Int) = some (openB b) := by
  have h := byte_all (p := fun x => footer_reader_name_1_f 0 (x : Int) = some (openB (UInt8.ofNat x))) (by decide +kernel) b
  rw [UInt8.ofNat_toNat] at h
  exact h
theorem nameB_val (n : Nat) (b : UInt8) : footer_all_1_f n (b.toNat : Int) = some (!nameB b) := by
  have h := byte_all (p := fun x => footer_all_1_f 0 (x : Int) = some (!nameB (UInt8.ofNat x))) (by decide +kernel) b
  rw [UInt8.ofNat_toNat] at h
  exact h
theorem enc_val (b : UInt8) (hb : b.toNat < 128) : (Utf8.encode (IntKind.i32.wrap (b.toNat : Int))).data.toList = [b] := by
  have h := byte_all (p := fun x => x < 128 → (Utf8.encode (IntKind.i32.wrap (x : Int))).data.toList = [UInt8.ofNat x]) (by decide +kernel) b hb
  rw [UInt8.ofNat_toNat] at h
  exact h

/-! ### a byte -/
def eatS (c : UInt8) : Str → Bool × Str
  | [] => (false, [])
  | x :: r => if x = c then (true, r) else (false, x :: r)
theorem eatS_len (c : UInt8) (r : Str) : (eatS c r).2.length ≤ r.length := by
  cases r with
  | nil => simp [eatS]
  | cons x r => by_cases h : x = c <;> simp [eatS, h]
theorem eat_val (n : Nat) (a : Int) (c : UInt8) (r : Str) (b : Bool) (ha : a = (c.toNat : Int) := by rfl) (hc : c.toNat < 128 := by decide) : footer_reader_eat_f n a r b = some ((eatS c r).1, (eatS c r).2, b) := by
  subst ha
  unfold footer_reader_eat_f footer_reader_eat_b strings_CutPrefix_f
  rw [enc_val c hc]
  cases r with
  | nil => rfl
  | cons x r =>
    have hp : Lib.hasPrefix (x :: r) [c] = (c == x) := by simp [Lib.hasPrefix, List.isPrefixOf]
    by_cases h : x = c
    · subst h; simp [eatS, Lib.trimPrefix, hp]
    · simp [eatS, Lib.trimPrefix, hp, h, Ne.symm h]
theorem must_val (n : Nat) (a : Int) (c : UInt8) (r : Str) (b : Bool) (ha : a = (c.toNat : Int) := by rfl) (hc : c.toNat < 128 := by decide) : footer_reader_must_f n a r b = some ((eatS c r).2, b || !(eatS c r).1) := by
  unfold footer_reader_must_f footer_reader_must_b
  rw [eat_val n a c r b ha hc]
  cases h : (eatS c r).1 <;> cases b <;> simp [h]

/-! ### bytes of a kind -/
theorem run_loop (n : Nat) (x1 : Nat) (s : Str) (b : Bool) (hs : s.length < 9223372036854775808) : ∀ (m i : Nat), s.length - i < m → i ≤ s.length →
    footer_reader_run_l0 n m (x1 : Int) (i : Int) s b = some (((i + (((s.drop i).take (x1 - i)).takeWhile openB).length : Nat) : Int), s, b)
  | 0, i, hm, _ => by omega
  | m + 1, i, hm, hi => by
    rw [footer_reader_run_l0, footer_reader_run_l0_b, footer_reader_run_j0, footer_reader_run_j0_b]
    cases hd : s.drop i with
    | nil =>
      have := drop_nil hd
      rw [cond_neg (by omega)]
      simp
    | cons c r =>
      obtain ⟨h1, h2, h3⟩ := drop_cons hd
      rw [cond_pos (by omega)]
      by_cases hx : i < x1
      · rw [cond_pos (by omega), cond_pos (by omega), Int.toNat_natCast, h1]
        simp only [Option.bind_some, open_val]
        obtain ⟨k, hk⟩ : ∃ k, x1 - i = k + 1 := ⟨x1 - i - 1, by omega⟩
        rw [hk, List.take_succ_cons]
        cases hc : openB c with
        | false => rw [List.takeWhile_cons_of_neg (by simp [hc])]; simp
        | true =>
          rw [List.takeWhile_cons_of_pos (by simp [hc]), cond_true, wrap1 i (by omega), run_loop n x1 s b hs m (i + 1) (by omega) (by omega), h2, show x1 - (i + 1) = k by omega]
          refine congrArg some (Prod.ext (congrArg (fun z : Nat => (z : Int)) ?_) rfl)
          simp only [List.length_cons]
          omega
      · rw [cond_neg (by omega)]
        simp [show x1 - i = 0 by omega]
theorem run1_loop (n : Nat) (x1 : Nat) (s : Str) (b : Bool) (hs : s.length < 9223372036854775808) : ∀ (m i : Nat), s.length - i < m → i ≤ s.length →
    footer_reader_run_1_l0 n m (x1 : Int) (i : Int) s b = some (((i + (((s.drop i).take (x1 - i)).takeWhile letterB).length : Nat) : Int), s, b)
  | 0, i, hm, _ => by omega
  | m + 1, i, hm, hi => by
    rw [footer_reader_run_1_l0, footer_reader_run_1_l0_b, footer_reader_run_1_j0, footer_reader_run_1_j0_b]
    cases hd : s.drop i with
    | nil =>
      have := drop_nil hd
      rw [cond_neg (by omega)]
      simp
    | cons c r =>
      obtain ⟨h1, h2, h3⟩ := drop_cons hd
      rw [cond_pos (by omega)]
      by_cases hx : i < x1
      · rw [cond_pos (by omega), cond_pos (by omega), Int.toNat_natCast, h1]
        simp only [Option.bind_some, letter_val]
        obtain ⟨k, hk⟩ : ∃ k, x1 - i = k + 1 := ⟨x1 - i - 1, by omega⟩
        rw [hk, List.take_succ_cons]
        cases hc : letterB c with
        | false => rw [List.takeWhile_cons_of_neg (by simp [hc])]; simp
        | true =>
          rw [List.takeWhile_cons_of_pos (by simp [hc]), cond_true, wrap1 i (by omega), run1_loop n x1 s b hs m (i + 1) (by omega) (by omega), h2, show x1 - (i + 1) = k by omega]
          refine congrArg some (Prod.ext (congrArg (fun z : Nat => (z : Int)) ?_) rfl)
          simp only [List.length_cons]
          omega
      · rw [cond_neg (by omega)]
        simp [show x1 - i = 0 by omega]
theorem run2_loop (n : Nat) (x1 : Nat) (s : Str) (b : Bool) (hs : s.length < 9223372036854775808) : ∀ (m i : Nat), s.length - i < m → i ≤ s.length →
    footer_reader_run_2_l0 n m (x1 : Int) (i : Int) s b = some (((i + (((s.drop i).take (x1 - i)).takeWhile digitB).length : Nat) : Int), s, b)
  | 0, i, hm, _ => by omega
  | m + 1, i, hm, hi => by
    rw [footer_reader_run_2_l0, footer_reader_run_2_l0_b, footer_reader_run_2_j0, footer_reader_run_2_j0_b]
    cases hd : s.drop i with
    | nil =>
      have := drop_nil hd
      rw [cond_neg (by omega)]
      simp
    | cons c r =>
      obtain ⟨h1, h2, h3⟩ := drop_cons hd
      rw [cond_pos (by omega)]
      by_cases hx : i < x1
      · rw [cond_pos (by omega), cond_pos (by omega), Int.toNat_natCast, h1]
        simp only [Option.bind_some, digit_val]
        obtain ⟨k, hk⟩ : ∃ k, x1 - i = k + 1 := ⟨x1 - i - 1, by omega⟩
        rw [hk, List.take_succ_cons]
        cases hc : digitB c with
        | false => rw [List.takeWhile_cons_of_neg (by simp [hc])]; simp
        | true =>
          rw [List.takeWhile_cons_of_pos (by simp [hc]), cond_true, wrap1 i (by omega), run2_loop n x1 s b hs m (i + 1) (by omega) (by omega), h2, show x1 - (i + 1) = k by omega]
          refine congrArg some (Prod.ext (congrArg (fun z : Nat => (z : Int)) ?_) rfl)
          simp only [List.length_cons]
          omega
      · rw [cond_neg (by omega)]
        simp [show x1 - i = 0 by omega]
/-- The bytes ahead that are such ones, at most so many. -/
def runS (p : UInt8 → Bool) (k : Nat) (s : Str) : Str := (s.take k).takeWhile p
theorem runS_take (p : UInt8 → Bool) (k : Nat) (s : Str) : s.take (runS p k s).length = runS p k s := by
  have h : runS p k s <+: s := (List.takeWhile_prefix p).trans (List.take_prefix k s)
  exact (List.prefix_iff_eq_take.1 h).symm
theorem runS_len (p : UInt8 → Bool) (k : Nat) (s : Str) : (runS p k s).length ≤ s.length ∧ (runS p k s).length ≤ k := by
  have h := (List.takeWhile_prefix p (l := s.take k)).length_le
  rw [List.length_take] at h
  unfold runS
  omega
theorem runS_all (p : UInt8 → Bool) (k : Nat) (s : Str) : (runS p k s).all p = true := by
  exact List.all_takeWhile
theorem run_val (n k : Nat) (s : Str) (b : Bool) (hs : s.length < 9223372036854775808) (hn : s.length < n) : footer_reader_run_f n (k : Int) s b = some (runS openB k s, s.drop (runS openB k s).length, b) := by
  have hl := runS_len openB k s
  unfold footer_reader_run_f footer_reader_run_b
  have h := run_loop n k s b hs n 0 (by omega) (by omega)
  simp only [List.drop_zero, Nat.sub_zero, Nat.zero_add] at h
  rw [show (0 : Int) = ((0 : Nat) : Int) from rfl, h]
  simp only [Option.bind_some]
  change cond (decide ((0 : Int) ≤ ((runS openB k s).length : Int))) (cond (decide (((runS openB k s).length : Int) ≤ (s.length : Int))) _ _) _ = _
  rw [cond_pos (by omega), cond_pos (by omega)]
  change cond (decide ((0 : Int) ≤ ((runS openB k s).length : Int))) (cond (decide (((runS openB k s).length : Int) ≤ (s.length : Int))) (some ((s.take ((runS openB k s).length : Int).toNat).drop 0, s.drop ((runS openB k s).length : Int).toNat, b)) _) _ = _
  rw [cond_pos (by omega), cond_pos (by omega), Int.toNat_natCast, runS_take, List.drop_zero]
theorem run1_val (n k : Nat) (s : Str) (b : Bool) (hs : s.length < 9223372036854775808) (hn : s.length < n) : footer_reader_run_1_f n (k : Int) s b = some (runS letterB k s, s.drop (runS letterB k s).length, b) := by
  have hl := runS_len letterB k s
  unfold footer_reader_run_1_f footer_reader_run_1_b
  have h := run1_loop n k s b hs n 0 (by omega) (by omega)
  simp only [List.drop_zero, Nat.sub_zero, Nat.zero_add] at h
  rw [show (0 : Int) = ((0 : Nat) : Int) from rfl, h]
  simp only [Option.bind_some]
  change cond (decide ((0 : Int) ≤ ((runS letterB k s).length : Int))) (cond (decide (((runS letterB k s).length : Int) ≤ (s.length : Int))) _ _) _ = _
  rw [cond_pos (by omega), cond_pos (by omega)]
  change cond (decide ((0 : Int) ≤ ((runS letterB k s).length : Int))) (cond (decide (((runS letterB k s).length : Int) ≤ (s.length : Int))) (some ((s.take ((runS letterB k s).length : Int).toNat).drop 0, s.drop ((runS letterB k s).length : Int).toNat, b)) _) _ = _
  rw [cond_pos (by omega), cond_pos (by omega), Int.toNat_natCast, runS_take, List.drop_zero]
theorem run2_val (n k : Nat) (s : Str) (b : Bool) (hs : s.length < 9223372036854775808) (hn : s.length < n) : footer_reader_run_2_f n (k : Int) s b = some (runS digitB k s, s.drop (runS digitB k s).length, b) := by
  have hl := runS_len digitB k s
  unfold footer_reader_run_2_f footer_reader_run_2_b
  have h := run2_loop n k s b hs n 0 (by omega) (by omega)
  simp only [List.drop_zero, Nat.sub_zero, Nat.zero_add] at h
  rw [show (0 : Int) = ((0 : Nat) : Int) from rfl, h]
  simp only [Option.bind_some]
  change cond (decide ((0 : Int) ≤ ((runS digitB k s).length : Int))) (cond (decide (((runS digitB k s).length : Int) ≤ (s.length : Int))) _ _) _ = _
  rw [cond_pos (by omega), cond_pos (by omega)]
  change cond (decide ((0 : Int) ≤ ((runS digitB k s).length : Int))) (cond (decide (((runS digitB k s).length : Int) ≤ (s.length : Int))) (some ((s.take ((runS digitB k s).length : Int).toNat).drop 0, s.drop ((runS digitB k s).length : Int).toNat, b)) _) _ = _
  rw [cond_pos (by omega), cond_pos (by omega), Int.toNat_natCast, runS_take, List.drop_zero]

/-! ### names -/
theorem index_loop (n : Nat) (s : Str) (hs : s.length < 9223372036854775808) : ∀ (m i : Nat), s.length - i < m →
    ∃ o, slices_IndexFunc_byte_byte_l0 n m (intsOf s) (s.length : Int) (i : Int) = some o ∧ ((s.drop i).all nameB = true → o = Sum.inr ()) ∧ ((s.drop i).all nameB = false → ∃ j : Nat, o = Sum.inl (j : Int))
  | 0, i, hm => by omega
  | m + 1, i, hm => by
    rw [slices_IndexFunc_byte_byte_l0, slices_IndexFunc_byte_byte_l0_b]
    cases hd : s.drop i with
    | nil =>
      have := drop_nil hd
      rw [cond_neg (by omega)]
      exact ⟨_, rfl, by simp⟩
    | cons c r =>
      obtain ⟨h1, h2, h3⟩ := drop_cons hd
      have h4 : (intsOf s)[i]? = some (c.toNat : Int) := by simp [intsOf, h1]
      rw [cond_pos (by omega), cond_pos (by omega), Int.toNat_natCast, h4]
      simp only [Option.bind_some, nameB_val, List.all_cons]
      rcases Bool.eq_false_or_eq_true (nameB c) with hc | hc
      · rw [hc, Bool.not_true, cond_false, wrap1 i (by omega)]
        obtain ⟨o, h5, h6⟩ := index_loop n s hs m (i + 1) (by omega)
        rw [h2] at h6
        exact ⟨o, h5, by simpa using h6⟩
      · rw [hc]
        exact ⟨_, rfl, by simp, fun _ => ⟨i, rfl⟩⟩
def isName (s : Str) : Bool := decide (3 ≤ s.length) && decide (s.length ≤ 10) && s.all nameB
theorem all_val (n : Nat) (s : Str) (hs : s.length < 9223372036854775808) (hn : s.length < n) : footer_all_f n s = some (s.all nameB) := by
  unfold footer_all_f footer_all_b slices_ContainsFunc_byte_byte_f slices_ContainsFunc_byte_byte_b slices_IndexFunc_byte_byte_f slices_IndexFunc_byte_byte_b
  obtain ⟨o, h1, h2, h3⟩ := index_loop n s hs n 0 (by omega)
  rw [intsOf_length, show (0 : Int) = ((0 : Nat) : Int) from rfl, h1]
  rw [List.drop_zero] at h2 h3
  rcases Bool.eq_false_or_eq_true (s.all nameB) with h | h
  · rw [h2 h, h]; rfl
  · obtain ⟨j, rfl⟩ := h3 h
    rw [h]
    simp
theorem name_val (n : Nat) (s : Str) (hs : s.length < 9223372036854775808) (hn : s.length < n) : footer_name_f n s = some (isName s) := by
  unfold footer_name_f footer_name_b isName
  rw [all_val n s hs hn]
  by_cases h1 : 3 ≤ s.length
  · rw [cond_pos (by omega)]
    by_cases h2 : s.length ≤ 10
    · rw [cond_pos (by omega)]; simp [h1, h2]
    · rw [cond_neg (by omega)]; simp [h1, h2]
  · rw [cond_neg (by omega)]; simp [h1]

/-- A name read: it, what is left, and whether it is bad. -/
def nameS (r : Str) : Str × Str × Bool :=
  let e := eatS 60 r
  if e.1 = true then
    let w := runS openB e.2.length e.2
    let f := eatS 62 (e.2.drop w.length)
    (w, f.2, !f.1 || !isName w)
  else
    let w := runS letterB e.2.length e.2
    (w, e.2.drop w.length, !isName w)
theorem nameS_len (r : Str) : (nameS r).2.1.length ≤ r.length := by
  have h1 := eatS_len 60 r
  unfold nameS
  dsimp only
  split
  · have h2 := eatS_len 62 ((eatS 60 r).2.drop (runS openB (eatS 60 r).2.length (eatS 60 r).2).length)
    simp only [List.length_drop] at h2
    dsimp only
    omega
  · simp only [List.length_drop]; omega
theorem rname_val (n : Nat) (r : Str) (b : Bool) (hs : r.length < 9223372036854775808) (hn : r.length < n) : footer_reader_name_f n r b = some ((nameS r).1, (nameS r).2.1, b || (nameS r).2.2) := by
  have hl := eatS_len 60 r
  unfold footer_reader_name_f footer_reader_name_b footer_reader_name_j0 footer_reader_name_j0_b nameS
  rw [eat_val n 60 60 r b]
  simp only [Option.bind_some]
  cases he : (eatS 60 r).1 with
  | true =>
    have h2 := runS_len openB (eatS 60 r).2.length (eatS 60 r).2
    rw [cond_true, run_val n _ _ b (by omega) (by omega)]
    simp only [Option.bind_some]
    rw [must_val n 62 62]
    simp only [Option.bind_some, if_true, name_val n (runS openB (eatS 60 r).2.length (eatS 60 r).2) (by omega) (by omega)]
    cases b <;> cases (eatS 62 ((eatS 60 r).2.drop (runS openB (eatS 60 r).2.length (eatS 60 r).2).length)).1 <;> rfl
  | false =>
    have h2 := runS_len letterB (eatS 60 r).2.length (eatS 60 r).2
    rw [cond_false, run1_val n _ _ b (by omega) (by omega)]
    simp only [Option.bind_some, Bool.false_eq_true, if_false, name_val n (runS letterB (eatS 60 r).2.length (eatS 60 r).2) (by omega) (by omega)]
    cases b <;> rfl
end Go.Proofs.YtpooncihlnllnaaGreatDoor.H

/- Chapter 07: numbers and hours read by the program. -/
namespace Go.Proofs.YtpooncihlnllnaaGreatDoor.H
open Go.Sh Go.RowKit
set_option linter.unusedSimpArgs false
set_option linter.unusedVariables false

/-! ### numbers -/
def valS (d : Str) : Nat := d.foldl (fun a c => a * 10 + (c.toNat - 48)) 0
theorem valS_snoc (d : Str) (c : UInt8) : valS (d ++ [c]) = valS d * 10 + (c.toNat - 48) := by simp [valS, List.foldl_append]
theorem digitB_iff (c : UInt8) : digitB c = true ↔ 48 ≤ c.toNat ∧ c.toNat ≤ 57 := by
  unfold digitB
  simp only [Bool.and_eq_true, decide_eq_true_eq, UInt8.le_iff_toNat_le]
  exact Iff.rfl
theorem uint_val : ∀ (l : Str) (acc k : Nat), acc < 10 ^ k → k + l.length ≤ 18 → l.all digitB = true →
    Lib.parseUint10 acc l = .ok (l.foldl (fun a c => a * 10 + (c.toNat - 48)) acc) ∧ l.foldl (fun a c => a * 10 + (c.toNat - 48)) acc < 10 ^ (k + l.length)
  | [], acc, k, h, _, _ => ⟨rfl, h⟩
  | c :: r, acc, k, h, hk, hd => by
    simp only [List.all_cons, Bool.and_eq_true, digitB_iff] at hd
    simp only [List.length_cons] at hk
    have h17 : 10 ^ k ≤ 10 ^ 17 := Nat.pow_le_pow_right (by omega) (by omega)
    have hp : (10 : Nat) ^ (k + 1) = 10 ^ k * 10 := Nat.pow_succ ..
    have h1 : acc * 10 + (c.toNat - 48) < 10 ^ (k + 1) := by omega
    have h2 := uint_val r (acc * 10 + (c.toNat - 48)) (k + 1) h1 (by omega) hd.2
    rw [Lib.parseUint10, if_pos hd.1, if_neg (by omega), if_neg (by omega)]
    rw [show k + (c :: r).length = k + 1 + r.length by simp only [List.length_cons]; omega]
    exact h2
theorem valS_lt (d : Str) (hl : d.length ≤ 18) (hd : d.all digitB = true) : valS d < 10 ^ d.length := by
  have := (uint_val d 0 0 (by omega) (by omega) hd).2
  rwa [Nat.zero_add] at this
theorem atoi_val (n : Nat) (d : Str) (hl : d.length ≤ 3) (hd : d.all digitB = true) : strconv_Atoi_f n d = some (valS d : Int) := by
  unfold strconv_Atoi_f strconv_Atoi_v
  rw [cond_pos (by omega)]
  cases d with
  | nil => rfl
  | cons c r =>
    have h := (uint_val (c :: r) 0 0 (by omega) (by omega) hd).1
    have h2 := valS_lt (c :: r) (by omega) hd
    have h3 : (10 : Nat) ^ (c :: r).length ≤ 10 ^ 3 := Nat.pow_le_pow_right (by omega) hl
    have hc := hd
    simp only [List.all_cons, Bool.and_eq_true, digitB_iff] at hc
    unfold Lib.atoiAll
    simp only
    rw [if_neg (by omega), Lib.parseMag, if_neg (by simp), h]
    change some (match (if ¬ (c.toNat = 45) ∧ 9223372036854775808 ≤ valS (c :: r) then Lib.NumEnd.range else if c.toNat = 45 ∧ 9223372036854775808 < valS (c :: r) then .range else .ok (if c.toNat = 45 then -(valS (c :: r) : Int) else (valS (c :: r) : Int))) with | .ok v => v | .range => _ | _ => 0) = _
    rw [if_neg (by omega), if_neg (by omega), if_neg (by omega)]
/-- A number read: it, what is left, whether it is too short. -/
def numS (least most : Nat) (r : Str) : Nat × Str × Bool :=
  let d := runS digitB most r
  (valS d, r.drop d.length, decide (d.length < least))
theorem numS_len (a b : Nat) (r : Str) : (numS a b r).2.1.length ≤ r.length := by
  simp [numS, List.length_drop]
theorem numS_lt (a : Nat) (b : Nat) (r : Str) (hb : b ≤ 3) : (numS a b r).1 < 1000 := by
  have h1 := runS_len digitB b r
  have h2 := valS_lt (runS digitB b r) (by omega) (runS_all _ _ _)
  have h3 : (10 : Nat) ^ (runS digitB b r).length ≤ 10 ^ 3 := Nat.pow_le_pow_right (by omega) (by omega)
  exact Nat.lt_of_lt_of_le h2 h3
theorem number_val (n a b : Nat) (ha : a ≤ 3) (hb : b ≤ 3) (r : Str) (bad : Bool) (hs : r.length < 9223372036854775808) (hn : r.length < n) :
    footer_reader_number_f n (a : Int) (b : Int) r bad = some (((numS a b r).1 : Int), (numS a b r).2.1, bad || (numS a b r).2.2) := by
  have h1 := runS_len digitB b r
  unfold footer_reader_number_f footer_reader_number_b footer_reader_number_j0 footer_reader_number_j0_b numS
  rw [run2_val n b r bad hs hn]
  simp only [Option.bind_some]
  rw [atoi_val n _ (by omega) (runS_all _ _ _)]
  have hd : decide (((runS digitB b r).length : Int) < (a : Int)) = decide ((runS digitB b r).length < a) := by rw [decide_eq_decide]; omega
  rw [hd]
  cases bad <;> rfl

/-! ### hours -/
/-- Minutes and seconds read. -/
def minS (r : Str) : Int × Str × Bool :=
  let e := eatS 58 r
  if e.1 = true then
    let m := numS 2 2 e.2
    let f := eatS 58 m.2.1
    if f.1 = true then
      let s := numS 2 2 f.2
      (60 * (m.1 : Int) + s.1, s.2.1, m.2.2 || decide (60 ≤ m.1) || s.2.2 || decide (60 ≤ s.1))
    else (60 * (m.1 : Int), f.2, m.2.2 || decide (60 ≤ m.1))
  else (0, e.2, false)
theorem minS_len (r : Str) : (minS r).2.1.length ≤ r.length := by
  have h1 := eatS_len 58 r
  have h2 := numS_len 2 2 (eatS 58 r).2
  have h3 := eatS_len 58 (numS 2 2 (eatS 58 r).2).2.1
  have h4 := numS_len 2 2 (eatS 58 (numS 2 2 (eatS 58 r).2).2.1).2
  unfold minS
  dsimp only
  split
  · split <;> dsimp only <;> omega
  · exact h1
theorem minS_lt (r : Str) : 0 ≤ (minS r).1 ∧ (minS r).1 < 70000 := by
  have h2 := numS_lt 2 2 (eatS 58 r).2 (by omega)
  have h4 := numS_lt 2 2 (eatS 58 (numS 2 2 (eatS 58 r).2).2.1).2 (by omega)
  unfold minS
  dsimp only
  split
  · split <;> dsimp only <;> omega
  · simp
/-- A sign read. -/
def signS (r : Str) : Int × Str :=
  let e := eatS 45 r
  if e.1 = true then (-1, e.2) else (1, (eatS 43 e.2).2)
theorem signS_len (r : Str) : (signS r).2.length ≤ r.length := by
  have h1 := eatS_len 45 r
  have h2 := eatS_len 43 (eatS 45 r).2
  unfold signS
  dsimp only
  split <;> dsimp only <;> omega
theorem signS_or (r : Str) : (signS r).1 = -1 ∨ (signS r).1 = 1 := by
  unfold signS
  dsimp only
  split <;> simp
def hoursS (most : Nat) (r : Str) : Int × Str × Bool :=
  let g := signS r
  let h := numS 1 3 g.2
  let m := minS h.2.1
  (g.1 * (3600 * (h.1 : Int) + m.1), m.2.1, h.2.2 || decide (most < h.1) || m.2.2)
theorem hoursS_len (most : Nat) (r : Str) : (hoursS most r).2.1.length ≤ r.length := by
  have h1 := signS_len r
  have h2 := numS_len 1 3 (signS r).2
  have h3 := minS_len (numS 1 3 (signS r).2).2.1
  unfold hoursS
  dsimp only
  omega
theorem hoursS_lt (most : Nat) (r : Str) : -4000000 < (hoursS most r).1 ∧ (hoursS most r).1 < 4000000 := by
  have h1 := numS_lt 1 3 (signS r).2 (by omega)
  have h2 := minS_lt (numS 1 3 (signS r).2).2.1
  unfold hoursS
  dsimp only
  rcases signS_or r with h | h <;> rw [h] <;> omega
theorem sign_val (n : Nat) (r : Str) (b : Bool) : footer_reader_hours_j3 n 1 r b = some ((signS r).1, (signS r).2, b) := by
  unfold footer_reader_hours_j3 footer_reader_hours_j3_b signS
  rw [eat_val n 45 45]
  simp only [Option.bind_some]
  cases he : (eatS 45 r).1 with
  | true => rfl
  | false =>
    simp only [cond_false]
    rw [eat_val n 43 43]
    rfl
theorem wi (x : Int) (h : -9223372036854775808 ≤ x) (h2 : x ≤ 9223372036854775807) : IntKind.i64.wrap x = x := IntWalk.i64_in _ (by omega)
theorem bad_or (b c : Bool) (a : Nat) : cond (b || c) (some ((a : Nat), true)) (some (a, c)) = some (a, b || c) := by cases b <;> cases c <;> rfl
theorem min_val (n : Nat) (x : Int) (r : Str) (b : Bool) (hx : 0 ≤ x) (hx2 : x < 10000000) (hs : r.length < 9223372036854775808) (hn : r.length + 5 < n) :
    footer_reader_hours_l0 n n x 60 r b = some (x + (minS r).1, (minS r).2.1, b || (minS r).2.2) := by
  obtain ⟨k, rfl⟩ : ∃ k, n = k + 3 := ⟨n - 3, by omega⟩
  have h1 := eatS_len 58 r
  have h2 := numS_len 2 2 (eatS 58 r).2
  have h2' := numS_lt 2 2 (eatS 58 r).2 (by omega)
  have h3 := eatS_len 58 (numS 2 2 (eatS 58 r).2).2.1
  have h4 := numS_len 2 2 (eatS 58 (numS 2 2 (eatS 58 r).2).2.1).2
  have h4' := numS_lt 2 2 (eatS 58 (numS 2 2 (eatS 58 r).2).2.1).2 (by omega)
  have d60 : ∀ x : Nat, decide ((x : Int) ≥ (60 : Int)) = decide (60 ≤ x) := fun x => by rw [decide_eq_decide]; omega
  unfold minS
  rw [footer_reader_hours_l0, footer_reader_hours_l0_b, footer_reader_hours_j1, footer_reader_hours_j1_b]
  rw [cond_pos (by omega), eat_val (k + 3) 58 58]
  simp only [Option.bind_some]
  cases he : (eatS 58 r).1 with
  | false => simp
  | true =>
    simp only [cond_true, if_true]
    rw [show (2 : Int) = ((2 : Nat) : Int) from rfl, number_val (k + 3) 2 2 (by omega) (by omega) _ _ (by omega) (by omega)]
    simp only [Option.bind_some]
    rw [footer_reader_hours_j0, footer_reader_hours_j0_b]
    rw [show Int.tdiv 60 60 = 1 from rfl, wi 1 (by omega) (by omega), wi (60 * _) (by omega) (by omega), wi (x + _) (by omega) (by omega)]
    generalize hm : numS 2 2 (eatS 58 r).2 = m at *
    have hj : ∀ b' : Bool, (cond b' (some (m.2.1, true)) (some (m.2.1, decide ((m.1 : Int) ≥ (60 : Int))))) = some (m.2.1, b' || decide (60 ≤ m.1)) := fun b' => by rw [d60]; cases b' <;> rfl
    rw [hj]
    simp only [Option.bind_some]
    rw [footer_reader_hours_l0, footer_reader_hours_l0_b, footer_reader_hours_j1, footer_reader_hours_j1_b]
    rw [cond_pos (by omega), eat_val (k + 3) 58 58]
    simp only [Option.bind_some]
    cases hf : (eatS 58 m.2.1).1 with
    | false => simp [Bool.or_assoc]
    | true =>
      simp only [cond_true, if_true]
      rw [show (2 : Int) = ((2 : Nat) : Int) from rfl, number_val (k + 3) 2 2 (by omega) (by omega) _ _ (by omega) (by omega)]
      simp only [Option.bind_some]
      rw [footer_reader_hours_j0, footer_reader_hours_j0_b]
      rw [show Int.tdiv 1 60 = 0 from rfl, wi 0 (by omega) (by omega), wi (1 * _) (by omega) (by omega), wi (x + 60 * _ + _) (by omega) (by omega)]
      generalize hs : numS 2 2 (eatS 58 m.2.1).2 = s at *
      have hj : ∀ b' : Bool, (cond b' (some (s.2.1, true)) (some (s.2.1, decide ((s.1 : Int) ≥ (60 : Int))))) = some (s.2.1, b' || decide (60 ≤ s.1)) := fun b' => by rw [d60]; cases b' <;> rfl
      rw [hj]
      simp only [Option.bind_some]
      rw [footer_reader_hours_l0, footer_reader_hours_l0_b, footer_reader_hours_j1, footer_reader_hours_j1_b]
      rw [cond_neg (by omega)]
      simp only [Option.bind_some, cond_false, Bool.or_assoc, Int.one_mul, Int.add_assoc]
theorem hours_val (n most : Nat) (r : Str) (b : Bool) (hs : r.length < 9223372036854775808) (hn : r.length + 5 < n) :
    footer_reader_hours_f n (most : Int) r b = some ((hoursS most r).1, (hoursS most r).2.1, b || (hoursS most r).2.2) := by
  have h1 := signS_len r
  have h2 := numS_len 1 3 (signS r).2
  have h2' := numS_lt 1 3 (signS r).2 (by omega)
  have h3 := minS_lt (numS 1 3 (signS r).2).2.1
  unfold footer_reader_hours_f footer_reader_hours_b hoursS
  rw [sign_val]
  simp only [Option.bind_some]
  rw [show (footer_reader_number_f n (1 : Int) (3 : Int) (signS r).2 b) = _ from number_val n 1 3 (by omega) (by omega) _ _ (by omega) (by omega)]
  simp only [Option.bind_some]
  rw [footer_reader_hours_j2, footer_reader_hours_j2_b]
  generalize numS 1 3 (signS r).2 = h at *
  have hd : decide ((h.1 : Int) > (most : Int)) = decide (most < h.1) := by rw [decide_eq_decide]; omega
  have hj : ∀ b' : Bool, (cond b' (some (h.2.1, true)) (some (h.2.1, decide ((h.1 : Int) > (most : Int))))) = some (h.2.1, b' || decide (most < h.1)) := fun b' => by rw [hd]; cases b' <;> rfl
  rw [hj]
  simp only [Option.bind_some]
  rw [wi ((h.1 : Int) * 3600) (by omega) (by omega), min_val n _ _ _ (by omega) (by omega) (by omega) (by omega)]
  simp only [Option.bind_some]
  rw [Int.mul_comm (h.1 : Int) 3600]
  rcases signS_or r with hg | hg <;> rw [hg] <;> rw [wi _ (by omega) (by omega)] <;> simp only [Bool.or_assoc]
end Go.Proofs.YtpooncihlnllnaaGreatDoor.H

/- Chapter 07: days read; what is right; a rule parsed by the program. -/
namespace Go.Proofs.YtpooncihlnllnaaGreatDoor.H
open Go.Sh Go.RowKit
set_option linter.unusedSimpArgs false
set_option linter.unusedVariables false

/-- A day of each year. -/
structure DayV where
  k : Int
  m : Int
  w : Int
  d : Int
  t : Int
/-- A zone's rule. -/
structure RuleV where
  std : Str
  dst : Str
  off : Int
  doff : Int
  a : DayV
  b : DayV
def DayV.zero : DayV := ⟨0, 0, 0, 0, 0⟩
def RuleV.zero : RuleV := ⟨[], [], 0, 0, .zero, .zero⟩

/-! ### days -/
def dayTail (k m w : Int) (r : Str) (bad : Bool) : DayV × Str × Bool :=
  let d := numS 1 3 r
  let e := eatS 47 d.2.1
  if e.1 = true then
    let h := hoursS 167 e.2
    (⟨k, m, w, d.1, h.1⟩, h.2.1, bad || d.2.2 || h.2.2)
  else (⟨k, m, w, d.1, 7200⟩, e.2, bad || d.2.2)
/-- A day read. -/
def dayS (r : Str) : DayV × Str × Bool :=
  let e := eatS 74 r
  if e.1 = true then dayTail 1 0 0 e.2 false
  else
    let f := eatS 77 e.2
    if f.1 = true then
      let m := numS 1 3 f.2
      let p := eatS 46 m.2.1
      let w := numS 1 3 p.2
      let q := eatS 46 w.2.1
      dayTail 3 m.1 w.1 q.2 (m.2.2 || !p.1 || w.2.2 || !q.1)
    else dayTail 2 0 0 f.2 false
theorem dayTail_len (k m w : Int) (r : Str) (bad : Bool) : (dayTail k m w r bad).2.1.length ≤ r.length := by
  have h1 := numS_len 1 3 r
  have h2 := eatS_len 47 (numS 1 3 r).2.1
  have h3 := hoursS_len 167 (eatS 47 (numS 1 3 r).2.1).2
  unfold dayTail
  dsimp only
  split <;> dsimp only <;> omega
theorem dayS_len (r : Str) : (dayS r).2.1.length ≤ r.length := by
  have h1 := eatS_len 74 r
  have h2 := eatS_len 77 (eatS 74 r).2
  have h3 := numS_len 1 3 (eatS 77 (eatS 74 r).2).2
  have h4 := eatS_len 46 (numS 1 3 (eatS 77 (eatS 74 r).2).2).2.1
  have h5 := numS_len 1 3 (eatS 46 (numS 1 3 (eatS 77 (eatS 74 r).2).2).2.1).2
  have h6 := eatS_len 46 (numS 1 3 (eatS 46 (numS 1 3 (eatS 77 (eatS 74 r).2).2).2.1).2).2.1
  unfold dayS
  dsimp only
  split
  · exact Nat.le_trans (dayTail_len ..) h1
  · split
    · exact Nat.le_trans (dayTail_len ..) (by omega)
    · exact Nat.le_trans (dayTail_len ..) (by omega)
theorem day_val (n : Nat) (r : Str) (b : Bool) (hs : r.length < 9223372036854775808) (hn : r.length + 5 < n) :
    footer_reader_day_f n r b = some ((dayS r).1.k, (dayS r).1.m, (dayS r).1.w, (dayS r).1.d, (dayS r).1.t, (dayS r).2.1, b || (dayS r).2.2) := by
  have h1 := eatS_len 74 r
  have h2 := eatS_len 77 (eatS 74 r).2
  have h3 := numS_len 1 3 (eatS 77 (eatS 74 r).2).2
  have h4 := eatS_len 46 (numS 1 3 (eatS 77 (eatS 74 r).2).2).2.1
  have h5 := numS_len 1 3 (eatS 46 (numS 1 3 (eatS 77 (eatS 74 r).2).2).2.1).2
  have h6 := eatS_len 46 (numS 1 3 (eatS 46 (numS 1 3 (eatS 77 (eatS 74 r).2).2).2.1).2).2.1
  have num : ∀ (s : Str) (b : Bool), s.length ≤ r.length → footer_reader_number_f n (1 : Int) (3 : Int) s b = some (((numS 1 3 s).1 : Int), (numS 1 3 s).2.1, b || (numS 1 3 s).2.2) := fun s b h => number_val n 1 3 (by omega) (by omega) s b (by omega) (by omega)
  have tail : ∀ (k m w : Int) (s : Str) (b bad : Bool), s.length ≤ r.length →
      ((footer_reader_number_f n (1 : Int) (3 : Int) s (b || bad)).bind fun o59 => (footer_reader_eat_f n (47 : Int) o59.2.1 o59.2.2).bind fun o60 => cond o60.1 ((footer_reader_hours_f n (167 : Int) o60.2.1 o60.2.2).bind fun o61 => some (k, m, w, o59.1, o61.1, o61.2.1, o61.2.2)) (some (k, m, w, o59.1, 7200, o60.2.1, o60.2.2)))
      = some ((dayTail k m w s bad).1.k, (dayTail k m w s bad).1.m, (dayTail k m w s bad).1.w, (dayTail k m w s bad).1.d, (dayTail k m w s bad).1.t, (dayTail k m w s bad).2.1, b || (dayTail k m w s bad).2.2) := by
    intro k m w s b bad hsl
    have g1 := numS_len 1 3 s
    have g2 := eatS_len 47 (numS 1 3 s).2.1
    rw [num s _ hsl]
    simp only [Option.bind_some]
    rw [eat_val n 47 47]
    simp only [Option.bind_some]
    unfold dayTail
    cases he : (eatS 47 (numS 1 3 s).2.1).1 with
    | true =>
      simp only [cond_true, he, if_true]
      rw [show (footer_reader_hours_f n (167 : Int) (eatS 47 (numS 1 3 s).2.1).2 (b || bad || (numS 1 3 s).2.2)) = _ from hours_val n 167 _ _ (by omega) (by omega)]
      simp only [Option.bind_some, Bool.or_assoc]
    | false => simp only [cond_false, he, Bool.false_eq_true, if_false, Bool.or_assoc]
  unfold footer_reader_day_f footer_reader_day_b footer_reader_day_j0 footer_reader_day_j0_b dayS
  rw [eat_val n 74 74]
  simp only [Option.bind_some]
  cases he : (eatS 74 r).1 with
  | true =>
    simp only [cond_true, if_true, Option.bind_some]
    have := tail 1 0 0 (eatS 74 r).2 b false (by omega)
    rw [Bool.or_false] at this
    exact this
  | false =>
    simp only [cond_false, Bool.false_eq_true, if_false]
    rw [eat_val n 77 77]
    simp only [Option.bind_some]
    cases hf : (eatS 77 (eatS 74 r).2).1 with
    | false =>
      simp only [cond_false, Bool.false_eq_true, if_false, Option.bind_some]
      have := tail 2 0 0 (eatS 77 (eatS 74 r).2).2 b false (by omega)
      rw [Bool.or_false] at this
      exact this
    | true =>
      simp only [cond_true, if_true]
      rw [num _ _ (by omega)]
      simp only [Option.bind_some]
      rw [must_val n 46 46]
      simp only [Option.bind_some]
      rw [num _ _ (by omega)]
      simp only [Option.bind_some]
      rw [must_val n 46 46]
      simp only [Option.bind_some]
      have := tail 3 (numS 1 3 (eatS 77 (eatS 74 r).2).2).1 (numS 1 3 (eatS 46 (numS 1 3 (eatS 77 (eatS 74 r).2).2).2.1).2).1 (eatS 46 (numS 1 3 (eatS 46 (numS 1 3 (eatS 77 (eatS 74 r).2).2).2.1).2).2.1).2 b ((numS 1 3 (eatS 77 (eatS 74 r).2).2).2.2 || !(eatS 46 (numS 1 3 (eatS 77 (eatS 74 r).2).2).2.1).1 || (numS 1 3 (eatS 46 (numS 1 3 (eatS 77 (eatS 74 r).2).2).2.1).2).2.2 || !(eatS 46 (numS 1 3 (eatS 46 (numS 1 3 (eatS 77 (eatS 74 r).2).2).2.1).2).2.1).1) (by omega)
      simp only [← Bool.or_assoc] at this ⊢
      exact this

/-! ### what is right -/
def nearB (x far : Int) : Bool := decide (-far ≤ x) && decide (x ≤ far)
def dayOK (d : DayV) : Bool := nearB d.t 604799 &&
  if d.k = 1 then decide (d.m = 0) && decide (d.w = 0) && decide (1 ≤ d.d) && decide (d.d ≤ 365)
  else if d.k = 2 then decide (d.m = 0) && decide (d.w = 0) && decide (0 ≤ d.d) && decide (d.d ≤ 365)
  else if d.k = 3 then decide (1 ≤ d.m) && decide (d.m ≤ 12) && decide (1 ≤ d.w) && decide (d.w ≤ 5) && decide (0 ≤ d.d) && decide (d.d ≤ 6)
  else false
def zeroD (d : DayV) : Bool := d.k == 0 && d.m == 0 && d.w == 0 && d.d == 0 && d.t == 0
def rightS (r : RuleV) : Bool := isName r.std && nearB r.off 89999 &&
  if r.dst = [] then r.doff == 0 && zeroD r.a && zeroD r.b else isName r.dst && nearB r.doff 89999 && dayOK r.a && dayOK r.b
theorem within_val (n : Nat) (x : Int) (far : Nat) (hf : far < 1000000000) : footer_within_f n x (far : Int) = some (nearB x far) := by
  unfold footer_within_f footer_within_b nearB
  rw [wi (0 - (far : Int)) (by omega) (by omega)]
  by_cases h : -(far : Int) ≤ x
  · rw [cond_pos (by omega), decide_eq_true h]; rfl
  · rw [cond_neg (by omega), decide_eq_false h]; rfl
theorem beqI (x y : Int) : (x == y) = decide (x = y) := by by_cases h : x = y <;> simp [h]
theorem cond_and {p : Prop} [Decidable p] (q : Bool) : cond (decide p) (some q) (some false) = some (decide p && q) := by by_cases h : p <;> simp [h]
theorem cond_andB (p q : Bool) : cond p (some q) (some false) = some (p && q) := by cases p <;> rfl
theorem dayright_val (n : Nat) (k m w d t : Int) : footer_Day_right_f n k m w d t = some (dayOK ⟨k, m, w, d, t⟩) := by
  unfold footer_Day_right_f footer_Day_right_b dayOK
  rw [show footer_within_f n t (604799 : Int) = _ from within_val n t 604799 (by omega)]
  simp only [Option.bind_some]
  cases nearB t ((604799 : Nat) : Int) with
  | false => simp
  | true =>
    simp only [Bool.not_true, cond_false, Bool.true_and]
    rw [footer_Day_right_j1, footer_Day_right_j1_b]
    have hz : ∀ (x3 : Int), ((footer_Day_right_j0 n x3 k m w d t).bind fun o75 => some o75.1) = some (decide (m = 0) && decide (w = 0) && decide (x3 ≤ d) && decide (d ≤ 365)) := by
      intro x3
      rw [footer_Day_right_j0, footer_Day_right_j0_b]
      rw [beqI, beqI]
      by_cases h1 : m = 0 <;> by_cases h2 : w = 0 <;> by_cases h3 : x3 ≤ d <;> simp [h1, h2, h3]
    by_cases h1 : k = 1
    · subst h1
      simpa using hz 1
    · by_cases h2 : k = 2
      · subst h2
        simpa using hz 0
      · by_cases h3 : k = 3
        · subst h3
          simp only [beq_iff_eq, h1, h2, if_false, if_true, show ((3 : Int) == 1) = false from rfl, show ((3 : Int) == 2) = false from rfl, show ((3 : Int) == 3) = true from rfl, cond_false, cond_true, Option.bind_some, Sum.elim_inl, Sum.elim_inr, cond_and, ge_iff_le, Bool.and_assoc]
        · rw [beqI, beqI, beqI, decide_eq_false h1, decide_eq_false h2, decide_eq_false h3]
          simp [h1, h2, h3]
theorem right_val (n : Nat) (std dst : Str) (off doff k m w d t k' m' w' d' t' : Int) (hs : std.length < 9223372036854775808) (hn : std.length < n) (hs' : dst.length < 9223372036854775808) (hn' : dst.length < n) :
    footer_Right_f n std dst off doff k m w d t k' m' w' d' t' = some (rightS ⟨std, dst, off, doff, ⟨k, m, w, d, t⟩, ⟨k', m', w', d', t'⟩⟩) := by
  unfold footer_Right_f footer_Right_b footer_Right_j0 footer_Right_j0_b rightS
  rw [name_val n std hs hn]
  simp only [Option.bind_some]
  cases isName std with
  | false => simp
  | true =>
    simp only [Bool.not_true, cond_false, Bool.true_and]
    rw [show footer_within_f n off (89999 : Int) = _ from within_val n off 89999 (by omega)]
    simp only [Option.bind_some]
    change _ = some (nearB off ((89999 : Nat) : Int) && _)
    cases nearB off ((89999 : Nat) : Int) with
    | false => simp
    | true =>
      simp only [Bool.not_true, cond_false, Bool.true_and]
      by_cases hd : dst = []
      · subst hd
        simp [zeroD, Bool.and_assoc]
      · have : (dst == ([] : Str)) = false := by simpa using hd
        rw [this, cond_false, name_val n dst hs' hn', if_neg hd]
        simp only [Option.bind_some]
        rw [show footer_within_f n doff (89999 : Int) = _ from within_val n doff 89999 (by omega)]
        simp only [Option.bind_some, dayright_val, cond_andB, Bool.and_assoc]
        rfl

/-! ### a rule -/
/-- The other offset read. -/
def offS (off : Int) (r : Str) : Int × Str × Bool :=
  if r.head? = some 44 then (off + 3600, r, false)
  else let x := hoursS 24 r; (-x.1, x.2.1, x.2.2)
theorem offS_len (off : Int) (r : Str) : (offS off r).2.1.length ≤ r.length := by
  unfold offS
  split
  · exact Nat.le_refl _
  · exact hoursS_len 24 r
/-- What is read behind standard time. -/
def restS (std : Str) (off : Int) (r : Str) (bad : Bool) : RuleV × Str × Bool :=
  let d := nameS r
  let o := offS off d.2.1
  let p := eatS 44 o.2.1
  let a := dayS p.2
  let q := eatS 44 a.2.1
  let b := dayS q.2
  (⟨std, d.1, off, o.1, a.1, b.1⟩, b.2.1, bad || d.2.2 || o.2.2 || !p.1 || a.2.2 || !q.1 || b.2.2)
/-- What is read of a text. -/
def readS (s : Str) : RuleV × Str × Bool :=
  let a := nameS s
  let h := hoursS 24 a.2.1
  if h.2.1 = [] then (⟨a.1, [], -h.1, 0, .zero, .zero⟩, [], a.2.2 || h.2.2)
  else restS a.1 (-h.1) h.2.1 (a.2.2 || h.2.2)
/-- The rule of a text. -/
def ruleS (s : Str) : Option RuleV :=
  if 100 < s.length then none
  else let x := readS s; if x.2.2 = false ∧ x.2.1 = [] ∧ rightS x.1 = true then some x.1 else none
theorem restS_len (std : Str) (off : Int) (r : Str) (bad : Bool) : (restS std off r bad).2.1.length ≤ r.length ∧ (restS std off r bad).1.std = std ∧ (restS std off r bad).1.dst = (nameS r).1 := by
  refine ⟨?_, rfl, rfl⟩
  have h1 := nameS_len r
  have h2 := offS_len off (nameS r).2.1
  have h3 := eatS_len 44 (offS off (nameS r).2.1).2.1
  have h4 := dayS_len (eatS 44 (offS off (nameS r).2.1).2.1).2
  have h5 := eatS_len 44 (dayS (eatS 44 (offS off (nameS r).2.1).2.1).2).2.1
  have h6 := dayS_len (eatS 44 (dayS (eatS 44 (offS off (nameS r).2.1).2.1).2).2.1).2
  unfold restS
  dsimp only
  omega
theorem nameS_len1 (r : Str) : (nameS r).1.length ≤ r.length := by
  have h1 := eatS_len 60 r
  have h2 := runS_len openB (eatS 60 r).2.length (eatS 60 r).2
  have h3 := runS_len letterB (eatS 60 r).2.length (eatS 60 r).2
  unfold nameS
  dsimp only
  split <;> dsimp only <;> omega
theorem prefix_val (n : Nat) (r : Str) : strings_HasPrefix_f n r [44] = some (decide (r.head? = some 44)) := by
  unfold strings_HasPrefix_f
  cases r with
  | nil => rfl
  | cons c r =>
    have : Lib.hasPrefix (c :: r) [44] = (44 == c) := by simp [Lib.hasPrefix, List.isPrefixOf]
    rw [this, List.head?_cons]
    by_cases h : c = 44
    · subst h; rfl
    · have h' : ¬ (44 : UInt8) = c := fun e => h e.symm
      simp [h, h']
def tupR (r : RuleV) (e : Int) : Str × Str × Int × Int × Int × Int × Int × Int × Int × Int × Int × Int × Int × Int × Int := (r.std, r.dst, r.off, r.doff, r.a.k, r.a.m, r.a.w, r.a.d, r.a.t, r.b.k, r.b.m, r.b.w, r.b.d, r.b.t, e)
theorem parse_val (n : Nat) (s : Str) (hn : 200 < n) : footer_Parse_f n s = some (match ruleS s with | some r => tupR r 0 | none => tupR .zero 70) := by
  unfold footer_Parse_f footer_Parse_b ruleS
  by_cases h100 : 100 < s.length
  · rw [cond_pos (by omega), if_pos h100]; rfl
  · rw [cond_neg (by omega), if_neg h100]
    have h1 := nameS_len s
    have h1' := nameS_len1 s
    have h2 := hoursS_len 24 (nameS s).2.1
    have h2' := hoursS_lt 24 (nameS s).2.1
    rw [rname_val n s false (by omega) (by omega)]
    simp only [Option.bind_some, Bool.false_or]
    rw [show (footer_reader_hours_f n (24 : Int) (nameS s).2.1 (nameS s).2.2) = _ from hours_val n 24 _ _ (by omega) (by omega)]
    simp only [Option.bind_some]
    rw [wi (0 - (hoursS 24 (nameS s).2.1).1) (by omega) (by omega), Int.zero_sub]
    have fin : ∀ (r : RuleV) (t : Str) (bad : Bool), r.std.length ≤ 200 → r.dst.length ≤ 200 →
        cond bad (some (tupR .zero 70)) (cond (!(t == ([] : Str))) (some (tupR .zero 70)) ((footer_Right_f n r.std r.dst r.off r.doff r.a.k r.a.m r.a.w r.a.d r.a.t r.b.k r.b.m r.b.w r.b.d r.b.t).bind fun o80 => cond (!o80) (some (tupR .zero 70)) (some (tupR r 0))))
        = some (match (if bad = false ∧ t = [] ∧ rightS r = true then some r else none) with | some r => tupR r 0 | none => tupR .zero 70) := by
      intro r t bad g1 g2
      rw [right_val n _ _ _ _ _ _ _ _ _ _ _ _ _ _ (by omega) (by omega) (by omega) (by omega)]
      cases bad with
      | true => simp
      | false =>
        cases t with
        | cons c t => simp
        | nil => cases h : rightS r <;> simp [h]
    by_cases he : (hoursS 24 (nameS s).2.1).2.1 = []
    · have hr : readS s = (⟨(nameS s).1, [], -(hoursS 24 (nameS s).2.1).1, 0, .zero, .zero⟩, [], (nameS s).2.2 || (hoursS 24 (nameS s).2.1).2.2) := by unfold readS; dsimp only; rw [if_pos he]
      rw [footer_Parse_j1, footer_Parse_j1_b, he]
      simp only [beq_self_eq_true, Bool.not_true, cond_false, Option.bind_some]
      rw [hr]
      exact fin ⟨(nameS s).1, [], -(hoursS 24 (nameS s).2.1).1, 0, .zero, .zero⟩ [] _ (by show (nameS s).1.length ≤ 200; omega) (by simp)
    · have hr : readS s = restS (nameS s).1 (-(hoursS 24 (nameS s).2.1).1) (hoursS 24 (nameS s).2.1).2.1 ((nameS s).2.2 || (hoursS 24 (nameS s).2.1).2.2) := by unfold readS; dsimp only; rw [if_neg he]
      have hb : ((hoursS 24 (nameS s).2.1).2.1 == ([] : Str)) = false := by simpa using he
      rw [footer_Parse_j1, footer_Parse_j1_b, hb]
      rw [hr]
      have hoff : -5000000 < -(hoursS 24 (nameS s).2.1).1 ∧ -(hoursS 24 (nameS s).2.1).1 < 5000000 := by omega
      generalize ((nameS s).2.2 || (hoursS 24 (nameS s).2.1).2.2) = bad
      generalize -(hoursS 24 (nameS s).2.1).1 = off at *
      generalize (hoursS 24 (nameS s).2.1).2.1 = r at *
      have k1 := nameS_len r
      have k1' := nameS_len1 r
      have k2 := offS_len off (nameS r).2.1
      have k3 := eatS_len 44 (offS off (nameS r).2.1).2.1
      have k4 := dayS_len (eatS 44 (offS off (nameS r).2.1).2.1).2
      have k5 := eatS_len 44 (dayS (eatS 44 (offS off (nameS r).2.1).2.1).2).2.1
      simp only [Bool.not_false, cond_true]
      rw [rname_val n r bad (by omega) (by omega)]
      simp only [Option.bind_some]
      rw [footer_Parse_j0, footer_Parse_j0_b, prefix_val, Option.bind_some]
      have ho : ∀ (K : Int → Str → Bool → Option (Str × Str × Int × Int × Int × Int × Int × Int × Int × Int × Int × Int × Int × Int × Str × Bool × Str × Str × Int × Int × Int × Int × Int × Int × Int × Int × Int × Int × Int × Int)) (b' : Bool), -5000000 < off → off < 5000000 →
          cond (!decide ((nameS r).2.1.head? = some 44)) ((footer_reader_hours_f n (24 : Int) (nameS r).2.1 b').bind fun o49 => K (IntKind.i64.wrap (0 - o49.1)) o49.2.1 o49.2.2) (K (IntKind.i64.wrap (off + 3600)) (nameS r).2.1 b')
          = K (offS off (nameS r).2.1).1 (offS off (nameS r).2.1).2.1 (b' || (offS off (nameS r).2.1).2.2) := by
        intro K b' hlo hhi
        unfold offS
        have hl := hoursS_lt 24 (nameS r).2.1
        by_cases hc : (nameS r).2.1.head? = some 44
        · rw [decide_eq_true hc, if_pos hc, wi (off + 3600) (by omega) (by omega)]
          simp
        · rw [decide_eq_false hc, if_neg hc]
          rw [show (footer_reader_hours_f n (24 : Int) (nameS r).2.1 b') = _ from hours_val n 24 _ _ (by omega) (by omega)]
          simp only [Option.bind_some, Bool.not_false, cond_true]
          rw [wi _ (by omega) (by omega), Int.zero_sub]
      have ho' := ho (fun x t b => some (([] : Str), ([] : Str), 0, 0, 0, 0, 0, 0, 0, 0, 0, 0, 0, 0, t, b, (nameS s).1, (nameS r).1, off, x, 0, 0, 0, 0, 0, 0, 0, 0, 0, 0)) (bad || (nameS r).2.2) (by omega) (by omega)
      rw [ho']
      simp only [Option.bind_some]
      rw [must_val n 44 44]
      simp only [Option.bind_some]
      rw [day_val n _ _ (by omega) (by omega)]
      simp only [Option.bind_some]
      rw [must_val n 44 44]
      simp only [Option.bind_some]
      rw [day_val n _ _ (by omega) (by omega)]
      simp only [Option.bind_some]
      exact fin (restS (nameS s).1 off r bad).1 (restS (nameS s).1 off r bad).2.1 (restS (nameS s).1 off r bad).2.2 (by show (nameS s).1.length ≤ 200; omega) (by show (nameS r).1.length ≤ 200; omega)
theorem isName_nil : isName [] = false := rfl
theorem nameS_bad (r : Str) (h : (nameS r).2.2 = false) : isName (nameS r).1 = true := by
  unfold nameS at h ⊢
  dsimp only at h ⊢
  split at h
  · rename_i he; rw [if_pos he]; dsimp only at h ⊢; simp only [Bool.or_eq_false_iff, Bool.not_eq_eq_eq_not, Bool.not_false] at h; exact h.2
  · rename_i he; rw [if_neg he]; dsimp only at h ⊢; simpa using h
theorem works_val (n : Nat) (hn : 200 < n) : clepsydralaw07_works_f n = some true := by
  unfold clepsydralaw07_works_f clepsydralaw07_works_b
  rw [parse_val n _ hn, parse_val n _ hn, parse_val n _ hn, parse_val n _ hn]
  decide +kernel
end Go.Proofs.YtpooncihlnllnaaGreatDoor.H

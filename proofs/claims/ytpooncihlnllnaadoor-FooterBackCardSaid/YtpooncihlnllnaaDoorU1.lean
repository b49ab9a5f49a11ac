/- Chapter 07: what a reader of the program does, piece by piece. -/
import Derived.Test.YtpooncihlnllnaaDoorT012345
import Derived.Test.YtpooncihlnllnaaDoorPA
namespace Go.Proofs.YtpooncihlnllnaaDoor.H
open Go.Sh Go.RowKit
set_option linter.unusedSimpArgs false
set_option linter.unusedVariables false

/-! ### bytes -/
def letterB (b : UInt8) : Bool := (65 ≤ b && b ≤ 90) || (97 ≤ b && b ≤ 122)
def digitB (b : UInt8) : Bool := 48 ≤ b && b ≤ 57
def nameB (b : UInt8) : Bool := letterB b || digitB b || b == 43 || b == 45
def openB (b : UInt8) : Bool := b != 62
theorem letter_val (n : Nat) (b : UInt8) : footer_letter_f n (b.toNat : Int) = some (letterB b) := by
  have h := byte_all (p := fun x => footer_letter_f 0 (x : Int) = some (letterB (UInt8.ofNat x))) (by decide +kernel) b
  rw [UInt8.ofNat_toNat] at h
  exact h
theorem digit_val (n : Nat) (b : UInt8) : footer_digit_f n (b.toNat : Int) = some (digitB b) := by
  have h := byte_all (p := fun x => footer_digit_f 0 (x : Int) = some (digitB (UInt8.ofNat x))) (by decide +kernel) b
  rw [UInt8.ofNat_toNat] at h
  exact h
theorem open_val (n : Nat) (b : UInt8) : footer_reader_name_1_f n (b.toNat : Int) = some (openB b) := by
  have h := byte_all (p := fun x => footer_reader_name_1_f 0 (x : Int) = some (openB (UInt8.ofNat x))) (by decide +kernel) b
  rw [UInt8.ofNat_toNat] at h
  exact h
theorem nameB_val (n : Nat) (b : UInt8) : footer_all_1_f n (b.toNat : Int) = some (!nameB b) := by
  have h := byte_all (p := fun x => footer_all_1_f 0 (x : Int) = some (!nameB (UInt8.ofNat x))) (by decide +kernel) b
  rw [UInt8.ofNat_toNat] at h
  exact h
theorem enc_val (b : UInt8) (hb : b.toNat < 128) : (Utf8.encode (IntKind.i32.wrap (b.toNat : Int))).data.toList = [b] := by
  have h := byte_all (p := fun x => x < 128 → (Utf8.encode (IntKind.i32.wrap (x : Int))).data.toList = [UInt8.ofNat x]) (by decide +kernel) b hb
  rw [UInt8.ofNat_toNat] at h
  exact h

/-! ### a byte -/
def eatS (c : UInt8) : Str → Bool × Str
  | [] => (false, [])
  | x :: r => if x = c then (true, r) else (false, x :: r)
theorem eatS_len (c : UInt8) (r : Str) : (eatS c r).2.length ≤ r.length := by
  cases r with
  | nil => simp [eatS]
  | cons x r => by_cases h : x = c <;> simp [eatS, h]
theorem eat_val (n : Nat) (a : Int) (c : UInt8) (r : Str) (b : Bool) (ha : a = (c.toNat : Int) := by rfl) (hc : c.toNat < 128 := by decide) : footer_reader_eat_f n a r b = some ((eatS c r).1, (eatS c r).2, b) := by
  subst ha
  unfold footer_reader_eat_f footer_reader_eat_b strings_CutPrefix_f
  rw [enc_val c hc]
  cases r with
  | nil => rfl
  | cons x r =>
    have hp : Lib.hasPrefix (x :: r) [c] = (c == x) := by simp [Lib.hasPrefix, List.isPrefixOf]
    by_cases h : x = c
    · subst h; simp [eatS, Lib.trimPrefix, hp]
    · simp [eatS, Lib.trimPrefix, hp, h, Ne.symm h]
theorem must_val (n : Nat) (a : Int) (c : UInt8) (r : Str) (b : Bool) (ha : a = (c.toNat : Int) := by rfl) (hc : c.toNat < 128 := by decide) : footer_reader_must_f n a r b = some ((eatS c r).2, b || !(eatS c r).1) := by
  unfold footer_reader_must_f footer_reader_must_b
  rw [eat_val n a c r b ha hc]
  cases h : (eatS c r).1 <;> cases b <;> simp [h]

/-! ### bytes of a kind -/
theorem run_loop (n : Nat) (x1 : Nat) (s : Str) (b : Bool) (hs : s.length < 9223372036854775808) : ∀ (m i : Nat), s.length - i < m → i ≤ s.length →
    footer_reader_run_l0 n m (x1 : Int) (i : Int) s b = some (((i + (((s.drop i).take (x1 - i)).takeWhile openB).length : Nat) : Int), s, b)
  | 0, i, hm, _ => by omega
  | m + 1, i, hm, hi => by
    rw [footer_reader_run_l0, footer_reader_run_l0_b, footer_reader_run_j0, footer_reader_run_j0_b]
    cases hd : s.drop i with
    | nil =>
      have := drop_nil hd
      rw [cond_neg (by omega)]
      simp
    | cons c r =>
      obtain ⟨h1, h2, h3⟩ := drop_cons hd
      rw [cond_pos (by omega)]
      by_cases hx : i < x1
      · rw [cond_pos (by omega), cond_pos (by omega), Int.toNat_natCast, h1]
        simp only [Option.bind_some, open_val]
        obtain ⟨k, hk⟩ : ∃ k, x1 - i = k + 1 := ⟨x1 - i - 1, by omega⟩
        rw [hk, List.take_succ_cons]
        cases hc : openB c with
        | false => rw [List.takeWhile_cons_of_neg (by simp [hc])]; simp
        | true =>
          rw [List.takeWhile_cons_of_pos (by simp [hc]), cond_true, wrap1 i (by omega), run_loop n x1 s b hs m (i + 1) (by omega) (by omega), h2, show x1 - (i + 1) = k by omega]
          refine congrArg some (Prod.ext (congrArg (fun z : Nat => (z : Int)) ?_) rfl)
          simp only [List.length_cons]
          omega
      · rw [cond_neg (by omega)]
        simp [show x1 - i = 0 by omega]
theorem run1_loop (n : Nat) (x1 : Nat) (s : Str) (b : Bool) (hs : s.length < 9223372036854775808) : ∀ (m i : Nat), s.length - i < m → i ≤ s.length →
    footer_reader_run_1_l0 n m (x1 : Int) (i : Int) s b = some (((i + (((s.drop i).take (x1 - i)).takeWhile letterB).length : Nat) : Int), s, b)
  | 0, i, hm, _ => by omega
  | m + 1, i, hm, hi => by
    rw [footer_reader_run_1_l0, footer_reader_run_1_l0_b, footer_reader_run_1_j0, footer_reader_run_1_j0_b]
    cases hd : s.drop i with
    | nil =>
      have := drop_nil hd
      rw [cond_neg (by omega)]
      simp
    | cons c r =>
      obtain ⟨h1, h2, h3⟩ := drop_cons hd
      rw [cond_pos (by omega)]
      by_cases hx : i < x1
      · rw [cond_pos (by omega), cond_pos (by omega), Int.toNat_natCast, h1]
        simp only [Option.bind_some, letter_val]
        obtain ⟨k, hk⟩ : ∃ k, x1 - i = k + 1 := ⟨x1 - i - 1, by omega⟩
        rw [hk, List.take_succ_cons]
        cases hc : letterB c with
        | false => rw [List.takeWhile_cons_of_neg (by simp [hc])]; simp
        | true =>
          rw [List.takeWhile_cons_of_pos (by simp [hc]), cond_true, wrap1 i (by omega), run1_loop n x1 s b hs m (i + 1) (by omega) (by omega), h2, show x1 - (i + 1) = k by omega]
          refine congrArg some (Prod.ext (congrArg (fun z : Nat => (z : Int)) ?_) rfl)
          simp only [List.length_cons]
          omega
      · rw [cond_neg (by omega)]
        simp [show x1 - i = 0 by omega]
theorem run2_loop (n : Nat) (x1 : Nat) (s : Str) (b : Bool) (hs : s.length < 9223372036854775808) : ∀ (m i : Nat), s.length - i < m → i ≤ s.length →
    footer_reader_run_2_l0 n m (x1 : Int) (i : Int) s b = some (((i + (((s.drop i).take (x1 - i)).takeWhile digitB).length : Nat) : Int), s, b)
  | 0, i, hm, _ => by omega
  | m + 1, i, hm, hi => by
    rw [footer_reader_run_2_l0, footer_reader_run_2_l0_b, footer_reader_run_2_j0, footer_reader_run_2_j0_b]
    cases hd : s.drop i with
    | nil =>
      have := drop_nil hd
      rw [cond_neg (by omega)]
      simp
    | cons c r =>
      obtain ⟨h1, h2, h3⟩ := drop_cons hd
      rw [cond_pos (by omega)]
      by_cases hx : i < x1
      · rw [cond_pos (by omega), cond_pos (by omega), Int.toNat_natCast, h1]
        simp only [Option.bind_some, digit_val]
        obtain ⟨k, hk⟩ : ∃ k, x1 - i = k + 1 := ⟨x1 - i - 1, by omega⟩
        rw [hk, List.take_succ_cons]
        cases hc : digitB c with
        | false => rw [List.takeWhile_cons_of_neg (by simp [hc])]; simp
        | true =>
          rw [List.takeWhile_cons_of_pos (by simp [hc]), cond_true, wrap1 i (by omega), run2_loop n x1 s b hs m (i + 1) (by omega) (by omega), h2, show x1 - (i + 1) = k by omega]
          refine congrArg some (Prod.ext (congrArg (fun z : Nat => (z : Int)) ?_) rfl)
          simp only [List.length_cons]
          omega
      · rw [cond_neg (by omega)]
        simp [show x1 - i = 0 by omega]
/-- The bytes ahead that are such ones, at most so many. -/
def runS (p : UInt8 → Bool) (k : Nat) (s : Str) : Str := (s.take k).takeWhile p
theorem runS_take (p : UInt8 → Bool) (k : Nat) (s : Str) : s.take (runS p k s).length = runS p k s := by
  have h : runS p k s <+: s := (List.takeWhile_prefix p).trans (List.take_prefix k s)
  exact (List.prefix_iff_eq_take.1 h).symm
theorem runS_len (p : UInt8 → Bool) (k : Nat) (s : Str) : (runS p k s).length ≤ s.length ∧ (runS p k s).length ≤ k := by
  have h := (List.takeWhile_prefix p (l := s.take k)).length_le
  rw [List.length_take] at h
  unfold runS
  omega
theorem runS_all (p : UInt8 → Bool) (k : Nat) (s : Str) : (runS p k s).all p = true := by
  exact List.all_takeWhile
theorem run_val (n k : Nat) (s : Str) (b : Bool) (hs : s.length < 9223372036854775808) (hn : s.length < n) : footer_reader_run_f n (k : Int) s b = some (runS openB k s, s.drop (runS openB k s).length, b) := by
  have hl := runS_len openB k s
  unfold footer_reader_run_f footer_reader_run_b
  have h := run_loop n k s b hs n 0 (by omega) (by omega)
  simp only [List.drop_zero, Nat.sub_zero, Nat.zero_add] at h
  rw [show (0 : Int) = ((0 : Nat) : Int) from rfl, h]
  simp only [Option.bind_some]
  change cond (decide ((0 : Int) ≤ ((runS openB k s).length : Int))) (cond (decide (((runS openB k s).length : Int) ≤ (s.length : Int))) _ _) _ = _
  rw [cond_pos (by omega), cond_pos (by omega)]
  change cond (decide ((0 : Int) ≤ ((runS openB k s).length : Int))) (cond (decide (((runS openB k s).length : Int) ≤ (s.length : Int))) (some ((s.take ((runS openB k s).length : Int).toNat).drop 0, s.drop ((runS openB k s).length : Int).toNat, b)) _) _ = _
  rw [cond_pos (by omega), cond_pos (by omega), Int.toNat_natCast, runS_take, List.drop_zero]
theorem run1_val (n k : Nat) (s : Str) (b : Bool) (hs : s.length < 9223372036854775808) (hn : s.length < n) : footer_reader_run_1_f n (k : Int) s b = some (runS letterB k s, s.drop (runS letterB k s).length, b) := by
  have hl := runS_len letterB k s
  unfold footer_reader_run_1_f footer_reader_run_1_b
  have h := run1_loop n k s b hs n 0 (by omega) (by omega)
  simp only [List.drop_zero, Nat.sub_zero, Nat.zero_add] at h
  rw [show (0 : Int) = ((0 : Nat) : Int) from rfl, h]
  simp only [Option.bind_some]
  change cond (decide ((0 : Int) ≤ ((runS letterB k s).length : Int))) (cond (decide (((runS letterB k s).length : Int) ≤ (s.length : Int))) _ _) _ = _
  rw [cond_pos (by omega), cond_pos (by omega)]
  change cond (decide ((0 : Int) ≤ ((runS letterB k s).length : Int))) (cond (decide (((runS letterB k s).length : Int) ≤ (s.length : Int))) (some ((s.take ((runS letterB k s).length : Int).toNat).drop 0, s.drop ((runS letterB k s).length : Int).toNat, b)) _) _ = _
  rw [cond_pos (by omega), cond_pos (by omega), Int.toNat_natCast, runS_take, List.drop_zero]
theorem run2_val (n k : Nat) (s : Str) (b : Bool) (hs : s.length < 9223372036854775808) (hn : s.length < n) : footer_reader_run_2_f n (k : Int) s b = some (runS digitB k s, s.drop (runS digitB k s).length, b) := by
  have hl := runS_len digitB k s
  unfold footer_reader_run_2_f footer_reader_run_2_b
  have h := run2_loop n k s b hs n 0 (by omega) (by omega)
  simp only [List.drop_zero, Nat.sub_zero, Nat.zero_add] at h
  rw [show (0 : Int) = ((0 : Nat) : Int) from rfl, h]
  simp only [Option.bind_some]
  change cond (decide ((0 : Int) ≤ ((runS digitB k s).length : Int))) (cond (decide (((runS digitB k s).length : Int) ≤ (s.length : Int))) _ _) _ = _
  rw [cond_pos (by omega), cond_pos (by omega)]
  change cond (decide ((0 : Int) ≤ ((runS digitB k s).length : Int))) (cond (decide (((runS digitB k s).length : Int) ≤ (s.length : Int))) (some ((s.take ((runS digitB k s).length : Int).toNat).drop 0, s.drop ((runS digitB k s).length : Int).toNat, b)) _) _ = _
  rw [cond_pos (by omega), cond_pos (by omega), Int.toNat_natCast, runS_take, List.drop_zero]

/-! ### names -/
theorem index_loop (n : Nat) (s : Str) (hs : s.length < 9223372036854775808) : ∀ (m i : Nat), s.length - i < m →
    ∃ o, slices_IndexFunc_byte_byte_l0 n m (intsOf s) (s.length : Int) (i : Int) = some o ∧ ((s.drop i).all nameB = true → o = Sum.inr ()) ∧ ((s.drop i).all nameB = false → ∃ j : Nat, o = Sum.inl (j : Int))
  | 0, i, hm => by omega
  | m + 1, i, hm => by
    rw [slices_IndexFunc_byte_byte_l0, slices_IndexFunc_byte_byte_l0_b]
    cases hd : s.drop i with
    | nil =>
      have := drop_nil hd
      rw [cond_neg (by omega)]
      exact ⟨_, rfl, by simp⟩
    | cons c r =>
      obtain ⟨h1, h2, h3⟩ := drop_cons hd
      have h4 : (intsOf s)[i]? = some (c.toNat : Int) := by simp [intsOf, h1]
      rw [cond_pos (by omega), cond_pos (by omega), Int.toNat_natCast, h4]
      simp only [Option.bind_some, nameB_val, List.all_cons]
      rcases Bool.eq_false_or_eq_true (nameB c) with hc | hc
      · rw [hc, Bool.not_true, cond_false, wrap1 i (by omega)]
        obtain ⟨o, h5, h6⟩ := index_loop n s hs m (i + 1) (by omega)
        rw [h2] at h6
        exact ⟨o, h5, by simpa using h6⟩
      · rw [hc]
        exact ⟨_, rfl, by simp, fun _ => ⟨i, rfl⟩⟩
def isName (s : Str) : Bool := decide (3 ≤ s.length) && decide (s.length ≤ 10) && s.all nameB
theorem all_val (n : Nat) (s : Str) (hs : s.length < 9223372036854775808) (hn : s.length < n) : footer_all_f n s = some (s.all nameB) := by
  unfold footer_all_f footer_all_b slices_ContainsFunc_byte_byte_f slices_ContainsFunc_byte_byte_b slices_IndexFunc_byte_byte_f slices_IndexFunc_byte_byte_b
  obtain ⟨o, h1, h2, h3⟩ := index_loop n s hs n 0 (by omega)
  rw [intsOf_length, show (0 : Int) = ((0 : Nat) : Int) from rfl, h1]
  rw [List.drop_zero] at h2 h3
  rcases Bool.eq_false_or_eq_true (s.all nameB) with h | h
  · rw [h2 h, h]; rfl
  · obtain ⟨j, rfl⟩ := h3 h
    rw [h]
    simp
theorem name_val (n : Nat) (s : Str) (hs : s.length < 9223372036854775808) (hn : s.length < n) : footer_name_f n s = some (isName s) := by
  unfold footer_name_f footer_name_b isName
  rw [all_val n s hs hn]
  by_cases h1 : 3 ≤ s.length
  · rw [cond_pos (by omega)]
    by_cases h2 : s.length ≤ 10
    · rw [cond_pos (by omega)]; simp [h1, h2]
    · rw [cond_neg (by omega)]; simp [h1, h2]
  · rw [cond_neg (by omega)]; simp [h1]

/-- A name read: it, what is left, and whether it is bad. -/
def nameS (r : Str) : Str × Str × Bool :=
  let e := eatS 60 r
  if e.1 = true then
    let w := runS openB e.2.length e.2
    let f := eatS 62 (e.2.drop w.length)
    (w, f.2, !f.1 || !isName w)
  else
    let w := runS letterB e.2.length e.2
    (w, e.2.drop w.length, !isName w)
theorem nameS_len (r : Str) : (nameS r).2.1.length ≤ r.length := by
  have h1 := eatS_len 60 r
  unfold nameS
  dsimp only
  split
  · have h2 := eatS_len 62 ((eatS 60 r).2.drop (runS openB (eatS 60 r).2.length (eatS 60 r).2).length)
    simp only [List.length_drop] at h2
    dsimp only
    omega
  · simp only [List.length_drop]; omega
theorem rname_val (n : Nat) (r : Str) (b : Bool) (hs : r.length < 9223372036854775808) (hn : r.length < n) : footer_reader_name_f n r b = some ((nameS r).1, (nameS r).2.1, b || (nameS r).2.2) := by
  have hl := eatS_len 60 r
  unfold footer_reader_name_f footer_reader_name_b footer_reader_name_j0 footer_reader_name_j0_b nameS
  rw [eat_val n 60 60 r b]
  simp only [Option.bind_some]
  cases he : (eatS 60 r).1 with
  | true =>
    have h2 := runS_len openB (eatS 60 r).2.length (eatS 60 r).2
    rw [cond_true, run_val n _ _ b (by omega) (by omega)]
    simp only [Option.bind_some]
    rw [must_val n 62 62]
    simp only [Option.bind_some, if_true, name_val n (runS openB (eatS 60 r).2.length (eatS 60 r).2) (by omega) (by omega)]
    cases b <;> cases (eatS 62 ((eatS 60 r).2.drop (runS openB (eatS 60 r).2.length (eatS 60 r).2).length)).1 <;> rfl
  | false =>
    have h2 := runS_len letterB (eatS 60 r).2.length (eatS 60 r).2
    rw [cond_false, run1_val n _ _ b (by omega) (by omega)]
    simp only [Option.bind_some, Bool.false_eq_true, if_false, name_val n (runS letterB (eatS 60 r).2.length (eatS 60 r).2) (by omega) (by omega)]
    cases b <;> rfl
end Go.Proofs.YtpooncihlnllnaaDoor.H

/- Chapter 11: a line, piece by piece: its ends, a comment, a section's head, a key. -/
import Derived.Test.YtikiibnmhmioiaaDoorT01234
import Derived.Test.YtikiibnmhmioiaaDoorPA
namespace Go.Proofs.YtikiibnmhmioiaaDoor.H
open Go.Sh Go.RowKit
set_option linter.unusedSimpArgs false
set_option linter.unusedVariables false

/-! ### what is cut off at an end -/
def blkB (b : UInt8) : Bool := b == 32 || b == 9
def trimS (s : Str) : Str := ((s.dropWhile blkB).reverse.dropWhile blkB).reverse
theorem dw_len {p : UInt8 → Bool} (s : Str) : (s.dropWhile p).length ≤ s.length := (List.dropWhile_sublist p).length_le
theorem dw_dw {p : UInt8 → Bool} (s : Str) : (s.dropWhile p).dropWhile p = s.dropWhile p := by
  induction s with
  | nil => rfl
  | cons c t ih =>
    cases hc : p c with
    | true => rw [List.dropWhile_cons_of_pos hc, ih]
    | false => rw [List.dropWhile_cons_of_neg (by simp [hc]), List.dropWhile_cons_of_neg (by simp [hc])]
theorem rs_cons (c : UInt8) (t : Str) : ((c :: t).reverse.dropWhile blkB).reverse = if (t.reverse.dropWhile blkB).reverse = [] then (if blkB c then [] else [c]) else c :: (t.reverse.dropWhile blkB).reverse := by
  rw [List.reverse_cons, List.dropWhile_append]
  by_cases h : t.reverse.dropWhile blkB = []
  · rw [h]
    simp only [List.isEmpty_nil, if_true, List.reverse_nil]
    cases hc : blkB c <;> simp [hc]
  · have : (t.reverse.dropWhile blkB).isEmpty = false := by simpa using h
    rw [this, if_neg (by simp), if_neg (by simpa using h), List.reverse_append]
    rfl
theorem lr_strip : ∀ (s : Str), ((s.reverse.dropWhile blkB).reverse).dropWhile blkB = ((s.dropWhile blkB).reverse.dropWhile blkB).reverse
  | [] => rfl
  | c :: t => by
    have ih := lr_strip t
    rw [rs_cons]
    by_cases hc : blkB c = true
    · rw [List.dropWhile_cons_of_pos hc, ← ih]
      by_cases h : (t.reverse.dropWhile blkB).reverse = []
      · rw [if_pos h, if_pos hc, h]
      · rw [if_neg h, List.dropWhile_cons_of_pos hc]
    · rw [List.dropWhile_cons_of_neg hc, rs_cons]
      have hc' : blkB c = false := by simpa using hc
      by_cases h : (t.reverse.dropWhile blkB).reverse = []
      · rw [if_pos h, if_neg hc, List.dropWhile_cons_of_neg hc]
      · rw [if_neg h, List.dropWhile_cons_of_neg hc]
theorem lib_trim (s : Str) : Lib.trimS s [32, 9] = trimS s := by
  have e : (fun b => ([32, 9] : Str).contains b) = blkB := by
    funext b
    simp only [List.contains_cons, List.contains_nil, Bool.or_false, blkB]
  unfold Lib.trimS Lib.trimLeftS Lib.trimRightS trimS
  rw [e, lr_strip]
theorem trimS_len (s : Str) : (trimS s).length ≤ s.length := by
  have h1 := dw_len (p := blkB) s
  have h2 := dw_len (p := blkB) (s.dropWhile blkB).reverse
  simp only [List.length_reverse] at h2
  simp only [trimS, List.length_reverse]
  omega
theorem trim_val (n : Nat) (s : Str) (hs : s.length < 9223372036854775808) : lines_trim_f n s = some (trimS s) := by
  unfold lines_trim_f lines_trim_b strings_Trim_f
  have hb : (decide (s.length ≤ 9223372036854775807) && decide (([32, 9] : Str).length < 4294967281) && ([32, 9] : Str).all fun b => decide (b.toNat < 128)) = true := by
    rw [decide_eq_true (by omega)]; rfl
  rw [hb, cond_true]
  simp only [Option.bind_some, lib_trim]

/-! ### a comment -/
def cmtS (s : Str) : Bool := match trimS s with | [] => false | b :: _ => b == 35 || b == 59
def skipS (s : Str) : Bool := trimS s == [] || cmtS s
theorem comment_val (n : Nat) (s : Str) (hs : s.length < 9223372036854775808) : lines_comment_f n s = some (cmtS s) := by
  unfold lines_comment_f lines_comment_b cmtS
  rw [trim_val n s hs]
  cases h : trimS s with
  | nil => rfl
  | cons b r =>
    have e : decide (Lib.indexByte ([35, 59] : Str) b ≥ 0) = (b == 35 || b == 59) := by
      have h := byte_all (p := fun x => decide (Lib.indexByte ([35, 59] : Str) (UInt8.ofNat x) ≥ 0) = (UInt8.ofNat x == 35 || UInt8.ofNat x == 59)) (by decide +kernel) b
      rw [UInt8.ofNat_toNat] at h
      exact h
    have e2 : ((b.toNat : Int)).toNat.toUInt8 = b := by rw [Int.toNat_natCast]; exact UInt8.ofNat_toNat
    simp only [Option.bind_some, List.getElem?_cons_zero, strings_IndexByte_f, e2, e]
    rfl

/-! ### an end cut off -/
def endS (c : UInt8) (s : Str) : Bool := s.getLast? == some c
def cutE (c : UInt8) (s : Str) : Str := if endS c s then s.dropLast else s
theorem sub1 (a : Nat) (h1 : 1 ≤ a) (h : a < 9223372036854775808) : IntKind.i64.wrap ((a : Int) - (1 : Int)) = ((a - 1 : Nat) : Int) := by rw [IntWalk.i64_in _ (by omega)]; omega
theorem getLast_get (s : Str) : s.getLast? = s[s.length - 1]? := List.getLast?_eq_getElem?
theorem drop_last1 (c : UInt8) (s : Str) (hs : 1 ≤ s.length) : (s.drop (s.length - 1) == [c]) = endS c s := by
  unfold endS
  rw [getLast_get, List.drop_eq_getElem_cons (by omega), List.getElem?_eq_getElem (by omega), show s.length - 1 + 1 = s.length by omega, List.drop_length]
  cases h : (s[s.length - 1] == c) <;> simp_all
theorem hasSuffix_val (n : Nat) (s : Str) (c : UInt8) (hs : s.length < 9223372036854775808) : stringslite_HasSuffix_f n s [c] = some (endS c s) := by
  unfold stringslite_HasSuffix_f stringslite_HasSuffix_b
  rw [show (([c] : Str).length : Int) = (1 : Int) from rfl]
  by_cases h : 1 ≤ s.length
  · rw [cond_pos (by omega), sub1 _ h hs, cond_pos (by omega), cond_pos (by omega), Int.toNat_natCast, drop_last1 c s h]
  · rw [cond_neg (by omega)]
    obtain rfl : s = [] := by cases s with | nil => rfl | cons a t => simp at h
    rfl
theorem endS_pos {c : UInt8} {s : Str} (h : endS c s = true) : 1 ≤ s.length := by cases s with | nil => cases h | cons a t => simp
theorem cutE_take (c : UInt8) (s : Str) (h : endS c s = true) : (s.take (s.length - 1)).drop 0 = cutE c s := by
  rw [cutE, if_pos h, List.drop_zero, List.dropLast_eq_take]
theorem trimSuffix_val (n : Nat) (s : Str) (c : UInt8) (hs : s.length < 9223372036854775808) : strings_TrimSuffix_f n s [c] = some (cutE c s) := by
  unfold strings_TrimSuffix_f strings_TrimSuffix_b stringslite_TrimSuffix_f stringslite_TrimSuffix_b
  rw [hasSuffix_val n s c hs]
  rw [show (([c] : Str).length : Int) = (1 : Int) from rfl, Option.bind_some]
  cases h : endS c s with
  | false => simp [cutE, h]
  | true =>
    have := endS_pos h
    rw [cond_true, sub1 _ this hs, cond_pos (by omega), cond_pos (by omega), Int.toNat_natCast, cutE_take c s h]
    rfl
theorem cutSuffix_val (n : Nat) (s : Str) (c : UInt8) (hs : s.length < 9223372036854775808) : strings_CutSuffix_f n s [c] = some (cutE c s, endS c s) := by
  unfold strings_CutSuffix_f strings_CutSuffix_b stringslite_CutSuffix_f stringslite_CutSuffix_b
  rw [hasSuffix_val n s c hs]
  rw [show (([c] : Str).length : Int) = (1 : Int) from rfl, Option.bind_some]
  cases h : endS c s with
  | false => simp [cutE, h]
  | true =>
    have := endS_pos h
    rw [Bool.not_true, cond_false, sub1 _ this hs, cond_pos (by omega), cond_pos (by omega), Int.toNat_natCast, cutE_take c s h]
    rfl
theorem cutE_len (c : UInt8) (s : Str) : (cutE c s).length ≤ s.length := by
  unfold cutE
  split <;> simp

/-! ### a section's head -/
def brkB (b : UInt8) : Bool := b == 91 || b == 93
def innS (s : Str) : Str := cutE 93 (s.drop 1)
def headS (s : Str) : Bool := s.head? == some 91 && (endS 93 (s.drop 1) && (innS s != [] && !(innS s).any brkB))
theorem any_val (s : Str) : Lib.containsAny s [91, 93] = s.any brkB := by
  unfold Lib.containsAny
  induction s with
  | nil => rfl
  | cons b l ih =>
    rw [Lib.indexAny, List.any_cons, ← ih]
    have e : ([91, 93] : Str).contains b = brkB b := by simp only [List.contains_cons, List.contains_nil, Bool.or_false, brkB]
    rw [e]
    have := Lib.indexAny_ge [91, 93] l
    cases hb : brkB b with
    | true => rfl
    | false =>
      simp only [Bool.false_or]
      by_cases h : Lib.indexAny l [91, 93] = -1
      · rw [h]; rfl
      · have : (Lib.indexAny l [91, 93] == -1) = false := by simpa using h
        rw [this, if_neg (by simp), if_neg (by simp), decide_eq_decide]
        omega
theorem section_val (n : Nat) (s : Str) (hs : s.length < 4294967281) : ∃ x, lines_section_f n s = some (x, headS s) ∧ (headS s = true → x = innS s) := by
  unfold lines_section_f lines_section_b strings_CutPrefix_f
  have hp : Lib.hasPrefix s [91] = (s.head? == some 91) := by
    unfold Lib.hasPrefix
    cases s with
    | nil => rfl
    | cons b r => 
      simp only [List.isPrefixOf, Bool.and_true, List.head?_cons]
      rw [show (some b == some (91 : UInt8)) = (b == 91) by rfl, Bool.eq_iff_iff]
      simp only [beq_iff_eq]
      exact ⟨Eq.symm, Eq.symm⟩
  simp only [Option.bind_some, Lib.trimPrefix, hp, List.length_singleton]
  cases h : (s.head? == some 91) with
  | false =>
    rw [if_neg (by simp), cutSuffix_val n s 93 (by omega)]
    simp only [Option.bind_some, cond_false]
    exact ⟨_, by rw [headS, h]; rfl, fun hh => by rw [headS, h] at hh; cases hh⟩
  | true =>
    rw [if_pos rfl, cutSuffix_val n _ 93 (by rw [List.length_drop]; omega)]
    have hl := cutE_len 93 (s.drop 1)
    rw [List.length_drop] at hl
    simp only [Option.bind_some, cond_true]
    rw [headS, h]
    simp only [Bool.true_and]
    refine ⟨innS s, ?_, fun _ => rfl⟩
    cases h2 : endS 93 (s.drop 1) with
    | false => rfl
    | true =>
      simp only [cond_true, Bool.true_and]
      by_cases h3 : innS s = []
      · have h3' := h3
        unfold innS at h3
        rw [h3, h3']; rfl
      · have h4 : (innS s != []) = true := by simpa using h3
        have h5 : (!(cutE 93 (s.drop 1) == [])) = true := h4
        rw [h5, h4, cond_true, Bool.true_and]
        unfold strings_ContainsAny_f
        have hb : (decide ((cutE 93 (s.drop 1)).length < 4294967281) && decide (([91, 93] : Str).length = 2) && ([91, 93] : Str).all fun b => decide (b.toNat < 128)) = true := by
          rw [decide_eq_true (by omega)]; rfl
        rw [hb, cond_true]
        simp only [Option.bind_some, any_val]
        rfl

/-! ### a key -/
def letB (b : UInt8) : Bool := (65 ≤ b && b ≤ 90) || (97 ≤ b && b ≤ 122)
def digB (b : UInt8) : Bool := 48 ≤ b && b ≤ 57
def keyS (s : Str) : Bool := match s with | [] => false | c :: r => letB c && r.all fun b => letB b || digB b
theorem j1_val (n : Nat) (b : UInt8) : lines_isKey_j1 n (b.toNat : Int) = some (letB b) := by
  have h := byte_all (p := fun x => lines_isKey_j1 0 (x : Int) = some (letB (UInt8.ofNat x))) (by decide +kernel) b
  rw [UInt8.ofNat_toNat] at h
  exact h
theorem j0_val (n : Nat) (i : Int) (b : UInt8) : lines_isKey_j0 n i (b.toNat : Int) (letB b) = some (!(letB b || (i != 0 && digB b))) := by
  unfold lines_isKey_j0 lines_isKey_j0_b
  cases letB b with
  | true => rfl
  | false =>
    simp only [Bool.not_false, cond_true, Bool.false_or]
    by_cases h : i = 0
    · subst h; rfl
    · rw [show (i == 0) = false by simpa using h, show (i != 0) = true by simpa using h, cond_false, Bool.true_and]
      have h := byte_all (p := fun x => cond (decide ((x : Int) < 48)) (some true) (some (decide ((x : Int) > 57))) = some (!digB (UInt8.ofNat x))) (by decide +kernel) b
      rw [UInt8.ofNat_toNat] at h
      exact h
theorem key_loop (n : Nat) (s : Str) (hs : s.length < 9223372036854775807) : ∀ (m i : Nat), s.length - i < m → 1 ≤ i →
    lines_isKey_l0 n m s (s.length : Int) (i : Int) = some (cond ((s.drop i).all fun b => letB b || digB b) (.inr ()) (.inl ()))
  | 0, i, hm, _ => by omega
  | m + 1, i, hm, hi => by
    rw [lines_isKey_l0, lines_isKey_l0_b]
    cases hd : s.drop i with
    | nil =>
      have := drop_nil hd
      rw [cond_neg (by omega)]
      rfl
    | cons c r =>
      obtain ⟨h1, h2, h3⟩ := drop_cons hd
      rw [cond_pos (by omega), cond_pos (by omega), Int.toNat_natCast, h1]
      simp only [Option.bind_some, j1_val, j0_val, List.all_cons]
      rw [show ((i : Int) != 0) = true by simp; omega, Bool.true_and]
      by_cases hc : (letB c || digB c) = true
      · rw [hc, Bool.not_true, cond_false, wrap1 i (by omega), key_loop n s hs m (i + 1) (by omega) (by omega), h2, Bool.true_and]
      · rw [Bool.not_eq_true] at hc
        rw [hc]; rfl
theorem key_val (n : Nat) (s : Str) (hs : s.length < 9223372036854775807) (hn : s.length + 1 < n) : lines_isKey_f n s = some (keyS s) := by
  unfold lines_isKey_f lines_isKey_b
  obtain ⟨n, rfl⟩ : ∃ k, n = k + 1 := ⟨n - 1, by omega⟩
  rw [lines_isKey_l0, lines_isKey_l0_b]
  cases s with
  | nil => rfl
  | cons c r =>
    simp only [List.length_cons] at hs hn
    rw [cond_pos (by simp only [List.length_cons]; omega), cond_pos (by omega)]
    simp only [show (0 : Int).toNat = 0 by rfl, List.getElem?_cons_zero, Option.bind_some, j1_val, j0_val, bne_self_eq_false, Bool.false_and, Bool.or_false, keyS]
    cases hc : letB c with
    | false => rfl
    | true =>
      have h := key_loop (n + 1) (c :: r) (by simp only [List.length_cons]; omega) n 1 (by simp only [List.length_cons]; omega) (by omega)
      rw [Bool.not_true, cond_false, show IntKind.i64.wrap ((0 : Int) + 1) = ((1 : Nat) : Int) by rfl, h]
      simp only [List.drop_succ_cons, List.drop_zero, Option.bind_some, Bool.true_and]
      cases r.all fun b => letB b || digB b <;> rfl

/-! ### a line cut at the first '=' -/
def neB (b : UInt8) : Bool := b != 61
theorem index_one (c : UInt8) : ∀ s : Str, Lib.index s [c] = if s.contains c then ((s.takeWhile (· != c)).length : Int) else -1
  | [] => rfl
  | b :: l => by
    rw [Lib.index]
    by_cases h : b = c
    · subst h
      simp [List.isPrefixOf]
    · have h1 : ([c] : Str).isPrefixOf (b :: l) = false := by simp [List.isPrefixOf, Ne.symm h]
      have h2 : (b :: l).contains c = l.contains c := by rw [List.contains_cons, show (c == b) = false by simpa using Ne.symm h, Bool.false_or]
      rw [h1, index_one c l, h2, List.takeWhile_cons_of_pos (by simpa using h)]
      cases l.contains c with
      | false => rfl
      | true =>
        simp only [if_true, List.length_cons, Bool.false_eq_true, if_false]
        rw [if_neg (by simp)]
        omega
theorem take_tw {p : UInt8 → Bool} (s : Str) : s.take (s.takeWhile p).length = s.takeWhile p := by
  conv => lhs; rw [← List.takeWhile_append_dropWhile (p := p) (l := s), List.take_append_of_le_length (by simp [List.takeWhile_append_dropWhile])]
  rw [List.takeWhile_append_dropWhile, List.take_of_length_le (Nat.le_refl _)]
theorem drop_tw {p : UInt8 → Bool} : ∀ (s : Str), s.drop (s.takeWhile p).length = s.dropWhile p
  | [] => rfl
  | b :: l => by
    cases h : p b with
    | true => rw [List.takeWhile_cons_of_pos h, List.dropWhile_cons_of_pos h, List.length_cons, List.drop_succ_cons, drop_tw l]
    | false => rw [List.takeWhile_cons_of_neg (by simp [h]), List.dropWhile_cons_of_neg (by simp [h])]; rfl
theorem tw_ne (c : UInt8) : ∀ s : Str, s.contains c = false → s.takeWhile (· != c) = s ∧ s.dropWhile (· != c) = []
  | [], _ => ⟨rfl, rfl⟩
  | b :: l, h => by
    rw [List.contains_cons, Bool.or_eq_false_iff] at h
    have hb : (b != c) = true := by have := h.1; rw [beq_eq_false_iff_ne] at this; simpa using Ne.symm this
    obtain ⟨h1, h2⟩ := tw_ne c l h.2
    exact ⟨by rw [List.takeWhile_cons_of_pos (p := (· != c)) hb, h1], by rw [List.dropWhile_cons_of_pos (p := (· != c)) hb, h2]⟩
theorem cut_val (s : Str) : Lib.cut s [61] = (s.takeWhile (· != 61), (s.dropWhile (· != 61)).drop 1, s.contains 61) := by
  unfold Lib.cut
  rw [index_one]
  cases h : s.contains 61 with
  | false =>
    obtain ⟨h1, h2⟩ := tw_ne 61 s h
    rw [if_neg (by simp), h1, h2]
    rfl
  | true =>
    rw [if_pos rfl, if_pos (by omega), Int.toNat_natCast, take_tw, List.length_singleton, ← List.drop_drop, drop_tw]
end Go.Proofs.YtikiibnmhmioiaaDoor.H

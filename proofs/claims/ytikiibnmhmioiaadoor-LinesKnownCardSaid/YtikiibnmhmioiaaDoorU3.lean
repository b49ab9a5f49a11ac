/- Chapter 11: what the reference's pieces answer. -/
import Derived.Test.YtikiibnmhmioiaaDoorU2
import Derived.Test.YtikiibnmhmioiaaDoorT04
namespace Go.Proofs.YtikiibnmhmioiaaDoor.H
open Go.Sh Go.RowKit
set_option linter.unusedSimpArgs false
set_option linter.unusedVariables false

/-! ### trim -/
theorem rblank_val (n : Nat) (b : UInt8) : clepsydraref11_blank_f n (b.toNat : Int) = some (blkB b) := by
  have h := byte_all (p := fun x => clepsydraref11_blank_f 0 (x : Int) = some (blkB (UInt8.ofNat x))) (by decide +kernel) b
  rw [UInt8.ofNat_toNat] at h
  exact h
theorem rtrim_l1 (n : Nat) (s : Str) (hs : s.length < 9223372036854775807) : ∀ (m i : Nat), s.length - i < m → i ≤ s.length →
    ∃ j : Nat, clepsydraref11_trim_l1 n m s (i : Int) (s.length : Int) = some (j : Int) ∧ s.drop j = (s.drop i).dropWhile blkB ∧ i ≤ j ∧ j ≤ s.length
  | 0, i, hm, _ => by omega
  | m + 1, i, hm, hi => by
    rw [clepsydraref11_trim_l1, clepsydraref11_trim_l1_b]
    unfold clepsydraref11_trim_j1 clepsydraref11_trim_j1_b
    cases hd : s.drop i with
    | nil =>
      have := drop_nil hd
      rw [cond_neg (by omega)]
      exact ⟨i, rfl, by rw [hd]; rfl, Nat.le_refl _, hi⟩
    | cons c r =>
      obtain ⟨e1, e2, e3⟩ := drop_cons hd
      rw [cond_pos (by omega), cond_pos (by omega), Int.toNat_natCast, e1]
      simp only [Option.bind_some, rblank_val]
      cases hc : blkB c with
      | false =>
        rw [cond_false, List.dropWhile_cons_of_neg (by simp [hc])]
        exact ⟨i, rfl, hd, Nat.le_refl _, hi⟩
      | true =>
        obtain ⟨j, k1, k2, k3, k4⟩ := rtrim_l1 n s hs m (i + 1) (by omega) (by omega)
        rw [cond_true, wrap1 i (by omega), k1, List.dropWhile_cons_of_pos hc]
        exact ⟨j, rfl, by rw [k2, e2], by omega, k4⟩
theorem take_snoc (s : Str) (b : Nat) (h1 : 1 ≤ b) (h2 : b ≤ s.length) : ∃ c, s[b - 1]? = some c ∧ s.take b = s.take (b - 1) ++ [c] := by
  refine ⟨s[b - 1], List.getElem?_eq_getElem (by omega), ?_⟩
  have : b = (b - 1) + 1 := by omega
  conv => lhs; rw [this]
  rw [List.take_add_one, List.getElem?_eq_getElem (by omega)]
  rfl
theorem rtrim_l0 (n : Nat) (s : Str) (hs : s.length < 9223372036854775807) (a : Nat) : ∀ (m b : Nat), b - a < m → a ≤ b → b ≤ s.length →
    ∃ j : Nat, clepsydraref11_trim_l0 n m s (a : Int) (b : Int) = some (j : Int) ∧ (s.take j).drop a = (((s.take b).drop a).reverse.dropWhile blkB).reverse ∧ a ≤ j ∧ j ≤ b
  | 0, b, hm, _, _ => by omega
  | m + 1, b, hm, hab, hb => by
    rw [clepsydraref11_trim_l0, clepsydraref11_trim_l0_b]
    unfold clepsydraref11_trim_j0 clepsydraref11_trim_j0_b
    by_cases h : a < b
    · obtain ⟨c, e1, e2⟩ := take_snoc s b (by omega) hb
      have e3 : (s.take b).drop a = (s.take (b - 1)).drop a ++ [c] := by rw [e2, List.drop_append_of_le_length (by rw [List.length_take]; omega)]
      rw [cond_pos (by omega), sub1 b (by omega) (by omega), cond_pos (by omega), Int.toNat_natCast, e1]
      simp only [Option.bind_some, rblank_val]
      rw [e3, List.reverse_append, List.reverse_singleton, List.singleton_append]
      cases hc : blkB c with
      | false =>
        rw [cond_false, List.dropWhile_cons_of_neg (by simp [hc])]
        exact ⟨b, rfl, by rw [e3]; simp, hab, Nat.le_refl _⟩
      | true =>
        obtain ⟨j, k1, k2, k3, k4⟩ := rtrim_l0 n s hs a m (b - 1) (by omega) (by omega) (by omega)
        rw [cond_true, k1, List.dropWhile_cons_of_pos hc]
        exact ⟨j, rfl, k2, k3, by omega⟩
    · rw [cond_neg (by omega)]
      refine ⟨b, rfl, ?_, hab, Nat.le_refl _⟩
      rw [List.drop_eq_nil_of_le (by rw [List.length_take]; omega)]
      rfl
theorem rtrim_val (n : Nat) (s : Str) (hn : s.length + 1 < n) (hs : s.length < 9223372036854775807) : clepsydraref11_trim_f n s = some (trimS s) := by
  unfold clepsydraref11_trim_f clepsydraref11_trim_b
  obtain ⟨a, a1, a2, a3, a4⟩ := rtrim_l1 n s hs n 0 (by omega) (by omega)
  rw [show (0 : Int) = ((0 : Nat) : Int) by rfl, a1]
  simp only [Option.bind_some]
  obtain ⟨b, b1, b2, b3, b4⟩ := rtrim_l0 n s hs a n s.length (by omega) a4 (Nat.le_refl _)
  rw [b1]
  simp only [Option.bind_some]
  rw [cond_pos (by omega), cond_pos (by omega), cond_pos (by omega), cond_pos (by omega), Int.toNat_natCast, Int.toNat_natCast, b2, List.take_length, a2]
  rfl
theorem rcomment_val (n : Nat) (s : Str) (hn : s.length + 1 < n) (hs : s.length < 9223372036854775807) : clepsydraref11_comment_f n s = some (cmtS s) := by
  unfold clepsydraref11_comment_f clepsydraref11_comment_b cmtS
  rw [rtrim_val n s hn hs]
  cases h : trimS s with
  | nil => rfl
  | cons b r =>
    have h := byte_all (p := fun x => cond ((x : Int) == 35) (some true) (some ((x : Int) == 59)) = some (UInt8.ofNat x == 35 || UInt8.ofNat x == 59)) (by decide +kernel) b
    rw [UInt8.ofNat_toNat] at h
    exact h

/-! ### a section's head -/
theorem rsec_loop (n : Nat) (s : Str) (hs : s.length < 9223372036854775807) : ∀ (m i : Nat), s.length - i < m →
    clepsydraref11_section_l0 n m s (i : Int) = some (cond ((s.drop i).any brkB) (.inl ()) (.inr ()))
  | 0, i, hm => by omega
  | m + 1, i, hm => by
    rw [clepsydraref11_section_l0, clepsydraref11_section_l0_b]
    cases hd : s.drop i with
    | nil =>
      have := drop_nil hd
      rw [cond_neg (by omega)]
      rfl
    | cons c r =>
      obtain ⟨e1, e2, e3⟩ := drop_cons hd
      have hj : clepsydraref11_section_j0 n s (i : Int) = some (brkB c) := by
        unfold clepsydraref11_section_j0 clepsydraref11_section_j0_b
        rw [cond_pos (by omega), cond_pos (by omega), Int.toNat_natCast, e1]
        have h := byte_all (p := fun x => cond ((x : Int) == 91) (some true) (some ((x : Int) == 93)) = some (brkB (UInt8.ofNat x))) (by decide +kernel) c
        rw [UInt8.ofNat_toNat] at h
        exact h
      rw [cond_pos (by omega), hj]
      simp only [Option.bind_some, List.any_cons]
      by_cases hc : brkB c = true
      · rw [hc]; rfl
      · rw [Bool.not_eq_true] at hc
        rw [hc, cond_false, wrap1 i (by omega), rsec_loop n s hs m (i + 1) (by omega), e2, Bool.false_or]
theorem endS_drop1 (c : UInt8) (s : Str) (h : 2 ≤ s.length) : endS c (s.drop 1) = endS c s := by
  unfold endS
  rw [List.getLast?_drop, if_neg (by omega)]
theorem innS_eq (s : Str) (h : 2 ≤ s.length) (he : endS 93 s = true) : innS s = (s.take (s.length - 1)).drop 1 := by
  unfold innS cutE
  rw [endS_drop1 _ _ h, if_pos he, List.dropLast_eq_take, List.length_drop, List.drop_take, show s.length - 1 - 1 = s.length - 1 - 1 by rfl]
theorem rsection_val (n : Nat) (s : Str) (hn : s.length + 1 < n) (hs : s.length < 9223372036854775807) : clepsydraref11_section_f n s = some (if headS s then innS s else []) := by
  unfold clepsydraref11_section_f clepsydraref11_section_b
  unfold clepsydraref11_section_j1 clepsydraref11_section_j1_b
  by_cases h1 : s.length < 3
  · rw [cond_pos (by omega)]
    have : headS s = false := by
      match s, h1 with
      | [], _ => rfl
      | [a], _ => simp [headS, endS]
      | [a, b], _ =>
        simp only [headS, endS, innS, cutE, List.drop_succ_cons, List.drop_zero, List.getLast?_singleton]
        by_cases hb : b = 93
        · subst hb; simp
        · simp [hb]
      | a :: b :: c :: r, h => simp only [List.length_cons] at h; omega
    rw [this]
    rfl
  · rw [cond_neg (by omega)]
    cases s with
    | nil => simp at h1
    | cons c r =>
      simp only [List.getElem?_cons_zero, Option.bind_some, bne_byte]
      have e1 : ((c.toNat : Int) != 91) = (c != 91) := bne_byte c 91
      rw [e1]
      by_cases h2 : c = 91
      · subst h2
        rw [bne_self_eq_false, cond_false, sub1 _ (by omega) (by omega), cond_pos (by omega), Int.toNat_natCast]
        have hl : (91 :: r : Str)[(91 :: r : Str).length - 1]? = (91 :: r : Str).getLast? := (getLast_get _).symm
        obtain ⟨z, hz⟩ : ∃ z, (91 :: r : Str).getLast? = some z := by
          cases h : (91 :: r : Str).getLast? with
          | none => simp at h
          | some z => exact ⟨z, rfl⟩
        rw [hl, hz]
        have e2 : ((z.toNat : Int) != 93) = (z != 93) := bne_byte z 93
        simp only [Option.bind_some]
        rw [e2]
        by_cases h3 : z = 93
        · subst h3
          have he : endS 93 (91 :: r) = true := by unfold endS; rw [hz]; rfl
          have hi := innS_eq (91 :: r) (by omega) he
          have hne : (innS (91 :: r) != []) = true := by
            rw [bne_iff_ne]
            intro h0
            have := congrArg List.length h0
            rw [hi] at this
            simp only [List.length_drop, List.length_take, List.length_cons, List.length_nil] at this h1
            omega
          rw [bne_self_eq_false, cond_false, cond_pos (by omega), cond_pos (by omega), cond_pos (by omega), ← hi]
          have hil : (innS (91 :: r)).length ≤ (91 :: r).length := by
            rw [hi]; simp; omega
          rw [show (0 : Int) = ((0 : Nat) : Int) by rfl, rsec_loop n (innS (91 :: r)) (by omega) n 0 (by omega)]
          have hh : headS (91 :: r) = !(innS (91 :: r)).any brkB := by
            rw [headS, endS_drop1 _ _ (by omega), he, hne]; rfl
          rw [hh, List.drop_zero]
          cases (innS (91 :: r)).any brkB <;> rfl
        · have : headS (91 :: r) = false := by
            have he : endS 93 (91 :: r) = false := by unfold endS; rw [hz]; simpa using h3
            rw [headS, endS_drop1 _ _ (by omega), he]
            simp
          rw [this, show (z != 93) = true by simpa using h3]
          rfl
      · have : headS (c :: r) = false := by simp [headS, h2]
        rw [this, show (c != 91) = true by simpa using h2]
        rfl

/-! ### a key -/
theorem rletter_val (n : Nat) (b : UInt8) : clepsydraref11_letter_f n (b.toNat : Int) = some (letB b) := by
  have h := byte_all (p := fun x => clepsydraref11_letter_f 0 (x : Int) = some (letB (UInt8.ofNat x))) (by decide +kernel) b
  rw [UInt8.ofNat_toNat] at h
  exact h
theorem rkey_j0 (n : Nat) (s : Str) (i : Nat) (c : UInt8) (h : s[i]? = some c) : clepsydraref11_key_j0 n s (i : Int) = some (!(letB c || ((i : Int) != 0 && digB c))) := by
  unfold clepsydraref11_key_j0 clepsydraref11_key_j0_b
  rw [cond_pos (by omega), cond_pos (by omega), cond_pos (by omega), Int.toNat_natCast, h]
  simp only [Option.bind_some, rletter_val]
  cases letB c with
  | true => rfl
  | false =>
    simp only [Bool.not_false, cond_true, Bool.false_or]
    by_cases h : (i : Int) = 0
    · rw [h]; rfl
    · rw [show ((i : Int) == 0) = false by simpa using h, show ((i : Int) != 0) = true by simpa using h, cond_false, Bool.true_and]
      have h := byte_all (p := fun x => cond (decide ((x : Int) < 48)) (some true) (some (decide ((x : Int) > 57))) = some (!digB (UInt8.ofNat x))) (by decide +kernel) c
      rw [UInt8.ofNat_toNat] at h
      exact h
theorem rkey_loop (n : Nat) (s : Str) (hs : s.length < 9223372036854775807) : ∀ (m i : Nat), s.length - i < m → 1 ≤ i →
    clepsydraref11_key_l0 n m s (i : Int) = some (cond ((s.drop i).all fun b => letB b || digB b) (.inr ()) (.inl ()))
  | 0, i, hm, _ => by omega
  | m + 1, i, hm, hi => by
    rw [clepsydraref11_key_l0, clepsydraref11_key_l0_b]
    cases hd : s.drop i with
    | nil =>
      have := drop_nil hd
      rw [cond_neg (by omega)]
      rfl
    | cons c r =>
      obtain ⟨h1, h2, h3⟩ := drop_cons hd
      rw [cond_pos (by omega), rkey_j0 n s i c h1]
      simp only [Option.bind_some, List.all_cons]
      rw [show ((i : Int) != 0) = true by simp; omega, Bool.true_and]
      by_cases hc : (letB c || digB c) = true
      · rw [hc, Bool.not_true, cond_false, wrap1 i (by omega), rkey_loop n s hs m (i + 1) (by omega) (by omega), h2, Bool.true_and]
      · rw [Bool.not_eq_true] at hc
        rw [hc]; rfl
theorem rkey_val (n : Nat) (s : Str) (hs : s.length < 9223372036854775807) (hn : s.length + 1 < n) : clepsydraref11_key_f n s = some (keyS s) := by
  unfold clepsydraref11_key_f clepsydraref11_key_b
  obtain ⟨n, rfl⟩ : ∃ k, n = k + 1 := ⟨n - 1, by omega⟩
  rw [clepsydraref11_key_l0, clepsydraref11_key_l0_b]
  cases s with
  | nil => rfl
  | cons c r =>
    simp only [List.length_cons] at hs hn
    have h0 := rkey_j0 (n + 1) (c :: r) 0 c rfl
    rw [cond_pos (by simp only [List.length_cons]; omega), show (0 : Int) = ((0 : Nat) : Int) by rfl, h0]
    simp only [Option.bind_some, Int.natCast_zero, bne_self_eq_false, Bool.false_and, Bool.or_false, keyS]
    cases hc : letB c with
    | false => rfl
    | true =>
      have h := rkey_loop (n + 1) (c :: r) (by simp only [List.length_cons]; omega) n 1 (by simp only [List.length_cons]; omega) (by omega)
      rw [Bool.not_true, cond_false, show IntKind.i64.wrap ((0 : Int) + 1) = ((1 : Nat) : Int) by rfl, h]
      simp only [List.drop_succ_cons, List.drop_zero, Option.bind_some, Bool.true_and]
      cases r.all fun b => letB b || digB b <;> rfl

/-! ### rows -/
def preS (x : Str) : List Str → List Str
  | [] => [x]
  | y :: r => (x ++ y) :: r
theorem preS_consH (x : Str) (c : UInt8) (rows : List Str) : preS x (consH c rows) = preS (x ++ [c]) rows := by
  cases rows with
  | nil => rfl
  | cons y r => simp [consH, preS]
theorem rcr_val (n : Nat) (s : Str) (hs : s.length < 9223372036854775807) : clepsydraref11_split_j1 n s = some (cutE 13 s) := by
  unfold clepsydraref11_split_j1 clepsydraref11_split_j1_b clepsydraref11_split_j0 clepsydraref11_split_j0_b
  by_cases h : s = []
  · subst h; rfl
  · have hl : 1 ≤ s.length := by cases s with | nil => exact absurd rfl h | cons => simp
    obtain ⟨z, hz⟩ : ∃ z, s.getLast? = some z := by
      cases h' : s.getLast? with
      | none => exact absurd (List.getLast?_eq_none_iff.1 h') h
      | some z => exact ⟨z, rfl⟩
    rw [cond_pos (by omega), sub1 _ hl (by omega), cond_pos (by omega), Int.toNat_natCast, ← getLast_get, hz]
    simp only [Option.bind_some]
    have e2 : ((z.toNat : Int) == 13) = (z == 13) := beq_byte z 13
    rw [e2]
    have he : endS 13 s = (z == 13) := by unfold endS; rw [hz]; rfl
    cases h3 : z == 13 with
    | false => rw [cutE, he, h3]; rfl
    | true =>
      rw [h3] at he
      rw [cond_true, cond_pos (by omega), cond_pos (by omega), cutE_take 13 s he]
theorem rsplit_loop (n : Nat) (s : Str) (hs : s.length < 4294967296) : ∀ (m i start : Nat) (out : List Str), s.length + 1 - i < m → i ≤ s.length → start ≤ i → out.length ≤ i →
    clepsydraref11_split_l0 n m s out (start : Int) (i : Int) = some (out ++ (preS ((s.take i).drop start) (rowsS (s.drop i))).map (cutE 13))
  | 0, i, start, out, hm, _, _, _ => by omega
  | m + 1, i, start, out, hm, hi, hst, ho => by
    rw [clepsydraref11_split_l0, clepsydraref11_split_l0_b, cond_pos (by omega)]
    unfold clepsydraref11_split_j3 clepsydraref11_split_j3_b clepsydraref11_split_j2 clepsydraref11_split_j2_b
    have hxl : ((s.take i).drop start).length ≤ s.length := by simp; omega
    cases hd : s.drop i with
    | nil =>
      have := drop_nil hd
      rw [cond_neg (by omega)]
      simp only [Option.bind_some, cond_false]
      rw [cond_pos (by omega), cond_pos (by omega), cond_pos (by omega), cond_pos (by omega), Int.toNat_natCast, Int.toNat_natCast, rcr_val n _ (by omega)]
      simp only [Option.bind_some]
      rw [cond_pos (by simp; omega), wrap1 i (by omega)]
      obtain ⟨m, rfl⟩ : ∃ k, m = k + 1 := ⟨m - 1, by omega⟩
      simp only [Option.bind_some]
      rw [clepsydraref11_split_l0, clepsydraref11_split_l0_b, cond_neg (by omega)]
      simp [rowsS, preS]
    | cons c r =>
      obtain ⟨h1, h2, h3⟩ := drop_cons hd
      rw [cond_pos (by omega), cond_pos (by omega)]
      have e2 : ((c.toNat : Int) != 10) = (c != 10) := bne_byte c 10
      have e4 : s.take (i + 1) = s.take i ++ [c] := by rw [List.take_add_one, h1]; rfl
      simp only [Int.toNat_natCast, h1, Option.bind_some]
      rw [e2]
      by_cases hc : c = 10
      · subst hc
        rw [bne_self_eq_false, cond_false, cond_pos (by omega), cond_pos (by omega), cond_pos (by omega), cond_pos (by omega), rcr_val n _ (by omega)]
        simp only [Option.bind_some]
        rw [cond_pos (by simp; omega), wrap1 i (by omega)]
        simp only [Option.bind_some]
        have e6 : (s.take (i + 1)).drop (i + 1) = [] := List.drop_eq_nil_of_le (by simp; omega)
        rw [rsplit_loop n s hs m (i + 1) (i + 1) _ (by omega) (by omega) (by omega) (by simp; omega), h2, e6, rowsS, if_pos rfl]
        cases hr : rowsS r with
        | nil => exact absurd hr (rowsS_ne r)
        | cons y z => simp [preS]
      · rw [show (c != 10) = true by simpa using hc, cond_true]
        simp only [Option.bind_some]
        rw [wrap1 i (by omega), rsplit_loop n s hs m (i + 1) start out (by omega) (by omega) (by omega) (by omega), h2, rowsS, if_neg hc]
        have e5 : (s.take (i + 1)).drop start = (s.take i).drop start ++ [c] := by rw [e4, List.drop_append_of_le_length (by rw [List.length_take]; omega)]
        rw [e5, ← preS_consH]
        rfl
theorem rsplit_val (n : Nat) (s : Str) (hn : s.length + 2 < n) (hs : s.length < 4294967296) : clepsydraref11_split_f n s = some (linesS s) := by
  unfold clepsydraref11_split_f clepsydraref11_split_b
  have h := rsplit_loop n s hs n 0 0 [] (by omega) (by omega) (by omega) (by simp)
  rw [show (0 : Int) = ((0 : Nat) : Int) by rfl, h]
  simp only [Option.bind_some, List.nil_append, List.drop_zero, List.take_zero, linesS]
  cases hr : rowsS s with
  | nil => exact absurd hr (rowsS_ne s)
  | cons y z => rfl
end Go.Proofs.YtikiibnmhmioiaaDoor.H

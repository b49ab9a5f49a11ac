/- Chapter 07: days and rules written by the program. -/
import Derived.Test.YtpooncihlnllnaaDoorU7
namespace Go.Proofs.YtpooncihlnllnaaDoor.H
open Go.Sh Go.RowKit
set_option linter.unusedSimpArgs false
set_option linter.unusedVariables false

/-! ### names -/
theorem nletter_val (n : Nat) (b : UInt8) : footer_all_1_1_f n (b.toNat : Int) = some (!letterB b) := by
  have h := byte_all (p := fun x => footer_all_1_1_f 0 (x : Int) = some (!letterB (UInt8.ofNat x))) (by decide +kernel) b
  rw [UInt8.ofNat_toNat] at h
  exact h
theorem index1_loop (n : Nat) (s : Str) (hs : s.length < 9223372036854775808) : ∀ (m i : Nat), s.length - i < m →
    ∃ o, slices_IndexFunc_byte_byte_1_l0 n m (intsOf s) (s.length : Int) (i : Int) = some o ∧ ((s.drop i).all letterB = true → o = Sum.inr ()) ∧ ((s.drop i).all letterB = false → ∃ j : Nat, o = Sum.inl (j : Int))
  | 0, i, hm => by omega
  | m + 1, i, hm => by
    rw [slices_IndexFunc_byte_byte_1_l0, slices_IndexFunc_byte_byte_1_l0_b]
    cases hd : s.drop i with
    | nil =>
      have := drop_nil hd
      rw [cond_neg (by omega)]
      exact ⟨_, rfl, by simp⟩
    | cons c r =>
      obtain ⟨h1, h2, h3⟩ := drop_cons hd
      have h4 : (intsOf s)[i]? = some (c.toNat : Int) := by simp [intsOf, h1]
      rw [cond_pos (by omega), cond_pos (by omega), Int.toNat_natCast, h4]
      simp only [Option.bind_some, nletter_val, List.all_cons]
      rcases Bool.eq_false_or_eq_true (letterB c) with hc | hc
      · rw [hc, Bool.not_true, cond_false, wrap1 i (by omega)]
        obtain ⟨o, h5, h6⟩ := index1_loop n s hs m (i + 1) (by omega)
        rw [h2] at h6
        exact ⟨o, h5, by simpa using h6⟩
      · rw [hc]
        exact ⟨_, rfl, by simp, fun _ => ⟨i, rfl⟩⟩
def putT (s : Str) : Str := if s.all letterB = true then s else 60 :: (s ++ [62])
theorem putT_len (s : Str) : (putT s).length ≤ s.length + 2 := by unfold putT; split <;> simp
theorem put_val (n : Nat) (s : Str) (hs : s.length < 1000) (hn : s.length < n) : footer_put_f n s = some (putT s) := by
  unfold footer_put_f footer_put_b footer_all_2_f footer_all_2_b slices_ContainsFunc_byte_byte_1_f slices_ContainsFunc_byte_byte_1_b slices_IndexFunc_byte_byte_1_f slices_IndexFunc_byte_byte_1_b putT
  obtain ⟨o, h1, h2, h3⟩ := index1_loop n s (by omega) n 0 (by omega)
  rw [intsOf_length, show (0 : Int) = ((0 : Nat) : Int) from rfl, h1]
  rw [List.drop_zero] at h2 h3
  rcases Bool.eq_false_or_eq_true (s.all letterB) with h | h
  · rw [h2 h, if_pos h]; rfl
  · obtain ⟨j, rfl⟩ := h3 h
    rw [if_neg (by rw [h]; simp)]
    simp only [Option.bind_some, Sum.elim_inl]
    rw [decide_eq_true (show ((j : Int) ≥ ((0 : Nat) : Int)) by omega)]
    simp only [Bool.not_true, cond_false, Option.bind_some]
    rw [cond_pos (by simp; omega), cond_pos (by simp; omega)]
    simp
/-! ### days -/
def headT (d : DayV) : Str :=
  if d.k = 1 then 74 :: Lib.decDigits d.d.toNat
  else if d.k = 3 then 77 :: (Lib.decDigits d.m.toNat ++ 46 :: (Lib.decDigits d.w.toNat ++ 46 :: Lib.decDigits d.d.toNat))
  else Lib.decDigits d.d.toNat
def dayT (d : DayV) : Str := headT d ++ (if d.t = 7200 then [] else 47 :: hoursT d.t)
/-- What a right day is. -/
theorem dayOK_of {d : DayV} (h : dayOK d = true) : -604799 ≤ d.t ∧ d.t ≤ 604799 ∧ 0 ≤ d.d ∧ d.d ≤ 365 ∧ 0 ≤ d.m ∧ d.m ≤ 12 ∧ 0 ≤ d.w ∧ d.w ≤ 5 ∧ (d.k = 1 ∨ d.k = 2 ∨ d.k = 3) := by
  unfold dayOK nearB at h
  simp only [Bool.and_eq_true, decide_eq_true_eq] at h
  obtain ⟨⟨h1, h2⟩, h⟩ := h
  split at h
  · simp only [Bool.and_eq_true, decide_eq_true_eq] at h; omega
  · split at h
    · simp only [Bool.and_eq_true, decide_eq_true_eq] at h; omega
    · split at h
      · simp only [Bool.and_eq_true, decide_eq_true_eq] at h; omega
      · cases h
theorem headT_len (d : DayV) (h : dayOK d = true) : (headT d).length ≤ 12 := by
  have hb := dayOK_of h
  have h1 := decLen d.d.toNat (by omega)
  have h2 := decLen d.m.toNat (by omega)
  have h3 := decLen d.w.toNat (by omega)
  unfold headT
  split
  · simp only [List.length_cons]; omega
  · split
    · simp only [List.length_cons, List.length_append]; omega
    · omega
theorem dayT_len (d : DayV) (h : dayOK d = true) : (dayT d).length ≤ 23 := by
  have hb := dayOK_of h
  have h1 := headT_len d h
  have h2 := hoursT_len d.t (by omega)
  unfold dayT
  split
  · simp only [List.length_append, List.length_nil]; omega
  · simp only [List.length_append, List.length_cons]; omega
theorem dayT_val (n : Nat) (d : DayV) (hn : 20 < n) (h : dayOK d = true) : footer_Day_text_f n d.k d.m d.w d.d d.t = some (dayT d) := by
  have hb := dayOK_of h
  have l1 := decLen d.d.toNat (by omega)
  have l2 := decLen d.m.toNat (by omega)
  have l3 := decLen d.w.toNat (by omega)
  have l4 := headT_len d h
  have l5 := hoursT_len d.t (by omega)
  unfold footer_Day_text_f footer_Day_text_b
  have ed : d.d = ((d.d.toNat : Nat) : Int) := by omega
  have em : d.m = ((d.m.toNat : Nat) : Int) := by omega
  have ew : d.w = ((d.w.toNat : Nat) : Int) := by omega
  have i1 : strconv_Itoa_f n d.d = some (Lib.decDigits d.d.toNat) := by rw [ed, itoa_val n _ (by omega), Int.toNat_natCast]
  have i2 : strconv_Itoa_f n d.m = some (Lib.decDigits d.m.toNat) := by rw [em, itoa_val n _ (by omega), Int.toNat_natCast]
  have i3 : strconv_Itoa_f n d.w = some (Lib.decDigits d.w.toNat) := by rw [ew, itoa_val n _ (by omega), Int.toNat_natCast]
  have hj : footer_Day_text_j0 n (Lib.decDigits d.d.toNat) d.k d.m d.w d.d d.t = some (headT d, d.k, d.m, d.w, d.d, d.t) := by
    rw [footer_Day_text_j0, footer_Day_text_j0_b, i2, i3]
    unfold headT
    rw [beqI, beqI]
    by_cases h1 : d.k = 1
    · rw [cond_pos h1, if_pos h1, cond_pos (by simp only [List.length_cons, List.length_nil]; omega)]
      rfl
    · rw [cond_neg h1, if_neg h1]
      by_cases h3 : d.k = 3
      · rw [cond_pos h3, if_pos h3]
        simp only [Option.bind_some]
        rw [cond_pos (by simp; omega), cond_pos (by simp; omega), cond_pos (by simp; omega), cond_pos (by simp; omega), cond_pos (by simp; omega)]
        simp
      · rw [cond_neg h3, if_neg h3]
  rw [i1]
  simp only [Option.bind_some]
  rw [hj]
  simp only [Option.bind_some]
  unfold dayT
  by_cases ht : d.t = 7200
  · rw [if_pos ht, ht]; simp
  · rw [if_neg ht, show (d.t != 7200) = true by simpa using ht, cond_true, hoursT_val n d.t (by omega) (by omega)]
    simp only [Option.bind_some]
    rw [cond_pos (by simp; omega), cond_pos (by simp; omega)]
    simp
/-! ### rules -/
def offT (off doff : Int) : Str := if doff = off + 3600 then [] else hoursT (-doff)
def textT (r : RuleV) : Str := putT r.std ++ hoursT (-r.off) ++ if r.dst = [] then [] else putT r.dst ++ offT r.off r.doff ++ 44 :: (dayT r.a ++ 44 :: dayT r.b)
theorem isName_len {s : Str} (h : isName s = true) : 3 ≤ s.length ∧ s.length ≤ 10 ∧ s.all nameB = true := by
  unfold isName at h
  simp only [Bool.and_eq_true, decide_eq_true_eq] at h
  exact ⟨h.1.1, h.1.2, h.2⟩
theorem nearB_of {x far : Int} (h : nearB x far = true) : -far ≤ x ∧ x ≤ far := by
  unfold nearB at h
  simpa using h
/-- What a right rule is. -/
theorem right_of {r : RuleV} (h : rightS r = true) : isName r.std = true ∧ -89999 ≤ r.off ∧ r.off ≤ 89999 ∧
    (r.dst = [] ∧ r.doff = 0 ∧ zeroD r.a = true ∧ zeroD r.b = true ∨ isName r.dst = true ∧ r.dst ≠ [] ∧ -89999 ≤ r.doff ∧ r.doff ≤ 89999 ∧ dayOK r.a = true ∧ dayOK r.b = true) := by
  unfold rightS at h
  simp only [Bool.and_eq_true] at h
  obtain ⟨⟨h1, h2⟩, h⟩ := h
  have h3 := nearB_of h2
  refine ⟨h1, h3.1, h3.2, ?_⟩
  split at h
  · rename_i hd
    simp only [Bool.and_eq_true, beq_iff_eq] at h
    exact .inl ⟨hd, h.1.1, h.1.2, h.2⟩
  · rename_i hd
    simp only [Bool.and_eq_true] at h
    have h4 := nearB_of h.1.1.2
    exact .inr ⟨h.1.1.1, hd, h4.1, h4.2, h.1.2, h.2⟩
theorem offT_len (off doff : Int) (h : doff.natAbs < 1000000) : (offT off doff).length ≤ 10 := by
  unfold offT
  split
  · simp
  · exact hoursT_len _ (by omega)
theorem textT_len (r : RuleV) (h : rightS r = true) : (textT r).length ≤ 94 := by
  obtain ⟨h1, h2, h3, h4⟩ := right_of h
  have l1 := isName_len h1
  have l2 := putT_len r.std
  have l3 := hoursT_len (-r.off) (by omega)
  unfold textT
  rcases h4 with ⟨h4, _⟩ | ⟨h4, h5, h6, h7, h8, h9⟩
  · rw [if_pos h4]; simp only [List.length_append, List.length_nil]; omega
  · have l4 := isName_len h4
    have l5 := putT_len r.dst
    have l6 := offT_len r.off r.doff (by omega)
    have l7 := dayT_len r.a h8
    have l8 := dayT_len r.b h9
    rw [if_neg h5]
    simp only [List.length_append, List.length_cons]
    omega
theorem join3 (a b c : Str) : Lib.join [a, b, c] [44] = a ++ 44 :: (b ++ 44 :: c) := by simp [Lib.join, Lib.joinTail]
theorem text_val (n : Nat) (r : RuleV) (hn : 200 < n) (h : rightS r = true) : footer_Text_f n r.std r.dst r.off r.doff r.a.k r.a.m r.a.w r.a.d r.a.t r.b.k r.b.m r.b.w r.b.d r.b.t = some (textT r, 0) := by
  obtain ⟨h1, h2, h3, h4⟩ := right_of h
  have l1 := isName_len h1
  have l2 := putT_len r.std
  have l3 := hoursT_len (-r.off) (by omega)
  have hd : r.dst.length ≤ 10 := by
    rcases h4 with ⟨h4, _⟩ | ⟨h4, _⟩
    · rw [h4]; simp
    · exact (isName_len h4).2.1
  unfold footer_Text_f footer_Text_b
  rw [right_val n _ _ _ _ _ _ _ _ _ _ _ _ _ _ (by omega) (by omega) (by omega) (by omega)]
  rw [show rightS ⟨r.std, r.dst, r.off, r.doff, ⟨r.a.k, r.a.m, r.a.w, r.a.d, r.a.t⟩, ⟨r.b.k, r.b.m, r.b.w, r.b.d, r.b.t⟩⟩ = true from h]
  simp only [Option.bind_some, Bool.not_true, cond_false]
  rw [put_val n r.std (by omega) (by omega), wi (0 - r.off) (by omega) (by omega), Int.zero_sub, hoursT_val n _ (by omega) (by omega)]
  simp only [Option.bind_some]
  rw [cond_pos (by omega)]
  unfold textT
  rcases h4 with ⟨h4, _⟩ | ⟨h4, h5, h6, h7, h8, h9⟩
  · rw [if_pos h4, h4]; simp
  · have l4 := isName_len h4
    have l5 := putT_len r.dst
    have l6 := offT_len r.off r.doff (by omega)
    have l7 := dayT_len r.a h8
    have l8 := dayT_len r.b h9
    have l9 := hoursT_len (-r.doff) (by omega)
    rw [if_neg h5, show (r.dst == ([] : Str)) = false by simpa using h5, cond_false, put_val n r.dst (by omega) (by omega)]
    simp only [Option.bind_some]
    rw [cond_pos (by simp only [List.length_append]; omega)]
    have hj : footer_Text_j0 n (putT r.std ++ hoursT (-r.off) ++ putT r.dst) r.std r.dst r.off r.doff r.a.k r.a.m r.a.w r.a.d r.a.t r.b.k r.b.m r.b.w r.b.d r.b.t = some (putT r.std ++ hoursT (-r.off) ++ putT r.dst ++ offT r.off r.doff, r.std, r.dst, r.off, r.doff, r.a.k, r.a.m, r.a.w, r.a.d, r.a.t, r.b.k, r.b.m, r.b.w, r.b.d, r.b.t) := by
      rw [footer_Text_j0, footer_Text_j0_b, wi (r.off + 3600) (by omega) (by omega), wi (0 - r.doff) (by omega) (by omega), Int.zero_sub]
      unfold offT
      by_cases he : r.doff = r.off + 3600
      · rw [if_pos he, he]; simp
      · rw [if_neg he, show (r.doff != r.off + 3600) = true by simpa using he, cond_true, hoursT_val n _ (by omega) (by omega)]
        simp only [Option.bind_some]
        rw [cond_pos (by simp only [List.length_append]; omega)]
    rw [hj]
    simp only [Option.bind_some]
    rw [dayT_val n r.a (by omega) h8, dayT_val n r.b (by omega) h9]
    simp only [Option.bind_some, join3]
    rw [cond_pos (by simp), cond_pos (by simp only [List.length_append, List.length_cons]; omega)]
    simp
theorem text_bad (n : Nat) (r : RuleV) (hn : 200 < n) (hs : r.std.length ≤ 50) (hd : r.dst.length ≤ 50) (h : rightS r = false) : footer_Text_f n r.std r.dst r.off r.doff r.a.k r.a.m r.a.w r.a.d r.a.t r.b.k r.b.m r.b.w r.b.d r.b.t = some ([], 2) := by
  unfold footer_Text_f footer_Text_b
  rw [right_val n _ _ _ _ _ _ _ _ _ _ _ _ _ _ (by omega) (by omega) (by omega) (by omega)]
  rw [show rightS ⟨r.std, r.dst, r.off, r.doff, ⟨r.a.k, r.a.m, r.a.w, r.a.d, r.a.t⟩, ⟨r.b.k, r.b.m, r.b.w, r.b.d, r.b.t⟩⟩ = false from h]
  rfl
end Go.Proofs.YtpooncihlnllnaaDoor.H

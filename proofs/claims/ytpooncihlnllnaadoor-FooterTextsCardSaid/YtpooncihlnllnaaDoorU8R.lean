/- Chapter 07: days and rules written by the reference; the law FooterTexts. -/
import Derived.Test.YtpooncihlnllnaaDoorU7R
import Derived.Test.YtpooncihlnllnaaDoorU8
namespace Go.Proofs.YtpooncihlnllnaaDoor.H
open Go.Sh Go.RowKit
set_option linter.unusedSimpArgs false
set_option linter.unusedVariables false

theorem rplain_loop (n : Nat) (s : Str) (hs : s.length < 9223372036854775808) : ∀ (m i : Nat), s.length - i < m →
    clepsydraref07_plain_l0 n m s (i : Int) = some (if (s.drop i).all letterB = true then Sum.inr () else Sum.inl ())
  | 0, i, hm => by omega
  | m + 1, i, hm => by
    rw [clepsydraref07_plain_l0, clepsydraref07_plain_l0_b]
    cases hd : s.drop i with
    | nil =>
      have := drop_nil hd
      rw [cond_neg (by omega)]
      simp
    | cons c r =>
      obtain ⟨h1, h2, h3⟩ := drop_cons hd
      rw [cond_pos (by omega), cond_pos (by omega), Int.toNat_natCast, h1]
      simp only [Option.bind_some, rletter_val]
      rw [wrap1 i (by omega), rplain_loop n s hs m (i + 1) (by omega), h2]
      rw [show ((c :: r).all letterB) = (letterB c && r.all letterB) from rfl]
      have : ∀ v1 v2 : Bool, cond (!v1) (some (Sum.inl ())) (some (if v2 = true then Sum.inr () else Sum.inl ())) = some (if (v1 && v2) = true then (Sum.inr () : Unit ⊕ Unit) else Sum.inl ()) := by decide
      exact this _ _
theorem rput_val (n : Nat) (s : Str) (hs : s.length < 1000) (hn : s.length < n) : clepsydraref07_put_f n s = some (putT s) := by
  unfold clepsydraref07_put_f clepsydraref07_put_b clepsydraref07_plain_f clepsydraref07_plain_b putT
  rw [show (0 : Int) = ((0 : Nat) : Int) from rfl, rplain_loop n s (by omega) n 0 (by omega), List.drop_zero]
  rcases Bool.eq_false_or_eq_true (s.all letterB) with h | h
  · simp [h]
  · simp only [h, Bool.false_eq_true, if_false, Option.bind_some, Sum.elim_inl, cond_false]
    rw [cond_pos (by simp; omega), cond_pos (by simp; omega)]
    simp

theorem rdayT_val (n : Nat) (d : DayV) (hn : 20 < n) (h : dayOK d = true) : clepsydraref07_dayText_f n d.k d.m d.w d.d d.t = some (dayT d) := by
  have hb := dayOK_of h
  have l1 := decLen d.d.toNat (by omega)
  have l2 := decLen d.m.toNat (by omega)
  have l3 := decLen d.w.toNat (by omega)
  have l4 := headT_len d h
  have l5 := hoursT_len d.t (by omega)
  unfold clepsydraref07_dayText_f clepsydraref07_dayText_b
  have ed : d.d = ((d.d.toNat : Nat) : Int) := by omega
  have em : d.m = ((d.m.toNat : Nat) : Int) := by omega
  have ew : d.w = ((d.w.toNat : Nat) : Int) := by omega
  have i1 : clepsydraref07_digits_f n d.d 1 = some (Lib.decDigits d.d.toNat) := by rw [ed, digits1_val n _ hn (by omega), Int.toNat_natCast]
  have i2 : clepsydraref07_digits_f n d.m 1 = some (Lib.decDigits d.m.toNat) := by rw [em, digits1_val n _ hn (by omega), Int.toNat_natCast]
  have i3 : clepsydraref07_digits_f n d.w 1 = some (Lib.decDigits d.w.toNat) := by rw [ew, digits1_val n _ hn (by omega), Int.toNat_natCast]
  have hj : clepsydraref07_dayText_j0 n [] d.k d.m d.w d.d d.t = some (headT d, d.k, d.m, d.w, d.d, d.t) := by
    rw [clepsydraref07_dayText_j0, clepsydraref07_dayText_j0_b, i1, i2, i3]
    unfold headT
    rw [beqI, beqI, beqI]
    by_cases h1 : d.k = 1
    · rw [cond_pos h1, if_pos h1]
      simp only [Option.bind_some]
      rw [cond_pos (by simp only [List.length_cons, List.length_nil]; omega)]
      rfl
    · rw [cond_neg h1, if_neg h1]
      by_cases h3 : d.k = 3
      · rw [cond_neg (show ¬ d.k = 2 by omega), cond_pos h3, if_pos h3]
        simp only [Option.bind_some]
        rw [cond_pos (by simp; omega), cond_pos (by simp; omega), cond_pos (by simp; omega), cond_pos (by simp; omega), cond_pos (by simp; omega)]
        simp
      · rw [cond_pos (show d.k = 2 by omega), if_neg h3]
        rfl
  rw [hj]
  simp only [Option.bind_some]
  unfold dayT
  by_cases ht : d.t = 7200
  · rw [if_pos ht, ht]; simp
  · rw [if_neg ht, show (d.t != 7200) = true by simpa using ht, cond_true, rhoursT_val n d.t hn (by omega)]
    simp only [Option.bind_some]
    rw [cond_pos (by simp; omega), cond_pos (by simp; omega)]
    simp

theorem rtext_val (n : Nat) (r : RuleV) (hn : 200 < n) (h : rightS r = true) : clepsydraref07_Text_f n r.std r.dst r.off r.doff r.a.k r.a.m r.a.w r.a.d r.a.t r.b.k r.b.m r.b.w r.b.d r.b.t = some (textT r) := by
  obtain ⟨h1, h2, h3, h4⟩ := right_of h
  have l1 := isName_len h1
  have l2 := putT_len r.std
  have l3 := hoursT_len (-r.off) (by omega)
  unfold clepsydraref07_Text_f clepsydraref07_Text_b
  rw [rput_val n r.std (by omega) (by omega), wi (0 - r.off) (by omega) (by omega), Int.zero_sub, rhoursT_val n _ (by omega) (by omega)]
  simp only [Option.bind_some]
  rw [cond_pos (by omega)]
  unfold textT
  rcases h4 with ⟨h4, _⟩ | ⟨h4, h5, h6, h7, h8, h9⟩
  · rw [if_pos h4, h4]; simp
  · have l4 := isName_len h4
    have l5 := putT_len r.dst
    have l6 := offT_len r.off r.doff (by omega)
    have l7 := dayT_len r.a h8
    have l8 := dayT_len r.b h9
    have l9 := hoursT_len (-r.doff) (by omega)
    rw [if_neg h5, show (r.dst == ([] : Str)) = false by simpa using h5, cond_false, rput_val n r.dst (by omega) (by omega)]
    simp only [Option.bind_some]
    rw [cond_pos (by simp only [List.length_append]; omega)]
    have hj : clepsydraref07_Text_j0 n (putT r.std ++ hoursT (-r.off) ++ putT r.dst) r.std r.dst r.off r.doff r.a.k r.a.m r.a.w r.a.d r.a.t r.b.k r.b.m r.b.w r.b.d r.b.t = some (putT r.std ++ hoursT (-r.off) ++ putT r.dst ++ offT r.off r.doff, r.std, r.dst, r.off, r.doff, r.a.k, r.a.m, r.a.w, r.a.d, r.a.t, r.b.k, r.b.m, r.b.w, r.b.d, r.b.t) := by
      rw [clepsydraref07_Text_j0, clepsydraref07_Text_j0_b, wi (r.off + 3600) (by omega) (by omega), wi (0 - r.doff) (by omega) (by omega), Int.zero_sub]
      unfold offT
      by_cases he : r.doff = r.off + 3600
      · rw [if_pos he, he]; simp
      · rw [if_neg he, show (r.doff != r.off + 3600) = true by simpa using he, cond_true, rhoursT_val n _ (by omega) (by omega)]
        simp only [Option.bind_some]
        rw [cond_pos (by simp only [List.length_append]; omega)]
    rw [hj]
    simp only [Option.bind_some]
    rw [rdayT_val n r.a (by omega) h8, rdayT_val n r.b (by omega) h9]
    simp only [Option.bind_some]
    rw [cond_pos (by simp only [List.length_append, List.length_cons, List.length_nil]; omega), cond_pos (by simp only [List.length_append, List.length_cons, List.length_nil]; omega), cond_pos (by simp only [List.length_append, List.length_cons, List.length_nil]; omega), cond_pos (by simp only [List.length_append, List.length_cons, List.length_nil]; omega)]
    simp
theorem footerTexts_law (n : Nat) (hn : 200 < n) (r : RuleV) : clepsydralaw07_FooterTexts_f n r.std r.dst r.off r.doff r.a.k r.a.m r.a.w r.a.d r.a.t r.b.k r.b.m r.b.w r.b.d r.b.t = some true := by
  unfold clepsydralaw07_FooterTexts_f clepsydralaw07_FooterTexts_b
  rw [clepsydralaw07_FooterTexts_j0, clepsydralaw07_FooterTexts_j0_b, works_val n hn]
  by_cases h1 : (r.std.length : Int) > 50
  · rw [cond_pos h1]; rfl
  · rw [cond_neg h1]
    by_cases h2 : (r.dst.length : Int) > 50
    · rw [decide_eq_true h2]; rfl
    · rw [decide_eq_false h2]
      simp only [Option.bind_some, cond_false, clepsydralaw07_plain_f, clepsydralaw07_plain_b]
      rw [right_val n _ _ _ _ _ _ _ _ _ _ _ _ _ _ (by omega) (by omega) (by omega) (by omega), rright_val n _ _ _ _ _ _ _ _ _ _ _ _ _ _ (by omega) (by omega) (by omega) (by omega)]
      cases h : rightS r with
      | true =>
        rw [text_val n r hn h, rtext_val n r hn h]
        simp [h]
      | false =>
        rw [text_bad n r hn (by omega) (by omega) h]
        simp [h]
end Go.Proofs.YtpooncihlnllnaaDoor.H

/- Chapter 07: numbers, hours and days read by the reference. -/
import Derived.Test.YtpooncihlnllnaaDoorU4
namespace Go.Proofs.YtpooncihlnllnaaDoor.H
open Go.Sh Go.RowKit
set_option linter.unusedSimpArgs false
set_option linter.unusedVariables false

theorem rnum_loop (n : Nat) (s : Str) (b : Bool) (most : Nat) (hm3 : most ≤ 3) (hs : s.length < 9223372036854775808) : ∀ (m : Nat) (r d : Str) (i : Int), most - d.length < m → d.length ≤ most → d.all digitB = true → At s r i →
    ∃ j, clepsydraref07_reader_number_l0 n m (most : Int) (valS d : Int) (d.length : Int) s i b = some (((valS (d ++ runS digitB (most - d.length) r) : Nat) : Int), (((d ++ runS digitB (most - d.length) r).length : Nat) : Int), s, j, b) ∧ At s (r.drop (runS digitB (most - d.length) r).length) j
  | 0, r, d, i, hm, _, _, _ => by omega
  | m + 1, r, d, i, hm, hl, hd, h => by
    rw [clepsydraref07_reader_number_l0, clepsydraref07_reader_number_l0_b, clepsydraref07_reader_number_j0, clepsydraref07_reader_number_j0_b]
    by_cases hx : d.length < most
    · rw [cond_pos (by omega), next_val n h]
      simp only [Option.bind_some]
      obtain ⟨k, hk⟩ : ∃ k, most - d.length = k + 1 := ⟨most - d.length - 1, by omega⟩
      cases r with
      | nil =>
        rw [show clepsydraref07_digit_f n (headI []) = some false from rdigit_val n 0]
        refine ⟨i, ?_, by simpa [runS] using h⟩
        simp [runS]
      | cons c r =>
        obtain ⟨q, rfl, h1, h2, h3⟩ := h.cons
        rw [show clepsydraref07_digit_f n (headI (c :: r)) = some (digitB c) from rdigit_val n c]
        simp only [Option.bind_some]
        cases hc : digitB c with
        | false =>
          have hr : runS digitB (most - d.length) (c :: r) = [] := by rw [hk, runS, List.take_succ_cons, List.takeWhile_cons_of_neg (by simp [hc])]
          rw [hr]
          refine ⟨_, ?_, by simpa using h⟩
          simp
        | true =>
          have hr : runS digitB (most - d.length) (c :: r) = c :: runS digitB k r := by rw [hk, runS, List.take_succ_cons, List.takeWhile_cons_of_pos (by simp [hc])]; rfl
          rw [hr, cond_true, next_val n h]
          simp only [Option.bind_some, headI]
          have hv := valS_lt d (by omega) hd
          have hv3 : (10 : Nat) ^ d.length ≤ 10 ^ 3 := Nat.pow_le_pow_right (by omega) (by omega)
          have hcd := (digitB_iff c).1 hc
          have e1 : IntKind.i64.wrap (IntKind.i64.wrap (IntKind.i64.wrap (10 * (valS d : Int)) + IntKind.i64.wrap (c.toNat : Int)) - 48) = ((valS (d ++ [c]) : Nat) : Int) := by
            rw [wi (10 * _) (by omega) (by omega), wi (c.toNat : Int) (by omega) (by omega), wi (_ + _) (by omega) (by omega), wi (_ - _) (by omega) (by omega), valS_snoc]
            omega
          have e2 : IntKind.i64.wrap ((d.length : Int) + 1) = (((d ++ [c]).length : Nat) : Int) := by rw [wrap1 _ (by omega), List.length_append]; rfl
          rw [e1, e2, wrap1 q (by omega)]
          have hl2 : (d ++ [c]).length = d.length + 1 := by simp
          obtain ⟨j, h4, h5⟩ := rnum_loop n s b most hm3 hs m r (d ++ [c]) _ (by omega) (by omega) (by simp [hd, hc]) h3
          rw [hl2, show most - (d.length + 1) = k by omega, ← hl2] at h4
          rw [hl2, show most - (d.length + 1) = k by omega] at h5
          refine ⟨j, ?_, by simpa using h5⟩
          rw [h4]
          simp
    · rw [cond_neg (by omega)]
      have hz : most - d.length = 0 := by omega
      refine ⟨i, ?_, by simpa [hz, runS] using h⟩
      simp [hz, runS]
theorem rnumber_val (n a b : Nat) (ha : a ≤ 3) (hb : b ≤ 3) {s r : Str} {i : Int} (h : At s r i) (bad : Bool) (hs : s.length < 9223372036854775808) (hn : 5 < n) :
    ∃ j, clepsydraref07_reader_number_f n (a : Int) (b : Int) s i bad = some (((numS a b r).1 : Int), s, j, bad || (numS a b r).2.2) ∧ At s (numS a b r).2.1 j := by
  obtain ⟨j, h1, h2⟩ := rnum_loop n s bad b hb hs n r [] i (by simp; omega) (by simp) (by simp) h
  unfold clepsydraref07_reader_number_f clepsydraref07_reader_number_b
  simp only [List.length_nil, Nat.sub_zero, List.nil_append] at h1 h2
  rw [show (0 : Int) = ((valS [] : Nat) : Int) from rfl]
  change ∃ j, ((clepsydraref07_reader_number_l0 n n (b : Int) ((valS [] : Nat) : Int) ((0 : Nat) : Int) s i bad).bind _) = _ ∧ _
  rw [h1]
  refine ⟨j, ?_, h2⟩
  have hd : decide ((((runS digitB b r).length : Nat) : Int) < (a : Int)) = decide ((runS digitB b r).length < a) := by rw [decide_eq_decide]; omega
  simp only [Option.bind_some, numS, hd]
  cases bad <;> rfl

/-! ### hours -/
theorem rsign_val (n : Nat) {s r : Str} {i : Int} (h : At s r i) (b : Bool) (hs : s.length < 9223372036854775808) :
    ∃ j, clepsydraref07_reader_hours_j2 n 1 s i b = some ((signS r).1, s, j, b) ∧ At s (signS r).2 j := by
  unfold clepsydraref07_reader_hours_j2 clepsydraref07_reader_hours_j2_b signS
  obtain ⟨j, h1, h2⟩ := reat_val n 45 45 h b hs
  rw [h1]
  simp only [Option.bind_some]
  cases he : (eatS 45 r).1 with
  | true => exact ⟨j, rfl, h2⟩
  | false =>
    obtain ⟨q, h3, h4⟩ := reat_val n 43 43 h2 b hs
    simp only [cond_false]
    rw [h3]
    exact ⟨q, rfl, h4⟩
theorem rhours_val (n most : Nat) {s r : Str} {i : Int} (h : At s r i) (b : Bool) (hs : s.length < 9223372036854775808) (hn : 5 < n) :
    ∃ j, clepsydraref07_reader_hours_f n (most : Int) s i b = some ((hoursS most r).1, s, j, b || (hoursS most r).2.2) ∧ At s (hoursS most r).2.1 j := by
  unfold clepsydraref07_reader_hours_f clepsydraref07_reader_hours_b hoursS
  obtain ⟨j1, h1, a1⟩ := rsign_val n h b hs
  rw [h1]
  simp only [Option.bind_some]
  obtain ⟨j2, h2, a2⟩ := rnumber_val n 1 3 (by omega) (by omega) a1 b hs hn
  rw [show clepsydraref07_reader_number_f n (1 : Int) (3 : Int) s j1 b = _ from h2]
  simp only [Option.bind_some]
  have l2 := numS_lt 1 3 (signS r).2 (by omega)
  generalize numS 1 3 (signS r).2 = hh at *
  rw [clepsydraref07_reader_hours_j1, clepsydraref07_reader_hours_j1_b]
  unfold minS
  obtain ⟨j3, h3, a3⟩ := reat_val n 58 58 a2 (b || hh.2.2) hs
  rw [h3]
  simp only [Option.bind_some]
  have sg := signS_or r
  -- what the rest says
  have fin : ∀ (m sc : Nat) (bad : Bool) (j : Int), m < 1000 → sc < 1000 →
      ((clepsydraref07_reader_hours_j0 n (most : Int) (hh.1 : Int) (m : Int) (sc : Int) s j bad).bind fun o127 => some (IntKind.i64.wrap ((signS r).1 * (IntKind.i64.wrap ((IntKind.i64.wrap ((IntKind.i64.wrap ((3600 : Int) * (hh.1 : Int))) + (IntKind.i64.wrap ((60 : Int) * (m : Int))))) + (sc : Int)))), o127.1, o127.2.1, o127.2.2))
      = some ((signS r).1 * (3600 * (hh.1 : Int) + (60 * (m : Int) + (sc : Int))), s, j, bad || decide (most < hh.1) || decide (60 ≤ m) || decide (60 ≤ sc)) := by
    intro m sc bad j hm hsc
    rw [clepsydraref07_reader_hours_j0, clepsydraref07_reader_hours_j0_b]
    have e1 : decide ((hh.1 : Int) > (most : Int)) = decide (most < hh.1) := by rw [decide_eq_decide]; omega
    have e2 : decide ((m : Int) > (59 : Int)) = decide (60 ≤ m) := by rw [decide_eq_decide]; omega
    have e3 : decide ((sc : Int) > (59 : Int)) = decide (60 ≤ sc) := by rw [decide_eq_decide]; omega
    rw [e1, e2, e3, wi (3600 * _) (by omega) (by omega), wi (60 * _) (by omega) (by omega), wi (3600 * (hh.1 : Int) + _) (by omega) (by omega), wi (3600 * (hh.1 : Int) + _ + _) (by omega) (by omega)]
    have e4 : IntKind.i64.wrap ((signS r).1 * (3600 * (hh.1 : Int) + 60 * (m : Int) + (sc : Int))) = (signS r).1 * (3600 * (hh.1 : Int) + (60 * (m : Int) + (sc : Int))) := by
      rcases sg with g | g <;> rw [g, wi _ (by omega) (by omega)] <;> omega
    rw [e4]
    cases bad <;> cases decide (most < hh.1) <;> cases decide (60 ≤ m) <;> cases decide (60 ≤ sc) <;> rfl
  cases he : (eatS 58 hh.2.1).1 with
  | false =>
    simp only [cond_false, Bool.false_eq_true, if_false, Option.bind_some]
    refine ⟨j3, ?_, a3⟩
    rw [show (0 : Int) = ((0 : Nat) : Int) from rfl, fin 0 0 _ _ (by omega) (by omega)]
    simp [Bool.or_assoc]
  | true =>
    simp only [cond_true, if_true]
    obtain ⟨j4, h4, a4⟩ := rnumber_val n 2 2 (by omega) (by omega) a3 (b || hh.2.2) hs hn
    rw [show clepsydraref07_reader_number_f n (2 : Int) (2 : Int) s j3 (b || hh.2.2) = _ from h4]
    simp only [Option.bind_some]
    have l4 := numS_lt 2 2 (eatS 58 hh.2.1).2 (by omega)
    generalize numS 2 2 (eatS 58 hh.2.1).2 = mm at *
    obtain ⟨j5, h5, a5⟩ := reat_val n 58 58 a4 (b || hh.2.2 || mm.2.2) hs
    rw [h5]
    simp only [Option.bind_some]
    cases hf : (eatS 58 mm.2.1).1 with
    | false =>
      simp only [cond_false, Bool.false_eq_true, if_false, Option.bind_some]
      refine ⟨j5, ?_, a5⟩
      rw [show (0 : Int) = ((0 : Nat) : Int) from rfl, fin mm.1 0 _ _ l4 (by omega)]
      cases b <;> cases hh.2.2 <;> cases mm.2.2 <;> cases decide (most < hh.1) <;> cases decide (60 ≤ mm.1) <;> simp
    | true =>
      simp only [cond_true, if_true]
      obtain ⟨j6, h6, a6⟩ := rnumber_val n 2 2 (by omega) (by omega) a5 (b || hh.2.2 || mm.2.2) hs hn
      rw [show clepsydraref07_reader_number_f n (2 : Int) (2 : Int) s j5 (b || hh.2.2 || mm.2.2) = _ from h6]
      simp only [Option.bind_some]
      have l6 := numS_lt 2 2 (eatS 58 mm.2.1).2 (by omega)
      generalize numS 2 2 (eatS 58 mm.2.1).2 = ss at *
      refine ⟨j6, ?_, a6⟩
      rw [fin mm.1 ss.1 _ _ l4 l6]
      cases b <;> cases hh.2.2 <;> cases mm.2.2 <;> cases ss.2.2 <;> cases decide (most < hh.1) <;> cases decide (60 ≤ mm.1) <;> cases decide (60 ≤ ss.1) <;> rfl

theorem rday_val (n : Nat) {s r : Str} {i : Int} (h : At s r i) (b : Bool) (hs : s.length < 9223372036854775808) (hn : 5 < n) :
    ∃ j, clepsydraref07_reader_day_f n s i b = some ((dayS r).1.k, (dayS r).1.m, (dayS r).1.w, (dayS r).1.d, (dayS r).1.t, s, j, b || (dayS r).2.2 || !dayOK (dayS r).1) ∧ At s (dayS r).2.1 j := by
  have num : ∀ {r : Str} {i : Int} (h : At s r i) (bad : Bool), ∃ j, clepsydraref07_reader_number_f n (1 : Int) (3 : Int) s i bad = some (((numS 1 3 r).1 : Int), s, j, bad || (numS 1 3 r).2.2) ∧ At s (numS 1 3 r).2.1 j := fun h bad => rnumber_val n 1 3 (by omega) (by omega) h bad hs hn
  have tail : ∀ (k m w : Int) (r : Str) (d : Nat) (i : Int) (bad bad0 : Bool) (dd : Nat × Str × Bool), dd = numS 1 3 r → At s dd.2.1 i →
      ∃ j, ((clepsydraref07_reader_day_j0 n s i (b || bad || dd.2.2) 0 0 0 0 0 k m w dd.1 7200).bind fun o147 => cond o147.2.2.1 (some (o147.2.2.2.2.2.2.2.2.1, o147.2.2.2.2.2.2.2.2.2.1, o147.2.2.2.2.2.2.2.2.2.2.1, o147.2.2.2.2.2.2.2.2.2.2.2.1, o147.2.2.2.2.2.2.2.2.2.2.2.2, o147.1, o147.2.1, true)) ((clepsydraref07_day_f n o147.2.2.2.2.2.2.2.2.1 o147.2.2.2.2.2.2.2.2.2.1 o147.2.2.2.2.2.2.2.2.2.2.1 o147.2.2.2.2.2.2.2.2.2.2.2.1 o147.2.2.2.2.2.2.2.2.2.2.2.2).bind fun o149 => some (o147.2.2.2.2.2.2.2.2.1, o147.2.2.2.2.2.2.2.2.2.1, o147.2.2.2.2.2.2.2.2.2.2.1, o147.2.2.2.2.2.2.2.2.2.2.2.1, o147.2.2.2.2.2.2.2.2.2.2.2.2, o147.1, o147.2.1, !o149)))
      = some ((dayTail k m w r bad).1.k, (dayTail k m w r bad).1.m, (dayTail k m w r bad).1.w, (dayTail k m w r bad).1.d, (dayTail k m w r bad).1.t, s, j, b || (dayTail k m w r bad).2.2 || !dayOK (dayTail k m w r bad).1) ∧ At s (dayTail k m w r bad).2.1 j := by
    intro k m w r d i bad bad0 dd hdd a
    subst hdd
    unfold dayTail
    rw [clepsydraref07_reader_day_j0, clepsydraref07_reader_day_j0_b]
    obtain ⟨j1, h1, a1⟩ := reat_val n 47 47 a (b || bad || (numS 1 3 r).2.2) hs
    rw [h1]
    simp only [Option.bind_some]
    cases he : (eatS 47 (numS 1 3 r).2.1).1 with
    | true =>
      obtain ⟨j2, h2, a2⟩ := rhours_val n 167 a1 (b || bad || (numS 1 3 r).2.2) hs hn
      simp only [cond_true, if_true]
      rw [show clepsydraref07_reader_hours_f n (167 : Int) s j1 (b || bad || (numS 1 3 r).2.2) = _ from h2]
      simp only [Option.bind_some, rdayF_val]
      refine ⟨j2, ?_, a2⟩
      generalize dayOK _ = ok
      cases b <;> cases bad <;> cases (numS 1 3 r).2.2 <;> cases (hoursS 167 (eatS 47 (numS 1 3 r).2.1).2).2.2 <;> cases ok <;> rfl
    | false =>
      simp only [cond_false, Bool.false_eq_true, if_false, Option.bind_some, rdayF_val]
      refine ⟨j1, ?_, a1⟩
      generalize dayOK _ = ok
      cases b <;> cases bad <;> cases (numS 1 3 r).2.2 <;> cases ok <;> rfl
  unfold clepsydraref07_reader_day_f clepsydraref07_reader_day_b dayS
  rw [clepsydraref07_reader_day_j1, clepsydraref07_reader_day_j1_b]
  obtain ⟨j1, h1, a1⟩ := reat_val n 74 74 h b hs
  rw [h1]
  simp only [Option.bind_some]
  cases he : (eatS 74 r).1 with
  | true =>
    obtain ⟨j2, h2, a2⟩ := num a1 b
    simp only [cond_true, if_true]
    rw [h2]
    simp only [Option.bind_some]
    have := tail 1 0 0 _ 0 j2 false false _ rfl a2
    rw [Bool.or_false] at this
    exact this
  | false =>
    simp only [cond_false, Bool.false_eq_true, if_false]
    obtain ⟨j2, h2, a2⟩ := reat_val n 77 77 a1 b hs
    rw [h2]
    simp only [Option.bind_some]
    cases hf : (eatS 77 (eatS 74 r).2).1 with
    | false =>
      obtain ⟨j3, h3, a3⟩ := num a2 b
      simp only [cond_false, Bool.false_eq_true, if_false]
      rw [h3]
      simp only [Option.bind_some]
      have := tail 2 0 0 _ 0 j3 false false _ rfl a3
      rw [Bool.or_false] at this
      exact this
    | true =>
      simp only [cond_true, if_true]
      obtain ⟨j3, h3, a3⟩ := num a2 b
      rw [h3]
      simp only [Option.bind_some]
      obtain ⟨j4, h4, a4⟩ := rmust_val n 46 46 a3 (b || (numS 1 3 (eatS 77 (eatS 74 r).2).2).2.2) hs
      rw [h4]
      simp only [Option.bind_some]
      obtain ⟨j5, h5, a5⟩ := num a4 (b || (numS 1 3 (eatS 77 (eatS 74 r).2).2).2.2 || !(eatS 46 (numS 1 3 (eatS 77 (eatS 74 r).2).2).2.1).1)
      rw [h5]
      simp only [Option.bind_some]
      obtain ⟨j6, h6, a6⟩ := rmust_val n 46 46 a5 (b || (numS 1 3 (eatS 77 (eatS 74 r).2).2).2.2 || !(eatS 46 (numS 1 3 (eatS 77 (eatS 74 r).2).2).2.1).1 || (numS 1 3 (eatS 46 (numS 1 3 (eatS 77 (eatS 74 r).2).2).2.1).2).2.2) hs
      rw [h6]
      simp only [Option.bind_some]
      obtain ⟨j7, h7, a7⟩ := num a6 (b || (numS 1 3 (eatS 77 (eatS 74 r).2).2).2.2 || !(eatS 46 (numS 1 3 (eatS 77 (eatS 74 r).2).2).2.1).1 || (numS 1 3 (eatS 46 (numS 1 3 (eatS 77 (eatS 74 r).2).2).2.1).2).2.2 || !(eatS 46 (numS 1 3 (eatS 46 (numS 1 3 (eatS 77 (eatS 74 r).2).2).2.1).2).2.1).1)
      rw [h7]
      simp only [Option.bind_some]
      have := tail 3 (numS 1 3 (eatS 77 (eatS 74 r).2).2).1 (numS 1 3 (eatS 46 (numS 1 3 (eatS 77 (eatS 74 r).2).2).2.1).2).1 _ 0 j7 ((numS 1 3 (eatS 77 (eatS 74 r).2).2).2.2 || !(eatS 46 (numS 1 3 (eatS 77 (eatS 74 r).2).2).2.1).1 || (numS 1 3 (eatS 46 (numS 1 3 (eatS 77 (eatS 74 r).2).2).2.1).2).2.2 || !(eatS 46 (numS 1 3 (eatS 46 (numS 1 3 (eatS 77 (eatS 74 r).2).2).2.1).2).2.1).1) false _ rfl a7
      simp only [← Bool.or_assoc] at this ⊢
      exact this
end Go.Proofs.YtpooncihlnllnaaDoor.H

/- Chapter 07: a rule's text is no longer than what it was read of. -/
import Derived.Test.YtpooncihlnllnaaDoorU9
namespace Go.Proofs.YtpooncihlnllnaaDoor.H
open Go.Sh Go.RowKit
set_option linter.unusedSimpArgs false
set_option linter.unusedVariables false

theorem dec_le : ∀ (k a : Nat), a < 10 ^ (k + 1) → (Lib.decDigits a).length ≤ k + 1
  | 0, a, h => by rw [decD, if_pos (by omega)]; simp
  | k + 1, a, h => by
    rw [decD]
    by_cases h0 : a / 10 = 0
    · rw [if_pos h0]; simp
    · have hp : (10 : Nat) ^ (k + 1 + 1) = 10 ^ (k + 1) * 10 := Nat.pow_succ ..
      have := dec_le k (a / 10) (by omega)
      rw [if_neg h0, List.length_append]
      simp only [List.length_cons, List.length_nil]
      omega
theorem num_short (a b : Nat) (hb : b ≤ 18) (ha : 1 ≤ a) (r : Str) (h : (numS a b r).2.2 = false) : (Lib.decDigits (numS a b r).1).length + (numS a b r).2.1.length ≤ r.length ∧ (numS a b r).2.1.length + a ≤ r.length := by
  have h1 := runS_len digitB b r
  have h2 := valS_lt (runS digitB b r) (by omega) (runS_all _ _ _)
  unfold numS at h ⊢
  dsimp only at h ⊢
  simp only [decide_eq_false_iff_not, Nat.not_lt] at h
  obtain ⟨k, hk⟩ : ∃ k, (runS digitB b r).length = k + 1 := ⟨(runS digitB b r).length - 1, by omega⟩
  rw [hk] at h2
  have h3 := dec_le k _ h2
  simp only [List.length_drop]
  omega
theorem eat_short {c : UInt8} {r : Str} (h : (eatS c r).1 = true) : (eatS c r).2.length + 1 = r.length := by
  cases r with
  | nil => simp [eatS] at h
  | cons x t =>
    by_cases hx : x = c
    · simp [eatS, hx]
    · simp [eatS, hx] at h
theorem minT_len (a : Nat) : (minT a).length ≤ 6 ∧ (a % 60 = 0 → (minT a).length ≤ 3) ∧ (a % 3600 = 0 → (minT a).length = 0) := by
  unfold minT
  refine ⟨?_, ?_, ?_⟩
  · split <;> split <;> simp [two]
  · intro h
    rw [if_pos h]
    split <;> simp [two]
  · intro h
    rw [if_pos h, if_pos (by omega)]
    rfl
theorem min_short (r : Str) (h : (minS r).2.2 = false) (q a : Nat) (ha : (a : Int) = 3600 * (q : Int) + (minS r).1) : (minT a).length + (minS r).2.1.length ≤ r.length ∧ a % 3600 + 3600 * q = a := by
  obtain ⟨l1, l2, l3⟩ := minT_len a
  revert h ha
  unfold minS
  dsimp only
  by_cases h1 : (eatS 58 r).1 = true
  · have e1 := eat_short h1
    rw [if_pos h1]
    by_cases h2 : (eatS 58 (numS 2 2 (eatS 58 r).2).2.1).1 = true
    · have e2 := eat_short h2
      rw [if_pos h2]
      dsimp only
      intro h ha
      simp only [Bool.or_eq_false_iff, decide_eq_false_iff_not, Nat.not_le] at h
      obtain ⟨⟨⟨g1, g2⟩, g3⟩, g4⟩ := h
      have n1 := (num_short 2 2 (by omega) (by omega) _ g1).2
      have n2 := (num_short 2 2 (by omega) (by omega) _ g3).2
      omega
    · rw [if_neg h2]
      dsimp only
      intro h ha
      simp only [Bool.or_eq_false_iff, decide_eq_false_iff_not, Nat.not_le] at h
      have n1 := (num_short 2 2 (by omega) (by omega) _ h.1).2
      have e2 := eatS_len 58 (numS 2 2 (eatS 58 r).2).2.1
      have := l2 (by omega)
      omega
  · rw [if_neg h1]
    dsimp only
    intro h ha
    have e1 := eatS_len 58 r
    have := l3 (by omega)
    omega
theorem sign_short (r : Str) : (signS r).2.length ≤ r.length ∧ ((signS r).1 = -1 → (signS r).2.length + 1 ≤ r.length) := by
  refine ⟨signS_len r, ?_⟩
  unfold signS
  dsimp only
  by_cases h1 : (eatS 45 r).1 = true
  · have := eat_short h1
    rw [if_pos h1]
    dsimp only
    omega
  · rw [if_neg h1]
    dsimp only
    omega
theorem hours_short (most : Nat) (r : Str) (h : (hoursS most r).2.2 = false) : (hoursT (hoursS most r).1).length + (hoursS most r).2.1.length ≤ r.length := by
  have s1 := sign_short r
  have so := signS_or r
  unfold hoursS at h ⊢
  dsimp only at h ⊢
  simp only [Bool.or_eq_false_iff, decide_eq_false_iff_not, Nat.not_lt] at h
  obtain ⟨⟨g1, g2⟩, g3⟩ := h
  have n1 := (num_short 1 3 (by omega) (by omega) _ g1).1
  have m0 := minS_lt (numS 1 3 (signS r).2).2.1
  generalize hq : (numS 1 3 (signS r).2) = hh at *
  obtain ⟨a, ha⟩ : ∃ a : Nat, (a : Int) = 3600 * (hh.1 : Int) + (minS hh.2.1).1 := ⟨(3600 * (hh.1 : Int) + (minS hh.2.1).1).toNat, by omega⟩
  have m1 := min_short hh.2.1 g3 hh.1 a ha
  have hd : a / 3600 = hh.1 := by omega
  have hT : (hourT a).length = (Lib.decDigits hh.1).length + (minT a).length := by rw [hourT_eq, List.length_append, hd]
  rw [← ha]
  rcases so with g | g
  · rw [g]
    have := s1.2 g
    unfold hoursT
    rw [show (-1 * (a : Int)).natAbs = a by omega]
    split
    · simp only [List.length_cons]; omega
    · omega
  · rw [g]
    unfold hoursT
    rw [show (1 * (a : Int)).natAbs = a by omega, if_neg (by omega)]
    omega
theorem name_short (r : Str) (h : (nameS r).2.2 = false) : (putT (nameS r).1).length + (nameS r).2.1.length ≤ r.length := by
  revert h
  unfold nameS
  dsimp only
  by_cases h1 : (eatS 60 r).1 = true
  · have e1 := eat_short h1
    rw [if_pos h1]
    dsimp only
    intro h
    simp only [Bool.or_eq_false_iff, Bool.not_eq_eq_eq_not, Bool.not_false] at h
    have e2 := eat_short h.1
    have l1 := runS_len openB (eatS 60 r).2.length (eatS 60 r).2
    have l2 := putT_len (runS openB (eatS 60 r).2.length (eatS 60 r).2)
    simp only [List.length_drop] at e2
    omega
  · rw [if_neg h1]
    dsimp only
    intro h
    have e1 := eatS_len 60 r
    have l1 := runS_len letterB (eatS 60 r).2.length (eatS 60 r).2
    have : putT (runS letterB (eatS 60 r).2.length (eatS 60 r).2) = runS letterB (eatS 60 r).2.length (eatS 60 r).2 := by
      unfold putT
      rw [if_pos (runS_all _ _ _)]
    rw [this, List.length_drop]
    omega
theorem off_short (off : Int) (r : Str) (h : (offS off r).2.2 = false) : (offT off (offS off r).1).length + (offS off r).2.1.length ≤ r.length := by
  revert h
  unfold offS
  by_cases h1 : r.head? = some 44
  · rw [if_pos h1]
    dsimp only
    intro h
    unfold offT
    rw [if_pos rfl]
    simp
  · rw [if_neg h1]
    dsimp only
    intro h
    have := hours_short 24 r h
    have hl : (offT off (-(hoursS 24 r).1)).length ≤ (hoursT (hoursS 24 r).1).length := by
      unfold offT
      split
      · simp
      · rw [Int.neg_neg]; exact Nat.le_refl _
    omega
/-- What is behind a day's number. -/
def timeT (t : Int) : Str := if t = 7200 then [] else 47 :: hoursT t
theorem dayTail_short (k m w : Int) (r : Str) (bad : Bool) (h : (dayTail k m w r bad).2.2 = false) :
    bad = false ∧ ∃ a : Nat, (dayTail k m w r bad).1 = ⟨k, m, w, a, (dayTail k m w r bad).1.t⟩ ∧ (Lib.decDigits a).length + (timeT (dayTail k m w r bad).1.t).length + (dayTail k m w r bad).2.1.length ≤ r.length := by
  revert h
  unfold dayTail
  dsimp only
  by_cases h1 : (eatS 47 (numS 1 3 r).2.1).1 = true
  · have e1 := eat_short h1
    rw [if_pos h1]
    dsimp only
    intro h
    simp only [Bool.or_eq_false_iff] at h
    obtain ⟨⟨g1, g2⟩, g3⟩ := h
    have n1 := (num_short 1 3 (by omega) (by omega) _ g2).1
    have n2 := hours_short 167 _ g3
    refine ⟨g1, _, rfl, ?_⟩
    have : (timeT (hoursS 167 (eatS 47 (numS 1 3 r).2.1).2).1).length ≤ (hoursT (hoursS 167 (eatS 47 (numS 1 3 r).2.1).2).1).length + 1 := by
      unfold timeT
      split
      · simp
      · simp
    omega
  · rw [if_neg h1]
    dsimp only
    intro h
    simp only [Bool.or_eq_false_iff] at h
    have n1 := (num_short 1 3 (by omega) (by omega) _ h.2).1
    have e1 := eatS_len 47 (numS 1 3 r).2.1
    refine ⟨h.1, _, rfl, ?_⟩
    simp only [timeT, if_true, List.length_nil]
    omega
theorem day_short (r : Str) (h : (dayS r).2.2 = false) : (dayT (dayS r).1).length + (dayS r).2.1.length ≤ r.length := by
  revert h
  unfold dayS
  dsimp only
  have hT : ∀ d : DayV, (dayT d).length = (headT d).length + (timeT d.t).length := fun d => by unfold dayT timeT; rw [List.length_append]
  by_cases h1 : (eatS 74 r).1 = true
  · have e1 := eat_short h1
    rw [if_pos h1]
    intro h
    obtain ⟨_, a, g1, g2⟩ := dayTail_short _ _ _ _ _ h
    rw [hT, g1]
    simp only [headT, if_true, List.length_cons, Int.toNat_natCast]
    omega
  · rw [if_neg h1]
    have e1 := eatS_len 74 r
    by_cases h2 : (eatS 77 (eatS 74 r).2).1 = true
    · have e2 := eat_short h2
      rw [if_pos h2]
      intro h
      obtain ⟨g0, a, g1, g2⟩ := dayTail_short _ _ _ _ _ h
      simp only [Bool.or_eq_false_iff, Bool.not_eq_eq_eq_not, Bool.not_false] at g0
      obtain ⟨⟨⟨b1, b2⟩, b3⟩, b4⟩ := g0
      have n1 := (num_short 1 3 (by omega) (by omega) _ b1).1
      have n2 := eat_short b2
      have n3 := (num_short 1 3 (by omega) (by omega) _ b3).1
      have n4 := eat_short b4
      rw [hT, g1]
      simp only [headT, if_true, List.length_cons, List.length_append, Int.toNat_natCast, show ¬ ((3 : Int) = 1) by omega, if_false]
      omega
    · rw [if_neg h2]
      have e2 := eatS_len 77 (eatS 74 r).2
      intro h
      obtain ⟨_, a, g1, g2⟩ := dayTail_short _ _ _ _ _ h
      rw [hT, g1]
      simp only [headT, Int.toNat_natCast, show ¬ ((2 : Int) = 1) by omega, show ¬ ((2 : Int) = 3) by omega, if_false]
      omega
theorem read_short (s : Str) (h : (readS s).2.2 = false) : (textT (readS s).1).length + (readS s).2.1.length ≤ s.length := by
  revert h
  unfold readS
  dsimp only
  by_cases h1 : (hoursS 24 (nameS s).2.1).2.1 = []
  · rw [if_pos h1]
    dsimp only
    intro h
    simp only [Bool.or_eq_false_iff] at h
    have n1 := name_short s h.1
    have n2 := hours_short 24 _ h.2
    unfold textT
    simp only [if_true, List.append_nil, List.length_append, List.length_nil, Int.neg_neg]
    omega
  · rw [if_neg h1]
    intro h
    generalize hr : (hoursS 24 (nameS s).2.1).2.1 = r at *
    unfold restS at h ⊢
    dsimp only at h ⊢
    simp only [Bool.or_eq_false_iff, Bool.not_eq_eq_eq_not, Bool.not_false] at h
    obtain ⟨⟨⟨⟨⟨⟨⟨b1, b2⟩, b3⟩, b4⟩, b5⟩, b6⟩, b7⟩, b8⟩ := h
    have n1 := name_short s b1
    have n2 := hours_short 24 _ b2
    rw [hr] at n2
    have n3 := name_short r b3
    have n4 := off_short _ _ b4
    have n5 := eat_short b5
    have n6 := day_short _ b6
    have n7 := eat_short b7
    have n8 := day_short _ b8
    have hne : ¬ (nameS r).1 = [] := by
      intro hz
      have := nameS_bad r b3
      rw [hz, isName_nil] at this
      cases this
    unfold textT
    dsimp only
    rw [if_neg hne, Int.neg_neg]
    simp only [List.length_append, List.length_cons]
    omega
theorem ruleS_right {s : Str} {y : RuleV} (h : ruleS s = some y) : rightS y = true ∧ (textT y).length ≤ s.length := by
  unfold ruleS at h
  split at h
  · cases h
  · dsimp only at h
    split at h
    · rename_i hx
      injection h with h
      have := read_short s hx.1
      rw [h] at this hx
      exact ⟨hx.2.2, by omega⟩
    · cases h
end Go.Proofs.YtpooncihlnllnaaDoor.H

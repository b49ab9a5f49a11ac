import Derived.Test.YtpooncihlnllnaaGreatDoorMC
import Derived.Test.YtpooncihlnllnaaGreatDoorT0c
/- Chapter 07: what is written is read back. -/
namespace Go.Proofs.YtpooncihlnllnaaGreatDoor.H
open Go.Sh Go.RowKit
set_option linter.unusedSimpArgs false
set_option linter.unusedVariables false

/-- What follows is not such a byte. -/
def Off (p : UInt8 → Bool) (r : Str) : Prop := ∀ c t, r = c :: t → p c = false
theorem Off.nil (p : UInt8 → Bool) : Off p [] := fun c t h => by cases h
theorem Off.cons {p : UInt8 → Bool} {c : UInt8} (h : p c = false) (t : Str) : Off p (c :: t) := fun c' t' e => by injection e with e _; subst e; exact h
theorem runS_stop (p : UInt8 → Bool) (k : Nat) (w r : Str) (hw : w.all p = true) (hl : w.length ≤ k) (h : w.length = k ∨ Off p r) : runS p k (w ++ r) = w := by
  unfold runS
  rw [List.take_append, List.take_of_length_le hl, List.takeWhile_append_of_pos (by simpa using hw)]
  have : (r.take (k - w.length)).takeWhile p = [] := by
    rcases h with h | h
    · simp [h]
    · cases r with
      | nil => simp
      | cons c t =>
        cases k - w.length with
        | zero => simp
        | succ q => rw [List.take_succ_cons, List.takeWhile_cons_of_neg (by rw [h c t rfl]; simp)]
  rw [this, List.append_nil]
theorem eat_hit (c : UInt8) (r : Str) : eatS c (c :: r) = (true, r) := by simp [eatS]
theorem eat_miss {c : UInt8} {r : Str} (h : Off (· == c) r) : eatS c r = (false, r) := by
  cases r with
  | nil => rfl
  | cons x t =>
    have := h x t rfl
    simp only [beq_eq_false_iff_ne, ne_eq] at this
    simp [eatS, this]

/-! ### numbers -/
theorem digC_dig (a : Nat) (h : a < 10) : digitB (digC a) = true ∧ (digC a).toNat = 48 + a := by
  match a, h with
  | 0, _ => exact ⟨rfl, rfl⟩ | 1, _ => exact ⟨rfl, rfl⟩ | 2, _ => exact ⟨rfl, rfl⟩ | 3, _ => exact ⟨rfl, rfl⟩ | 4, _ => exact ⟨rfl, rfl⟩
  | 5, _ => exact ⟨rfl, rfl⟩ | 6, _ => exact ⟨rfl, rfl⟩ | 7, _ => exact ⟨rfl, rfl⟩ | 8, _ => exact ⟨rfl, rfl⟩ | 9, _ => exact ⟨rfl, rfl⟩
theorem dec_all (a : Nat) : (Lib.decDigits a).all digitB = true ∧ valS (Lib.decDigits a) = a ∧ Lib.decDigits a ≠ [] := by
  induction a using Nat.strongRecOn with
  | _ a ih =>
    have hm := digC_dig (a % 10) (Nat.mod_lt _ (by omega))
    rw [decD]
    by_cases h : a / 10 = 0
    · rw [if_pos h]
      refine ⟨by simp [hm.1], ?_, by simp⟩
      rw [valS_snoc, hm.2]
      show valS [] * 10 + _ = _
      have : valS [] = 0 := rfl
      omega
    · rw [if_neg h]
      obtain ⟨h1, h2, h3⟩ := ih (a / 10) (by omega)
      refine ⟨by simp only [List.all_append, h1, Bool.true_and]; simp [hm.1], ?_, by simp⟩
      rw [valS_snoc, h2, hm.2]
      omega
theorem two_all (a : Nat) (h : a < 100) : (two a).all digitB = true ∧ valS (two a) = a := by
  have h1 := digC_dig (a / 10) (by omega)
  have h2 := digC_dig (a % 10) (by omega)
  refine ⟨by simp [two, h1.1, h2.1], ?_⟩
  simp only [two, valS, List.foldl_cons, List.foldl_nil, h1.2, h2.2]
  omega
theorem drop_app (w r : Str) : (w ++ r).drop w.length = r := List.drop_left
theorem num_dec (a : Nat) (h : a < 1000) (r : Str) (hr : Off digitB r) : numS 1 3 (Lib.decDigits a ++ r) = (a, r, false) := by
  obtain ⟨h1, h2, h3⟩ := dec_all a
  have hl := decLen a h
  unfold numS
  rw [runS_stop digitB 3 _ r h1 hl (.inr hr)]
  dsimp only
  rw [h2, drop_app]
  have : 0 < (Lib.decDigits a).length := List.length_pos_iff.2 h3
  simp only [Prod.mk.injEq, decide_eq_false_iff_not, true_and]
  omega
theorem num_two (a : Nat) (h : a < 100) (r : Str) : numS 2 2 (two a ++ r) = (a, r, false) := by
  obtain ⟨h1, h2⟩ := two_all a h
  unfold numS
  rw [runS_stop digitB 2 _ r h1 (by simp [two]) (.inl rfl)]
  dsimp only
  rw [h2, drop_app]
  rfl

/-! ### hours -/
/-- No byte that a number or hours go on with. -/
def endB (c : UInt8) : Bool := digitB c || c == 58
theorem Off.mono {p q : UInt8 → Bool} {r : Str} (h : Off p r) (hpq : ∀ c, q c = true → p c = true) : Off q r := fun c t e => by
  have := h c t e
  cases hq : q c with
  | false => rfl
  | true => rw [hpq c hq] at this; cases this
theorem Off.dig {r : Str} (h : Off endB r) : Off digitB r := h.mono fun c hc => by simp [endB, hc]
theorem Off.colon {r : Str} (h : Off endB r) : Off (· == 58) r := h.mono fun c hc => by simp at hc; simp [endB, hc]
def minT (a : Nat) : Str := (if a % 3600 = 0 then [] else 58 :: two (a / 60 % 60)) ++ (if a % 60 = 0 then [] else 58 :: two (a % 60))
theorem hourT_eq (a : Nat) : hourT a = Lib.decDigits (a / 3600) ++ minT a := by simp [hourT, minT, List.append_assoc]
theorem min_read (a : Nat) (r : Str) (hr : Off endB r) : minS (minT a ++ r) = (((a % 3600 : Nat) : Int), r, false) := by
  unfold minT minS
  by_cases h1 : a % 3600 = 0
  · have h2 : a % 60 = 0 := by omega
    rw [if_pos h1, if_pos h2]
    simp only [List.nil_append, eat_miss hr.colon]
    simp [h1]
  · rw [if_neg h1]
    by_cases h2 : a % 60 = 0
    · rw [if_pos h2]
      simp only [List.append_nil, List.cons_append, eat_hit, num_two (a / 60 % 60) (by omega), eat_miss hr.colon]
      simp only [if_true, Bool.false_eq_true, if_false, Bool.false_or, Prod.mk.injEq, true_and, decide_eq_false_iff_not]
      omega
    · rw [if_neg h2]
      simp only [List.cons_append, List.append_assoc, eat_hit, num_two (a / 60 % 60) (by omega), num_two (a % 60) (by omega)]
      simp only [if_true, Bool.false_eq_true, if_false, Bool.false_or, Bool.or_false, Prod.mk.injEq, true_and, Bool.or_eq_false_iff, decide_eq_false_iff_not]
      omega
theorem minT_off (a : Nat) (r : Str) (hr : Off endB r) : Off digitB (minT a ++ r) := by
  unfold minT
  by_cases h1 : a % 3600 = 0
  · have h2 : a % 60 = 0 := by omega
    rw [if_pos h1, if_pos h2]
    exact hr.dig
  · rw [if_neg h1]
    exact Off.cons rfl _
theorem hour_read (a most : Nat) (h : a / 3600 ≤ most) (hm : most < 1000) (r : Str) (hr : Off endB r) : ∃ q, numS 1 3 (hourT a ++ r) = (a / 3600, q, false) ∧ minS q = (((a % 3600 : Nat) : Int), r, false) := by
  refine ⟨minT a ++ r, ?_, min_read a r hr⟩
  rw [hourT_eq, List.append_assoc]
  exact num_dec _ (by omega) _ (minT_off a r hr)
theorem hourT_cons (a : Nat) (r : Str) : ∃ c t, hourT a ++ r = c :: t ∧ digitB c = true := by
  obtain ⟨h1, _, h3⟩ := dec_all (a / 3600)
  rw [hourT_eq]
  cases hd : Lib.decDigits (a / 3600) with
  | nil => exact absurd hd h3
  | cons c t =>
    rw [hd] at h1
    simp only [List.all_cons, Bool.and_eq_true] at h1
    exact ⟨c, _, rfl, h1.1⟩
theorem dig_off {c : UInt8} {t : Str} (h : digitB c = true) (x : UInt8) (hx : digitB x = false) : Off (· == x) (c :: t) := Off.cons (by
  cases hc : c == x with
  | false => rfl
  | true =>
    simp only [beq_iff_eq] at hc
    subst hc
    rw [h] at hx
    cases hx) t
theorem hours_read (x : Int) (most : Nat) (h : x.natAbs / 3600 ≤ most) (hm : most < 1000) (r : Str) (hr : Off endB r) : hoursS most (hoursT x ++ r) = (x, r, false) := by
  obtain ⟨q, h1, h2⟩ := hour_read x.natAbs most h hm r hr
  have hsg : signS (hoursT x ++ r) = (if x < 0 then -1 else 1, hourT x.natAbs ++ r) := by
    unfold signS hoursT
    by_cases hx : x < 0
    · rw [if_pos hx, if_pos hx, List.cons_append]
      simp only [eat_hit, if_true]
    · rw [if_neg hx, if_neg hx]
      obtain ⟨c, t, e, hc⟩ := hourT_cons x.natAbs r
      rw [e]
      simp only [eat_miss (dig_off hc 45 rfl), eat_miss (dig_off hc 43 rfl), Bool.false_eq_true, if_false]
  unfold hoursS
  rw [hsg]
  simp only [h1, h2]
  have hb : decide (most < x.natAbs / 3600) = false := by rw [decide_eq_false_iff_not]; omega
  rw [hb]
  by_cases hx : x < 0
  · rw [if_pos hx]
    simp only [Bool.or_false, Prod.mk.injEq, and_true]
    omega
  · rw [if_neg hx]
    simp only [Bool.or_false, Prod.mk.injEq, and_true]
    omega
theorem hoursT_cons (x : Int) (r : Str) : ∃ c t, hoursT x ++ r = c :: t ∧ (digitB c = true ∨ c = 45) := by
  unfold hoursT
  split
  · exact ⟨45, _, rfl, .inr rfl⟩
  · obtain ⟨c, t, e, hc⟩ := hourT_cons x.natAbs r
    exact ⟨c, t, e, .inl hc⟩

/-! ### names -/
theorem nameB_open (c : UInt8) (h : nameB c = true) : openB c = true := by
  have := byte_all (p := fun x => nameB (UInt8.ofNat x) = true → openB (UInt8.ofNat x) = true) (by decide +kernel) c
  rw [UInt8.ofNat_toNat] at this
  exact this h
theorem letter_open (c : UInt8) (h : letterB c = true) : (fun x : UInt8 => x == 60) c = false := by
  show (c == 60) = false
  have := byte_all (p := fun x => letterB (UInt8.ofNat x) = true → (UInt8.ofNat x == 60) = false) (by decide +kernel) c
  rw [UInt8.ofNat_toNat] at this
  exact this h
theorem name_read (s : Str) (h : isName s = true) (r : Str) (hr : Off letterB r) : nameS (putT s ++ r) = (s, r, false) := by
  obtain ⟨h1, h2, h3⟩ := isName_len h
  unfold putT nameS
  by_cases hl : s.all letterB = true
  · rw [if_pos hl]
    cases s with
    | nil => simp at h1
    | cons c t =>
      have hc : letterB c = true := by simp only [List.all_cons, Bool.and_eq_true] at hl; exact hl.1
      have he : eatS 60 (c :: t ++ r) = (false, c :: t ++ r) := eat_miss (Off.cons (p := fun x => x == 60) (c := c) (letter_open c hc) _)
      simp only [he, Bool.false_eq_true, if_false]
      rw [runS_stop letterB _ (c :: t) r hl (by simp) (.inr hr), drop_app, h]
      rfl
  · rw [if_neg hl]
    have ho : s.all openB = true := by
      rw [List.all_eq_true] at h3 ⊢
      exact fun c hc => nameB_open c (h3 c hc)
    simp only [List.cons_append, eat_hit, if_true, List.append_assoc]
    rw [runS_stop openB _ s _ ho (by simp) (.inr (Off.cons rfl _)), drop_app]
    simp only [List.cons_append, List.nil_append, eat_hit, h]
    rfl

/-! ### days -/
/-- What may follow a day. -/
def tailB (c : UInt8) : Bool := endB c || c == 47
theorem Off.fin {r : Str} (h : Off tailB r) : Off endB r := h.mono fun c hc => by simp [tailB, hc]
theorem Off.slash {r : Str} (h : Off tailB r) : Off (· == 47) r := h.mono fun c hc => by simp at hc; simp [tailB, hc]
theorem dayTail_read (k m w : Int) (a : Nat) (ha : a < 1000) (t : Int) (ht : t.natAbs ≤ 604799) (r : Str) (hr : Off tailB r) :
    dayTail k m w (Lib.decDigits a ++ ((if t = 7200 then [] else 47 :: hoursT t) ++ r)) false = (⟨k, m, w, a, t⟩, r, false) := by
  unfold dayTail
  by_cases h : t = 7200
  · rw [if_pos h, List.nil_append, num_dec a ha r hr.fin.dig]
    simp only [eat_miss hr.slash, Bool.false_eq_true, if_false, Bool.or_false, h]
  · rw [if_neg h, List.cons_append, num_dec a ha _ (Off.cons rfl _)]
    simp only [eat_hit, if_true, hours_read t 167 (by omega) (by omega) r hr.fin, Bool.or_false]
theorem day_read (d : DayV) (h : dayOK d = true) (r : Str) (hr : Off tailB r) : dayS (dayT d ++ r) = (d, r, false) := by
  have hb := dayOK_of h
  obtain ⟨k, m, w, dd, t⟩ := d
  dsimp only at hb
  obtain ⟨a, rfl⟩ : ∃ a : Nat, dd = (a : Int) := ⟨dd.toNat, by omega⟩
  have h0 : m = 0 ∧ w = 0 ∨ k = 3 := by
    unfold dayOK at h
    dsimp only at h
    by_cases h1 : k = 1
    · rw [if_pos h1] at h
      simp only [Bool.and_eq_true, decide_eq_true_eq] at h
      exact .inl ⟨h.2.1.1.1, h.2.1.1.2⟩
    · by_cases h2 : k = 2
      · rw [if_neg h1, if_pos h2] at h
        simp only [Bool.and_eq_true, decide_eq_true_eq] at h
        exact .inl ⟨h.2.1.1.1, h.2.1.1.2⟩
      · exact .inr (by omega)
  unfold dayT headT dayS
  dsimp only
  by_cases h1 : k = 1
  · subst h1
    obtain ⟨rfl, rfl⟩ : m = 0 ∧ w = 0 := by omega
    simp only [if_true, List.cons_append, eat_hit, List.append_assoc, Int.toNat_natCast]
    exact dayTail_read 1 0 0 a (by omega) t (by omega) r hr
  · rw [if_neg h1]
    by_cases h3 : k = 3
    · subst h3
      obtain ⟨b, rfl⟩ : ∃ b : Nat, m = (b : Int) := ⟨m.toNat, by omega⟩
      obtain ⟨c, rfl⟩ : ∃ c : Nat, w = (c : Int) := ⟨w.toNat, by omega⟩
      simp only [if_true, List.cons_append, List.append_assoc, Int.toNat_natCast]
      rw [eat_miss (Off.cons rfl _)]
      simp only [Bool.false_eq_true, if_false, eat_hit, if_true]
      rw [num_dec b (by omega) _ (Off.cons rfl _)]
      simp only [eat_hit]
      rw [num_dec c (by omega) _ (Off.cons rfl _)]
      simp only [eat_hit]
      exact dayTail_read 3 b c a (by omega) t (by omega) r hr
    · rw [if_neg h3]
      obtain rfl : k = 2 := by omega
      obtain ⟨rfl, rfl⟩ : m = 0 ∧ w = 0 := by omega
      obtain ⟨g1, _, g3⟩ := dec_all a
      simp only [Int.toNat_natCast, List.append_assoc]
      have ht := dayTail_read 2 0 0 a (by omega) t (by omega) r hr
      cases hd : Lib.decDigits a with
      | nil => exact absurd hd g3
      | cons c q =>
        rw [hd] at g1 ht
        simp only [List.all_cons, Bool.and_eq_true] at g1
        simp only [List.cons_append] at ht ⊢
        rw [eat_miss (dig_off g1.1 74 rfl)]
        simp only [Bool.false_eq_true, if_false]
        rw [eat_miss (dig_off g1.1 77 rfl)]
        simp only [Bool.false_eq_true, if_false]
        exact ht

/-! ### rules -/
theorem comma_tail (t : Str) : Off tailB (44 :: t) := Off.cons rfl t
/-- What is behind: nothing, or a comma. -/
def Fin (z : Str) : Prop := z = [] ∨ z = [44]
theorem Fin.tail {z : Str} (h : Fin z) : Off tailB z := by
  rcases h with rfl | rfl
  · exact Off.nil _
  · exact comma_tail _
theorem zeroD_eq {d : DayV} (h : zeroD d = true) : d = .zero := by
  unfold zeroD at h
  simp only [Bool.and_eq_true, beq_iff_eq] at h
  obtain ⟨k, m, w, dd, t⟩ := d
  obtain ⟨⟨⟨⟨h1, h2⟩, h3⟩, h4⟩, h5⟩ := h
  dsimp only at h1 h2 h3 h4 h5
  subst h1 h2 h3 h4 h5
  rfl
theorem digit_letter (c : UInt8) (h : digitB c = true ∨ c = 45) : letterB c = false := by
  have := byte_all (p := fun x => (digitB (UInt8.ofNat x) = true ∨ UInt8.ofNat x = 45) → letterB (UInt8.ofNat x) = false) (by decide +kernel) c
  rw [UInt8.ofNat_toNat] at this
  exact this h
theorem putT_cons (s : Str) (h : isName s = true) (r : Str) : ∃ c t, putT s ++ r = c :: t ∧ (letterB c = true ∨ c = 60) := by
  obtain ⟨h1, _, _⟩ := isName_len h
  unfold putT
  by_cases hl : s.all letterB = true
  · rw [if_pos hl]
    cases s with
    | nil => simp at h1
    | cons c t =>
      simp only [List.all_cons, Bool.and_eq_true] at hl
      exact ⟨c, _, rfl, .inl hl.1⟩
  · rw [if_neg hl]
    exact ⟨60, _, rfl, .inr rfl⟩
theorem letter_end (c : UInt8) (h : letterB c = true ∨ c = 60) : endB c = false := by
  have := byte_all (p := fun x => (letterB (UInt8.ofNat x) = true ∨ UInt8.ofNat x = 60) → endB (UInt8.ofNat x) = false) (by decide +kernel) c
  rw [UInt8.ofNat_toNat] at this
  exact this h
theorem off_read (off doff : Int) (h : doff.natAbs / 3600 ≤ 24) (t : Str) : offS off (offT off doff ++ 44 :: t) = (doff, 44 :: t, false) := by
  unfold offS offT
  by_cases he : doff = off + 3600
  · rw [if_pos he, List.nil_append, List.head?_cons, if_pos rfl, he]
  · rw [if_neg he]
    obtain ⟨c, q, e, hc⟩ := hoursT_cons (-doff) (44 :: t)
    have hr := hours_read (-doff) 24 (by omega) (by omega) (44 :: t) (Off.cons rfl _)
    rw [e] at hr ⊢
    rw [List.head?_cons, if_neg (by
      intro h
      injection h with h
      subst h
      rcases hc with hc | hc
      · cases hc
      · cases hc)]
    rw [hr]
    simp
theorem rule_read (r : RuleV) (h : rightS r = true) (z : Str) (hz : Fin z) : r.dst ≠ [] ∧ readS (textT r ++ z) = (r, z, false) ∨ r.dst = [] ∧ (z = [] → readS (textT r ++ z) = (r, z, false)) ∧ (z = [44] → (readS (textT r ++ z)).2.2 = true) := by
  obtain ⟨h1, h2, h3, h4⟩ := right_of h
  have base : ∀ q : Str, Off endB q → ∃ p, nameS (putT r.std ++ hoursT (-r.off) ++ q) = (r.std, p, false) ∧ hoursS 24 p = (-r.off, q, false) := by
    intro q hq
    obtain ⟨c, t, e, hc⟩ := hoursT_cons (-r.off) q
    refine ⟨hoursT (-r.off) ++ q, ?_, hours_read (-r.off) 24 (by omega) (by omega) q hq⟩
    rw [List.append_assoc]
    exact name_read r.std h1 _ (by rw [e]; exact Off.cons (digit_letter c hc) t)
  rcases h4 with ⟨h4, h5, h6, h7⟩ | ⟨h4, h5, h6, h7, h8, h9⟩
  · refine .inr ⟨h4, ?_, ?_⟩
    · rintro rfl
      obtain ⟨p, k1, k2⟩ := base [] (Off.nil _)
      unfold textT readS
      rw [if_pos h4, List.append_nil]
      simp only [k1, k2, if_true, Int.neg_neg, Bool.or_false]
      obtain ⟨std, dst, off, doff, a, b⟩ := r
      dsimp only at h4 h5 h6 h7 ⊢
      subst h4 h5
      rw [zeroD_eq h6, zeroD_eq h7]
    · rintro rfl
      obtain ⟨p, k1, k2⟩ := base [44] (Off.cons rfl _)
      unfold textT readS
      rw [if_pos h4, List.append_nil]
      simp only [k1, k2]
      rw [if_neg (by simp)]
      unfold restS
      have : (nameS [44]).2.2 = true := by decide +kernel
      simp [this]
  · refine .inl ⟨h5, ?_⟩
    obtain ⟨c, t, e, hc⟩ := putT_cons r.dst h4 (offT r.off r.doff ++ 44 :: (dayT r.a ++ 44 :: (dayT r.b ++ z)))
    obtain ⟨p, k1, k2⟩ := base (putT r.dst ++ (offT r.off r.doff ++ 44 :: (dayT r.a ++ 44 :: (dayT r.b ++ z)))) (by rw [e]; exact Off.cons (letter_end c hc) t)
    have ht : textT r ++ z = putT r.std ++ hoursT (-r.off) ++ (putT r.dst ++ (offT r.off r.doff ++ 44 :: (dayT r.a ++ 44 :: (dayT r.b ++ z)))) := by
      unfold textT
      rw [if_neg h5]
      simp [List.append_assoc]
    rw [ht]
    unfold readS
    simp only [k1, k2]
    rw [if_neg (by rw [e]; simp)]
    unfold restS
    have k3 : nameS (putT r.dst ++ (offT r.off r.doff ++ 44 :: (dayT r.a ++ 44 :: (dayT r.b ++ z)))) = (r.dst, offT r.off r.doff ++ 44 :: (dayT r.a ++ 44 :: (dayT r.b ++ z)), false) := by
      refine name_read r.dst h4 _ ?_
      unfold offT
      split
      · exact Off.cons rfl _
      · obtain ⟨c', t', e', hc'⟩ := hoursT_cons (-r.doff) (44 :: (dayT r.a ++ 44 :: (dayT r.b ++ z)))
        rw [e']
        exact Off.cons (digit_letter c' hc') t'
    rw [k3]
    simp only [off_read r.off r.doff (by omega), eat_hit, Int.neg_neg]
    rw [day_read r.a h8 _ (comma_tail _)]
    simp only [eat_hit]
    rw [day_read r.b h9 _ hz.tail]
    rfl
theorem ruleS_text (r : RuleV) (h : rightS r = true) : ruleS (textT r) = some r := by
  have hl := textT_len r h
  have hx := rule_read r h [] (.inl rfl)
  rw [List.append_nil] at hx
  have hr : readS (textT r) = (r, [], false) := by
    rcases hx with ⟨_, hx⟩ | ⟨_, hx, _⟩
    · exact hx
    · exact hx rfl
  unfold ruleS
  rw [if_neg (by omega), hr]
  simp [h]
theorem ruleS_comma (r : RuleV) (h : rightS r = true) : ruleS (textT r ++ [44]) = none := by
  have hl := textT_len r h
  have hx := rule_read r h [44] (.inr rfl)
  unfold ruleS
  rw [if_neg (by simp; omega)]
  rcases hx with ⟨_, hx⟩ | ⟨_, _, hx⟩
  · rw [hx]; simp
  · have := hx rfl
    simp [this]
end Go.Proofs.YtpooncihlnllnaaGreatDoor.H

/- Chapter 07: a rule's text is no longer than what it was read of. -/
namespace Go.Proofs.YtpooncihlnllnaaGreatDoor.H
open Go.Sh Go.RowKit
set_option linter.unusedSimpArgs false
set_option linter.unusedVariables false

theorem dec_le : ∀ (k a : Nat), a < 10 ^ (k + 1) → (Lib.decDigits a).length ≤ k + 1
  | 0, a, h => by rw [decD, if_pos (by omega)]; simp
  | k + 1, a, h => by
    rw [decD]
    by_cases h0 : a / 10 = 0
    · rw [if_pos h0]; simp
    · have hp : (10 : Nat) ^ (k + 1 + 1) = 10 ^ (k + 1) * 10 := Nat.pow_succ ..
      have := dec_le k (a / 10) (by omega)
      rw [if_neg h0, List.length_append]
      simp only [List.length_cons, List.length_nil]
      omega
theorem num_short (a b : Nat) (hb : b ≤ 18) (ha : 1 ≤ a) (r : Str) (h : (numS a b r).2.2 = false) : (Lib.decDigits (numS a b r).1).length + (numS a b r).2.1.length ≤ r.length ∧ (numS a b r).2.1.length + a ≤ r.length := by
  have h1 := runS_len digitB b r
  have h2 := valS_lt (runS digitB b r) (by omega) (runS_all _ _ _)
  unfold numS at h ⊢
  dsimp only at h ⊢
  simp only [decide_eq_false_iff_not, Nat.not_lt] at h
  obtain ⟨k, hk⟩ : ∃ k, (runS digitB b r).length = k + 1 := ⟨(runS digitB b r).length - 1, by omega⟩
  rw [hk] at h2
  have h3 := dec_le k _ h2
  simp only [List.length_drop]
  omega
theorem eat_short {c : UInt8} {r : Str} (h : (eatS c r).1 = true) : (eatS c r).2.length + 1 = r.length := by
  cases r with
  | nil => simp [eatS] at h
  | cons x t =>
    by_cases hx : x = c
    · simp [eatS, hx]
    · simp [eatS, hx] at h
theorem minT_len (a : Nat) : (minT a).length ≤ 6 ∧ (a % 60 = 0 → (minT a).length ≤ 3) ∧ (a % 3600 = 0 → (minT a).length = 0) := by
  unfold minT
  refine ⟨?_, ?_, ?_⟩
  · split <;> split <;> simp [two]
  · intro h
    rw [if_pos h]
    split <;> simp [two]
  · intro h
    rw [if_pos h, if_pos (by omega)]
    rfl
theorem min_short (r : Str) (h : (minS r).2.2 = false) (q a : Nat) (ha : (a : Int) = 3600 * (q : Int) + (minS r).1) : (minT a).length + (minS r).2.1.length ≤ r.length ∧ a % 3600 + 3600 * q = a := by
  obtain ⟨l1, l2, l3⟩ := minT_len a
  revert h ha
  unfold minS
  dsimp only
  by_cases h1 : (eatS 58 r).1 = true
  · have e1 := eat_short h1
    rw [if_pos h1]
    by_cases h2 : (eatS 58 (numS 2 2 (eatS 58 r).2).2.1).1 = true
    · have e2 := eat_short h2
      rw [if_pos h2]
      dsimp only
      intro h ha
      simp only [Bool.or_eq_false_iff, decide_eq_false_iff_not, Nat.not_le] at h
      obtain ⟨⟨⟨g1, g2⟩, g3⟩, g4⟩ := h
      have n1 := (num_short 2 2 (by omega) (by omega) _ g1).2
      have n2 := (num_short 2 2 (by omega) (by omega) _ g3).2
      omega
    · rw [if_neg h2]
      dsimp only
      intro h ha
      simp only [Bool.or_eq_false_iff, decide_eq_false_iff_not, Nat.not_le] at h
      have n1 := (num_short 2 2 (by omega) (by omega) _ h.1).2
      have e2 := eatS_len 58 (numS 2 2 (eatS 58 r).2).2.1
      have := l2 (by omega)
      omega
  · rw [if_neg h1]
    dsimp only
    intro h ha
    have e1 := eatS_len 58 r
    have := l3 (by omega)
    omega
theorem sign_short (r : Str) : (signS r).2.length ≤ r.length ∧ ((signS r).1 = -1 → (signS r).2.length + 1 ≤ r.length) := by
  refine ⟨signS_len r, ?_⟩
  unfold signS
  dsimp only
  by_cases h1 : (eatS 45 r).1 = true
  · have := eat_short h1
    rw [if_pos h1]
    dsimp only
    omega
  · rw [if_neg h1]
    dsimp only
    omega
theorem hours_short (most : Nat) (r : Str) (h : (hoursS most r).2.2 = false) : (hoursT (hoursS most r).1).length + (hoursS most r).2.1.length ≤ r.length := by
  have s1 := sign_short r
  have so := signS_or r
  unfold hoursS at h ⊢
  dsimp only at h ⊢
  simp only [Bool.or_eq_false_iff, decide_eq_false_iff_not, Nat.not_lt] at h
  obtain ⟨⟨g1, g2⟩, g3⟩ := h
  have n1 := (num_short 1 3 (by omega) (by omega) _ g1).1
  have m0 := minS_lt (numS 1 3 (signS r).2).2.1
  generalize hq : (numS 1 3 (signS r).2) = hh at *
  obtain ⟨a, ha⟩ : ∃ a : Nat, (a : Int) = 3600 * (hh.1 : Int) + (minS hh.2.1).1 := ⟨(3600 * (hh.1 : Int) + (minS hh.2.1).1).toNat, by omega⟩
  have m1 := min_short hh.2.1 g3 hh.1 a ha
  have hd : a / 3600 = hh.1 := by omega
  have hT : (hourT a).length = (Lib.decDigits hh.1).length + (minT a).length := by rw [hourT_eq, List.length_append, hd]
  rw [← ha]
  rcases so with g | g
  · rw [g]
    have := s1.2 g
    unfold hoursT
    rw [show (-1 * (a : Int)).natAbs = a by omega]
    split
    · simp only [List.length_cons]; omega
    · omega
  · rw [g]
    unfold hoursT
    rw [show (1 * (a : Int)).natAbs = a by omega, if_neg (by omega)]
    omega
theorem name_short (r : Str) (h : (nameS r).2.2 = false) : (putT (nameS r).1).length + (nameS r).2.1.length ≤ r.length := by
  revert h
  unfold nameS
  dsimp only
  by_cases h1 : (eatS 60 r).1 = true
  · have e1 := eat_short h1
    rw [if_pos h1]
    dsimp only
    intro h
    simp only [Bool.or_eq_false_iff, Bool.not_eq_eq_eq_not, Bool.not_false] at h
    have e2 := eat_short h.1
    have l1 := runS_len openB (eatS 60 r).2.length (eatS 60 r).2
    have l2 := putT_len (runS openB (eatS 60 r).2.length (eatS 60 r).2)
    simp only [List.length_drop] at e2
    omega
  · rw [if_neg h1]
    dsimp only
    intro h
    have e1 := eatS_len 60 r
    have l1 := runS_len letterB (eatS 60 r).2.length (eatS 60 r).2
    have : putT (runS letterB (eatS 60 r).2.length (eatS 60 r).2) = runS letterB (eatS 60 r).2.length (eatS 60 r).2 := by
      unfold putT
      rw [if_pos (runS_all _ _ _)]
    rw [this, List.length_drop]
    omega
theorem off_short (off : Int) (r : Str) (h : (offS off r).2.2 = false) : (offT off (offS off r).1).length + (offS off r).2.1.length ≤ r.length := by
  revert h
  unfold offS
  by_cases h1 : r.head? = some 44
  · rw [if_pos h1]
    dsimp only
    intro h
    unfold offT
    rw [if_pos rfl]
    simp
  · rw [if_neg h1]
    dsimp only
    intro h
    have := hours_short 24 r h
    have hl : (offT off (-(hoursS 24 r).1)).length ≤ (hoursT (hoursS 24 r).1).length := by
      unfold offT
      split
      · simp
      · rw [Int.neg_neg]; exact Nat.le_refl _
    omega
/-- What is behind a day's number. -/
def timeT (t : Int) : Str := if t = 7200 then [] else 47 :: hoursT t
theorem dayTail_short (k m w : Int) (r : Str) (bad : Bool) (h : (dayTail k m w r bad).2.2 = false) :
    bad = false ∧ ∃ a : Nat, (dayTail k m w r bad).1 = ⟨k, m, w, a, (dayTail k m w r bad).1.t⟩ ∧ (Lib.decDigits a).length + (timeT (dayTail k m w r bad).1.t).length + (dayTail k m w r bad).2.1.length ≤ r.length := by
  revert h
  unfold dayTail
  dsimp only
  by_cases h1 : (eatS 47 (numS 1 3 r).2.1).1 = true
  · have e1 := eat_short h1
    rw [if_pos h1]
    dsimp only
    intro h
    simp only [Bool.or_eq_false_iff] at h
    obtain ⟨⟨g1, g2⟩, g3⟩ := h
    have n1 := (num_short 1 3 (by omega) (by omega) _ g2).1
    have n2 := hours_short 167 _ g3
    refine ⟨g1, _, rfl, ?_⟩
    have : (timeT (hoursS 167 (eatS 47 (numS 1 3 r).2.1).2).1).length ≤ (hoursT (hoursS 167 (eatS 47 (numS 1 3 r).2.1).2).1).length + 1 := by
      unfold timeT
      split
      · simp
      · simp
    omega
  · rw [if_neg h1]
    dsimp only
    intro h
    simp only [Bool.or_eq_false_iff] at h
    have n1 := (num_short 1 3 (by omega) (by omega) _ h.2).1
    have e1 := eatS_len 47 (numS 1 3 r).2.1
    refine ⟨h.1, _, rfl, ?_⟩
    simp only [timeT, if_true, List.length_nil]
    omega
theorem day_short (r : Str) (h : (dayS r).2.2 = false) : (dayT (dayS r).1).length + (dayS r).2.1.length ≤ r.length := by
  revert h
  unfold dayS
  dsimp only
  have hT : ∀ d : DayV, (dayT d).length = (headT d).length + (timeT d.t).length := fun d => by unfold dayT timeT; rw [List.length_append]
  by_cases h1 : (eatS 74 r).1 = true
  · have e1 := eat_short h1
    rw [if_pos h1]
    intro h
    obtain ⟨_, a, g1, g2⟩ := dayTail_short _ _ _ _ _ h
    rw [hT, g1]
    simp only [headT, if_true, List.length_cons, Int.toNat_natCast]
    omega
  · rw [if_neg h1]
    have e1 := eatS_len 74 r
    by_cases h2 : (eatS 77 (eatS 74 r).2).1 = true
    · have e2 := eat_short h2
      rw [if_pos h2]
      intro h
      obtain ⟨g0, a, g1, g2⟩ := dayTail_short _ _ _ _ _ h
      simp only [Bool.or_eq_false_iff, Bool.not_eq_eq_eq_not, Bool.not_false] at g0
      obtain ⟨⟨⟨b1, b2⟩, b3⟩, b4⟩ := g0
      have n1 := (num_short 1 3 (by omega) (by omega) _ b1).1
      have n2 := eat_short b2
      have n3 := (num_short 1 3 (by omega) (by omega) _ b3).1
      have n4 := eat_short b4
      rw [hT, g1]
      simp only [headT, if_true, List.length_cons, List.length_append, Int.toNat_natCast, show ¬ ((3 : Int) = 1) by omega, if_false]
      omega
    · rw [if_neg h2]
      have e2 := eatS_len 77 (eatS 74 r).2
      intro h
      obtain ⟨_, a, g1, g2⟩ := dayTail_short _ _ _ _ _ h
      rw [hT, g1]
      simp only [headT, Int.toNat_natCast, show ¬ ((2 : Int) = 1) by omega, show ¬ ((2 : Int) = 3) by omega, if_false]
      omega
theorem read_short (s : Str) (h : (readS s).2.2 = false) : (textT (readS s).1).length + (readS s).2.1.length ≤ s.length := by
  revert h
  unfold readS
  dsimp only
  by_cases h1 : (hoursS 24 (nameS s).2.1).2.1 = []
  · rw [if_pos h1]
    dsimp only
    intro h
    simp only [Bool.or_eq_false_iff] at h
    have n1 := name_short s h.1
    have n2 := hours_short 24 _ h.2
    unfold textT
    simp only [if_true, List.append_nil, List.length_append, List.length_nil, Int.neg_neg]
    omega
  · rw [if_neg h1]
    intro h
    generalize hr : (hoursS 24 (nameS s).2.1).2.1 = r at *
    unfold restS at h ⊢
    dsimp only at h ⊢
    simp only [Bool.or_eq_false_iff, Bool.not_eq_eq_eq_not, Bool.not_false] at h
    obtain ⟨⟨⟨⟨⟨⟨⟨b1, b2⟩, b3⟩, b4⟩, b5⟩, b6⟩, b7⟩, b8⟩ := h
    have n1 := name_short s b1
    have n2 := hours_short 24 _ b2
    rw [hr] at n2
    have n3 := name_short r b3
    have n4 := off_short _ _ b4
    have n5 := eat_short b5
    have n6 := day_short _ b6
    have n7 := eat_short b7
    have n8 := day_short _ b8
    have hne : ¬ (nameS r).1 = [] := by
      intro hz
      have := nameS_bad r b3
      rw [hz, isName_nil] at this
      cases this
    unfold textT
    dsimp only
    rw [if_neg hne, Int.neg_neg]
    simp only [List.length_append, List.length_cons]
    omega
theorem ruleS_right {s : Str} {y : RuleV} (h : ruleS s = some y) : rightS y = true ∧ (textT y).length ≤ s.length := by
  unfold ruleS at h
  split at h
  · cases h
  · dsimp only at h
    split at h
    · rename_i hx
      injection h with h
      have := read_short s hx.1
      rw [h] at this hx
      exact ⟨hx.2.2, by omega⟩
    · cases h
end Go.Proofs.YtpooncihlnllnaaGreatDoor.H

/- Chapter 07: the law FooterBack. -/
namespace Go.Proofs.YtpooncihlnllnaaGreatDoor.H
open Go.Sh Go.RowKit
set_option linter.unusedSimpArgs false
set_option linter.unusedVariables false

theorem back_first (n : Nat) (hn : 200 < n) (r : RuleV) (s : Str) (hs : r.std.length ≤ 50) (hd : r.dst.length ≤ 50) :
    ((footer_Text_f n r.std r.dst r.off r.doff r.a.k r.a.m r.a.w r.a.d r.a.t r.b.k r.b.m r.b.w r.b.d r.b.t).bind fun o =>
      clepsydralaw07_FooterBack_j1 n s o.1 o.2 r.std r.dst r.off r.doff r.a.k r.a.m r.a.w r.a.d r.a.t r.b.k r.b.m r.b.w r.b.d r.b.t)
    = some (Sum.inr s) := by
  cases h : rightS r with
  | false =>
    rw [text_bad n r hn hs hd h]
    rfl
  | true =>
    have hl := textT_len r h
    rw [text_val n r hn h]
    simp only [Option.bind_some]
    rw [clepsydralaw07_FooterBack_j1, clepsydralaw07_FooterBack_j1_b, parse_val n _ hn, ruleS_text r h]
    simp only [Option.bind_some, beq_self_eq_true, cond_true]
    rw [cond_pos (by simp only [List.length_cons, List.length_nil]; omega), parse_val n _ hn, ruleS_comma r h]
    simp only [Option.bind_some]
    rw [clepsydralaw07_FooterBack_j0, clepsydralaw07_FooterBack_j0_b]
    simp [tupR]
theorem footerBack_law (n : Nat) (hn : 200 < n) (r : RuleV) (s : Str) : clepsydralaw07_FooterBack_f n r.std r.dst r.off r.doff r.a.k r.a.m r.a.w r.a.d r.a.t r.b.k r.b.m r.b.w r.b.d r.b.t s = some true := by
  unfold clepsydralaw07_FooterBack_f clepsydralaw07_FooterBack_b
  rw [clepsydralaw07_FooterBack_j2, clepsydralaw07_FooterBack_j2_b, works_val n hn]
  by_cases h1 : (r.std.length : Int) > 50
  · rw [cond_pos h1]; rfl
  · rw [cond_neg h1]
    by_cases h2 : (r.dst.length : Int) > 50
    · rw [cond_pos h2]; rfl
    · rw [cond_neg h2]
      by_cases h3 : (s.length : Int) > 200
      · rw [decide_eq_true h3]; rfl
      · rw [decide_eq_false h3]
        simp only [Option.bind_some, cond_false]
        have hf := back_first n hn r s (by omega) (by omega)
        obtain ⟨o, ho1, ho2⟩ := Option.bind_eq_some_iff.1 hf
        rw [ho1]
        simp only [Option.bind_some]
        rw [ho2]
        simp only [Option.bind_some, Sum.elim_inr]
        rw [parse_val n s hn]
        cases hy : ruleS s with
        | none => simp [tupR]
        | some y =>
          obtain ⟨g1, g2⟩ := ruleS_right hy
          have q1 := right_of g1
          have q2 := isName_len q1.1
          have q3 : y.dst.length ≤ 10 := by
            rcases q1.2.2.2 with ⟨q, _⟩ | ⟨q, _⟩
            · rw [q]; simp
            · exact (isName_len q).2.1
          simp only [Option.bind_some, tupR]
          rw [text_val n y hn g1]
          simp only [Option.bind_some]
          rw [parse_val n _ hn, ruleS_text y g1, right_val n _ _ _ _ _ _ _ _ _ _ _ _ _ _ (by omega) (by omega) (by omega) (by omega)]
          simp only [Option.bind_some, tupR]
          rw [show rightS ⟨y.std, y.dst, y.off, y.doff, ⟨y.a.k, y.a.m, y.a.w, y.a.d, y.a.t⟩, ⟨y.b.k, y.b.m, y.b.w, y.b.d, y.b.t⟩⟩ = true from g1]
          have hlen : decide (((textT y).length : Int) ≤ (s.length : Int)) = true := by rw [decide_eq_true_eq]; omega
          rw [hlen]
          simp
end Go.Proofs.YtpooncihlnllnaaGreatDoor.H

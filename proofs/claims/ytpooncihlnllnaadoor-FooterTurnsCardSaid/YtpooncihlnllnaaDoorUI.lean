/- Chapter 07: the law FooterTurns. -/
import Derived.Test.YtpooncihlnllnaaDoorT5
import Derived.Test.YtpooncihlnllnaaDoorUH
namespace Go.Proofs.YtpooncihlnllnaaDoor.H
open Go.Sh Go.RowKit
set_option linter.unusedSimpArgs false
set_option linter.unusedVariables false

theorem wfu16 {n : Int} (h : (Lit.int .u16 n).wf = true) : 0 ≤ n ∧ n ≤ 65535 := by
  simp [Lit.wf, IntKind.min, IntKind.max, IntKind.signed, IntKind.bits] at h
  omega
theorem wfu32 {n : Int} (h : (Lit.int .u32 n).wf = true) : 0 ≤ n ∧ n ≤ 4294967295 := by
  simp [Lit.wf, IntKind.min, IntKind.max, IntKind.signed, IntKind.bits] at h
  omega
def plainB (d : DayV) : Bool := decide (0 ≤ d.t) && decide (d.t < 86400) && decide (d.k = 3) && decide (1 < d.m) && decide (d.m < 12)
theorem plainB_iff (d : DayV) : plainB d = true ↔ Plain d := by
  unfold plainB Plain
  simp only [Bool.and_eq_true, decide_eq_true_eq]
  omega
theorem plainDay_val (n : Nat) (d : DayV) : clepsydralaw07_plainDay_f n d.k d.m d.w d.d d.t = some (plainB d) := by
  unfold clepsydralaw07_plainDay_f clepsydralaw07_plainDay_b plainB
  rw [beqI, cond_and, cond_and, cond_and]
  simp only [cond_and, Bool.and_assoc, ge_iff_le, gt_iff_lt]
theorem atYear_or (r : RuleV) (t y : Int) : (atYear r t y).2 = true ∧ (atYear r t y).1 = r.doff ∨ (atYear r t y).2 = false ∧ (atYear r t y).1 = r.off := by
  unfold atYear
  split
  · exact .inl ⟨rfl, rfl⟩
  · exact .inr ⟨rfl, rfl⟩
theorem clampS_in {t : Int} (h : -10000000000 < t ∧ t < 100000000000) : clampS t = t := by
  unfold clampS
  rw [if_pos h.2, if_pos h.1]
theorem dayS2_year (d : DayV) (y : Int) (h : dayOK d = true) (hy : 1700 ≤ y ∧ y ≤ 3999) : -99000 ≤ dayS2 d y ∧ dayS2 d y ≤ 742000 := by
  have e1 : begS 1700 = -98615 := by decide +kernel
  have e2 : begS 4000 = 741442 := by decide +kernel
  have b1 := begS_lt (a := 1700) (b := y) (by omega) (by omega)
  have b2 := begS_lt (a := y + 1) (b := 4000) (by omega) (by omega)
  have b3 := begS_next' y (by omega)
  have b4 := begS_next y (by omega)
  have ho := dayOK_of' h
  have hbeg : begS y = daysS y 1 1 := rfl
  unfold dayS2
  split
  · split at b4 <;> omega
  · split
    · split <;> (split at b4 <;> omega)
    · have hl := longS_le y d.m
      have hm : begS y ≤ daysS y d.m 1 ∧ daysS y d.m 1 ≤ begS (y + 1) - 28 := by
        have hk : 1 ≤ d.m := by omega
        rw [begS_eq, begS_eq]
        have : d.m = 1 ∨ d.m = 2 ∨ d.m = 3 ∨ d.m = 4 ∨ d.m = 5 ∨ d.m = 6 ∨ d.m = 7 ∨ d.m = 8 ∨ d.m = 9 ∨ d.m = 10 ∨ d.m = 11 ∨ d.m = 12 := by omega
        unfold daysS
        rcases this with h | h | h | h | h | h | h | h | h | h | h | h <;> rw [h]
        all_goals simp
        all_goals omega
      unfold aheadS
      dsimp only
      split <;> omega
theorem footerTurns_law (n : Nat) (r : RuleV) (u v : Int) (hn : 20000 < n) (hs : r.std.length < 9223372036854775808) (h1 : r.std.length < n) (hs' : r.dst.length < 9223372036854775808) (h1' : r.dst.length < n) (hu : 0 ≤ u ∧ u ≤ 65535) (hv : 0 ≤ v ∧ v ≤ 4294967295) :
    clepsydralaw07_FooterTurns_f n r.std r.dst r.off r.doff r.a.k r.a.m r.a.w r.a.d r.a.t r.b.k r.b.m r.b.w r.b.d r.b.t u v = some true := by
  unfold clepsydralaw07_FooterTurns_f clepsydralaw07_FooterTurns_b
  rw [clepsydralaw07_FooterTurns_j3, clepsydralaw07_FooterTurns_j3_b, right_val n _ _ _ _ _ _ _ _ _ _ _ _ _ _ hs h1 hs' h1', works_val n (by omega)]
  rw [show rightS ⟨r.std, r.dst, r.off, r.doff, ⟨r.a.k, r.a.m, r.a.w, r.a.d, r.a.t⟩, ⟨r.b.k, r.b.m, r.b.w, r.b.d, r.b.t⟩⟩ = rightS r from rfl]
  cases h : rightS r with
  | false => rfl
  | true =>
    simp only [Option.bind_some, Bool.not_true, cond_false]
    by_cases hd : r.dst = []
    · rw [hd]; rfl
    · rw [show (r.dst == ([] : Str)) = false by simpa using hd]
      simp only [cond_false]
      obtain ⟨_, o1, o2, h4⟩ := right_of' h
      obtain ⟨_, _, o3, o4, ha, hb⟩ := h4.resolve_left (fun q => hd q.1)
      have yv : IntKind.i64.wrap (1700 + Int.tmod (IntKind.i64.wrap u) 2300) = 1700 + u % 2300 := by simp (disch := omega) only [wi, tm0]
      rw [yv]
      obtain ⟨y, hy⟩ : ∃ y, 1700 + u % 2300 = y := ⟨_, rfl⟩
      have hyb : 1700 ≤ y ∧ y ≤ 3999 := by omega
      rw [hy]
      have ba := dayS2_year r.a y ha hyb
      have bb := dayS2_year r.b y hb hyb
      have ta := dayOK_of' ha
      have tb := dayOK_of' hb
      rw [switch_val n r.a y (by omega), switch_val n r.b y (by omega)]
      rw [if_pos ha, if_pos hb, if_pos (by omega), if_pos (by omega)]
      simp only [Option.bind_some]
      rw [clepsydralaw07_FooterTurns_j2, clepsydralaw07_FooterTurns_j2_b, show ((0 : Int) != 0) = false from rfl]
      simp only [cond_false, Option.bind_some]
      have sb : -9000000000 ≤ switchS r.a y - r.off ∧ switchS r.a y - r.off ≤ 65000000000 ∧ -9000000000 ≤ switchS r.b y - r.doff ∧ switchS r.b y - r.doff ≤ 65000000000 := by unfold switchS; omega
      rw [wi (switchS r.a y - r.off) (by omega) (by omega), wi (switchS r.b y - r.doff) (by omega) (by omega)]
      have hbet := between r ha hb
      generalize hA : switchS r.a y - r.off = A at *
      generalize hB : switchS r.b y - r.doff = B at *
      obtain ⟨TO, hTO⟩ : ∃ x, (if A < B then B else A) = x := ⟨_, rfl⟩
      obtain ⟨FR, hFR⟩ : ∃ x, (if B < A then B else A) = x := ⟨_, rfl⟩
      rw [hTO, hFR]
      have hft : FR ≤ TO ∧ -9000000000 ≤ FR ∧ TO ≤ 65000000000 ∧ (A < B → FR = A ∧ TO = B) ∧ (B < A → FR = B ∧ TO = A) ∧ (A = B → FR = TO) := by
        subst hTO hFR
        split <;> split <;> omega
      have tv : IntKind.i64.wrap (FR + Int.tmod (IntKind.i64.wrap v) (IntKind.i64.wrap (IntKind.i64.wrap (TO - FR) + 1))) = FR + v % (TO - FR + 1) := by
        rw [wi v (by omega) (by omega), wi (TO - FR) (by omega) (by omega), wi (TO - FR + 1) (by omega) (by omega), tm0 hv.1]
        have q1 := Int.emod_nonneg v (show TO - FR + 1 ≠ 0 by omega)
        have q2 := Int.emod_lt_of_pos v (show 0 < TO - FR + 1 by omega)
        rw [wi _ (by omega) (by omega)]
      rw [tv]
      have q1 := Int.emod_nonneg v (show TO - FR + 1 ≠ 0 by omega)
      have q2 := Int.emod_lt_of_pos v (show 0 < TO - FR + 1 by omega)
      obtain ⟨t, ht⟩ : ∃ t, FR + v % (TO - FR + 1) = t := ⟨_, rfl⟩
      rw [ht]
      have htb : FR ≤ t ∧ t ≤ TO := by omega
      rw [wi (TO - FR) (by omega) (by omega), wi (TO - FR + 1) (by omega) (by omega)]
      rw [show ((TO - FR + 1 == 0) : Bool) = false by rw [beqI, decide_eq_false (by omega)]]
      simp only [cond_false]
      rw [wi (t + 12614400000) (by omega) (by omega), wi (t + 12614400000 + 8380800) (by omega) (by omega)]
      rw [show t + 12614400000 + 8380800 = t + 12622780800 by omega]
      obtain ⟨Y, y1, y2, y3, y4⟩ := at_val n r t (by omega) h hd
      obtain ⟨Z, z1, z2, z3, z4⟩ := at_val n r (t + 12622780800) (by omega) h hd
      rw [clampS_in (by omega)] at y1 y4 z1 z4
      have hYZ : Z = Y + 400 := by
        have q := InYear_400 y1
        rw [show (t + r.off) / 86400 + 146097 = (t + 12622780800 + r.off) / 86400 by omega] at q
        exact InYear.one (by omega) (by omega) z1 q
      rw [hYZ, atYear_400] at z4
      rw [y4, z4]
      simp only [Option.bind_some]
      have hor := atYear_or r t Y
      have hj1 : clepsydralaw07_FooterTurns_j1 n (atYear r t Y).1 (atYear r t Y).2 (atYear r t Y).1 (atYear r t Y).2 r.std r.dst r.off r.doff r.a.k r.a.m r.a.w r.a.d r.a.t r.b.k r.b.m r.b.w r.b.d r.b.t = some (false, r.std, r.dst, r.off, r.doff, r.a.k, r.a.m, r.a.w, r.a.d, r.a.t, r.b.k, r.b.m, r.b.w, r.b.d, r.b.t) := by
        rw [clepsydralaw07_FooterTurns_j1, clepsydralaw07_FooterTurns_j1_b]
        rcases hor with ⟨g1, g2⟩ | ⟨g1, g2⟩
        · rw [g1, g2]
          by_cases hq : r.doff = r.off
          · simp [hq]
          · have : (r.doff != r.off) = true := by simpa using hq
            simp [this]
        · rw [g1, g2]
          simp
      rw [hj1]
      simp only [Option.bind_some, cond_false]
      rw [clepsydralaw07_FooterTurns_j0, clepsydralaw07_FooterTurns_j0_b, plainDay_val, plainDay_val, wi (TO - FR) (by omega) (by omega)]
      simp only [Option.bind_some]
      cases hpa : plainB r.a with
      | false => simp
      | true =>
        cases hpb : plainB r.b with
        | false => simp
        | true =>
          simp only [cond_true, Option.bind_some]
          by_cases w1 : TO - FR > 1728000
          · rw [cond_pos w1]
            by_cases w2 : TO - FR < 29376000
            · rw [cond_pos w2]
              by_cases w3 : t < TO
              · rw [decide_eq_true w3]
                simp only [Option.bind_some, cond_true]
                have hb2 := hbet ((plainB_iff _).1 hpa) ((plainB_iff _).1 hpb) (by omega) (by omega) y Y t (by omega) y1 (by omega)
                rw [hA, hB] at hb2
                by_cases hlt : A < B
                · obtain ⟨f1, f2⟩ := hft.2.2.2.1 hlt
                  subst f1 f2
                  rw [hb2.1 htb.1 w3 w2]
                  simp
                · have hlt2 : B < A := by
                    by_cases he : A = B
                    · have := hft.2.2.2.2.2 he
                      omega
                    · omega
                  obtain ⟨f1, f2⟩ := hft.2.2.2.2.1 hlt2
                  subst f1 f2
                  rw [hb2.2 htb.1 w3 w2, beqI, decide_eq_false (by omega)]
                  rfl
              · rw [decide_eq_false w3]
                rfl
            · rw [cond_neg w2]
              rfl
          · rw [cond_neg w1]
            rfl
end Go.Proofs.YtpooncihlnllnaaDoor.H

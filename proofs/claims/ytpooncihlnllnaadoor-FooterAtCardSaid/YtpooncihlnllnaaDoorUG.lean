/- Chapter 07: the offset that holds, as the reference tells it; the law FooterAt. -/
import Derived.Test.YtpooncihlnllnaaDoorUD
import Derived.Test.YtpooncihlnllnaaDoorUF
namespace Go.Proofs.YtpooncihlnllnaaDoor.H
open Go.Sh Go.RowKit
set_option linter.unusedSimpArgs false
set_option linter.unusedVariables false

theorem rfloor_val (n : Nat) (a : Int) (h : -1000000000000 ≤ a ∧ a ≤ 1000000000000) : clepsydraref07_floor_f n a 86400 = some (a / 86400) := by
  unfold clepsydraref07_floor_f clepsydraref07_floor_b
  rw [show ((86400 : Int) == 0) = false from rfl]
  simp only [cond_false]
  by_cases ha : 0 ≤ a
  · rw [tm0 ha, td0 ha, cond_neg (by omega), wi _ (by omega) (by omega)]
  · obtain ⟨b, rfl⟩ : ∃ b : Int, a = -b := ⟨-a, by omega⟩
    rw [Int.neg_tmod, Int.neg_tdiv, tm0 (by omega), td0 (by omega)]
    by_cases hz : b % 86400 = 0
    · rw [cond_neg (by omega), wi _ (by omega) (by omega)]
      congr 1
      omega
    · rw [cond_pos (by omega)]
      simp (disch := omega) only [wi]
      congr 1
      omega
theorem year_down (n : Nat) (hn : 10000 < n) (d : Int) (hd : -130000 ≤ d ∧ d ≤ 1170000) : ∀ (m : Nat) (y : Int), y.toNat < m → 1600 ≤ y ∧ y ≤ 1970 → ∃ y', clepsydraref07_yearOf_l1 n m d y = some y' ∧ begS y' ≤ d ∧ 1600 ≤ y' ∧ y' ≤ 1970
  | 0, y, h, _ => by omega
  | m + 1, y, h, hy => by
    have hb := begS_bd y (by omega)
    rw [clepsydraref07_yearOf_l1, clepsydraref07_yearOf_l1_b, begins_val n y hn (by omega)]
    simp only [Option.bind_some]
    by_cases hlt : d < begS y
    · rw [cond_pos hlt]
      simp (disch := omega) only [wi, td0]
      have e1 := begS_1600
      have h0 := begS_lt (a := y) (b := 1970) (by omega) (by omega)
      rw [begS_1970] at h0
      obtain ⟨k, hk⟩ : ∃ k : Nat, (begS y - d) / 366 = (k : Int) := ⟨((begS y - d) / 366).toNat, by omega⟩
      rw [hk]
      have hm := (begS_mono (k + 1) (y - 1 - k) (by omega)).2
      rw [show y - 1 - (k : Int) + ((k + 1 : Nat) : Int) = y by omega] at hm
      have hlow : 1600 ≤ y - 1 - (k : Int) := by
        by_cases hq : y - 1 - (k : Int) < 1600
        · have hm2 := (begS_mono (1600 - (y - 1 - (k : Int))).toNat (y - 1 - k) (by omega)).1
          rw [show y - 1 - (k : Int) + (((1600 - (y - 1 - (k : Int))).toNat : Nat) : Int) = 1600 by omega] at hm2
          omega
        · omega
      exact year_down n hn d hd m (y - 1 - k) (by omega) (by omega)
    · rw [cond_neg hlt]
      exact ⟨y, rfl, by omega, hy.1, hy.2⟩
theorem year_up (n : Nat) (hn : 10000 < n) (d : Int) (hd : -130000 ≤ d ∧ d ≤ 1170000) : ∀ (m : Nat) (y : Int), (6000 - y).toNat < m → 1600 ≤ y → begS y ≤ d → ∃ y', clepsydraref07_yearOf_l0 n m d y = some y' ∧ InYear y' d ∧ 1600 ≤ y'
  | 0, y, h, hy, hb => by
    have h1 := begS_5200
    by_cases hq : 5200 < y
    · have := begS_lt (a := 5200) (b := y) (by omega) (by omega)
      omega
    · omega
  | m + 1, y, h, hy, hb => by
    have h1 := begS_5200
    have hyu : y ≤ 5200 := by
      by_cases hq : 5200 < y
      · have := begS_lt (a := 5200) (b := y) (by omega) (by omega)
        omega
      · omega
    have hbb := begS_bd (y + 1) (by omega)
    rw [clepsydraref07_yearOf_l0, clepsydraref07_yearOf_l0_b, wi (y + 1) (by omega) (by omega), begins_val n (y + 1) hn (by omega)]
    simp only [Option.bind_some]
    by_cases hge : d ≥ begS (y + 1)
    · rw [cond_pos hge]
      simp (disch := omega) only [wi, td0]
      obtain ⟨k, hk⟩ : ∃ k : Nat, (d - begS (y + 1)) / 366 = (k : Int) := ⟨((d - begS (y + 1)) / 366).toNat, by omega⟩
      rw [hk]
      have hm := (begS_mono k (y + 1) (by omega)).2
      exact year_up n hn d hd m (y + 1 + k) (by omega) (by omega) (by omega)
    · rw [cond_neg hge]
      exact ⟨y, rfl, ⟨hb, by omega⟩, hy⟩
theorem yearOf_val (n : Nat) (hn : 20000 < n) (d : Int) (hd : -130000 ≤ d ∧ d ≤ 1170000) : ∃ y, clepsydraref07_yearOf_f n d = some y ∧ InYear y d ∧ 1600 ≤ y := by
  obtain ⟨y1, h1, h2, h3, _⟩ := year_down n (by omega) d hd n 1970 (by omega) (by omega)
  obtain ⟨y2, h4, h5, h6⟩ := year_up n (by omega) d hd n y1 (by omega) h3 h2
  refine ⟨y2, ?_, h5, h6⟩
  unfold clepsydraref07_yearOf_f clepsydraref07_yearOf_b
  rw [h1]
  simp only [Option.bind_some]
  rw [h4]
  rfl
theorem rat_step (n m : Nat) (hn : 10000 < n) (r : RuleV) (ha : dayOK r.a = true) (hb : dayOK r.b = true) (h1 : -89999 ≤ r.off ∧ r.off ≤ 89999) (h2 : -89999 ≤ r.doff ∧ r.doff ≤ 89999)
    (t y Y : Int) (hy : 2 ≤ y ∧ y ≤ 9998) (hY : 2 ≤ Y ∧ Y ≤ 9996) (hle : y ≤ Y + 1) (s : Bool × Int × Bool) :
    clepsydraref07_At_l0 n (m + 1) t Y s.2.1 s.2.2 s.1 y r.std r.dst r.off r.doff r.a.k r.a.m r.a.w r.a.d r.a.t r.b.k r.b.m r.b.w r.b.d r.b.t
    = clepsydraref07_At_l0 n m t Y (yearStep r t y s).2.1 (yearStep r t y s).2.2 (yearStep r t y s).1 (y + 1) r.std r.dst r.off r.doff r.a.k r.a.m r.a.w r.a.d r.a.t r.b.k r.b.m r.b.w r.b.d r.b.t := by
  have b1 := switchS_bd r.a y ha (by omega)
  have b2 := switchS_bd r.b y hb (by omega)
  obtain ⟨met, latest, summer⟩ := s
  rw [clepsydraref07_At_l0, clepsydraref07_At_l0_b, wi (Y + 1) (by omega) (by omega), cond_pos hle, clepsydraref07_At_j3, clepsydraref07_At_j3_b, rswitch_val n r.a y hn ha (by omega), rswitch_val n r.b y hn hb (by omega)]
  simp only [Option.bind_some]
  rw [wi (switchS r.a y - r.off) (by omega) (by omega), wi (switchS r.b y - r.doff) (by omega) (by omega)]
  have hj2 : clepsydraref07_At_j2 n t latest summer met (switchS r.a y - r.off) = some ((seeS t (switchS r.a y - r.off) true (met, latest, summer)).2.1, (seeS t (switchS r.a y - r.off) true (met, latest, summer)).2.2, (seeS t (switchS r.a y - r.off) true (met, latest, summer)).1) := by
    rw [clepsydraref07_At_j2, clepsydraref07_At_j2_b, clepsydraref07_At_j1, clepsydraref07_At_j1_b]
    unfold seeS
    dsimp only
    generalize switchS r.a y - r.off = u
    by_cases q1 : u ≤ t
    · rw [cond_pos q1]
      cases met with
      | false => simp [q1]
      | true =>
        by_cases q2 : latest < u
        · simp [q1, q2]
        · simp [q1, q2]
    · rw [cond_neg q1]
      simp [q1]
  rw [hj2]
  simp only [Option.bind_some]
  generalize hs2 : seeS t (switchS r.a y - r.off) true (met, latest, summer) = s2
  obtain ⟨met2, latest2, summer2⟩ := s2
  have hstep : yearStep r t y (met, latest, summer) = seeS t (switchS r.b y - r.doff) false (met2, latest2, summer2) := by unfold yearStep; rw [hs2]
  rw [hstep]
  rw [clepsydraref07_At_j0, clepsydraref07_At_j0_b]
  unfold seeS
  dsimp only
  rw [wi (y + 1) (by omega) (by omega)]
  generalize switchS r.b y - r.doff = u
  by_cases q1 : u ≤ t
  · rw [cond_pos q1]
    cases met2 with
    | false => simp [q1]
    | true =>
      by_cases q2 : latest2 ≤ u
      · have q3 : latest2 < u ∨ u = latest2 := by omega
        simp [q1, q2, q3]
      · have q3 : ¬ (latest2 < u ∨ u = latest2) := by omega
        simp [q1, q2, q3]
  · rw [cond_neg q1]
    simp [q1]
theorem rat_val (n : Nat) (r : RuleV) (s : Int) (hn : 20000 < n) (h : rightS r = true) (hd : r.dst ≠ []) :
    ∃ y, InYear y ((clampS s + r.off) / 86400) ∧ 1600 ≤ y ∧ y ≤ 5200 ∧ clepsydraref07_At_f n r.std r.dst r.off r.doff r.a.k r.a.m r.a.w r.a.d r.a.t r.b.k r.b.m r.b.w r.b.d r.b.t s = some (atYear r (clampS s) y) := by
  obtain ⟨h1, h2, h3, h4⟩ := right_of' h
  obtain ⟨h4, _, h5, h6, h7, h8⟩ := h4.resolve_left (fun q => hd q.1)
  have l1 : r.std.length ≤ 10 := by unfold isName at h1; simp only [Bool.and_eq_true, decide_eq_true_eq] at h1; exact h1.1.2
  have l2 : r.dst.length ≤ 10 := by unfold isName at h4; simp only [Bool.and_eq_true, decide_eq_true_eq] at h4; exact h4.1.2
  have hc := clampS_bd s
  obtain ⟨y, k1, k2, k3⟩ := yearOf_val n hn ((clampS s + r.off) / 86400) (by omega)
  have hy := year_bd (by omega) k2 (by omega)
  refine ⟨y, k2, hy.1, hy.2, ?_⟩
  unfold clepsydraref07_At_f clepsydraref07_At_b
  rw [rright_val n _ _ _ _ _ _ _ _ _ _ _ _ _ _ (by omega) (by omega) (by omega) (by omega)]
  rw [show rightS ⟨r.std, r.dst, r.off, r.doff, ⟨r.a.k, r.a.m, r.a.w, r.a.d, r.a.t⟩, ⟨r.b.k, r.b.m, r.b.w, r.b.d, r.b.t⟩⟩ = true from h]
  simp only [Option.bind_some, Bool.not_true, cond_false]
  rw [show (r.dst == ([] : Str)) = false by simpa using hd, cond_false]
  change ((clepsydraref07_floor_f n (IntKind.i64.wrap (clampS s + r.off)) 86400).bind fun o316 => (clepsydraref07_yearOf_f n o316).bind fun o329 => (clepsydraref07_At_l0 n n (clampS s) o329 0 false false (IntKind.i64.wrap (o329 - 2)) r.std r.dst r.off r.doff r.a.k r.a.m r.a.w r.a.d r.a.t r.b.k r.b.m r.b.w r.b.d r.b.t).bind _) = _
  rw [wi (clampS s + r.off) (by omega) (by omega), rfloor_val n _ (by omega)]
  simp only [Option.bind_some]
  rw [k1]
  simp only [Option.bind_some]
  rw [wi (y - 2) (by omega) (by omega)]
  obtain ⟨k, hk⟩ : ∃ k, n = k + 1 + 1 + 1 + 1 + 1 := ⟨n - 5, by omega⟩
  have st := fun m (z : Int) (hz : y - 2 ≤ z ∧ z ≤ y + 1) s' => rat_step n m (by omega) r h7 h8 (by omega) (by omega) (clampS s) z y (by omega) (by omega) hz.2 s'
  conv => lhs; arg 1; arg 2; rw [hk]
  rw [st _ (y - 2) (by omega) (false, 0, false), st _ (y - 2 + 1) (by omega), st _ (y - 2 + 1 + 1) (by omega), st _ (y - 2 + 1 + 1 + 1) (by omega)]
  rw [clepsydraref07_At_l0, clepsydraref07_At_l0_b, wi (y + 1) (by omega) (by omega), cond_neg (by omega)]
  simp only [Option.bind_some]
  unfold atYear stepsS
  rw [show y - 2 + 1 = y - 1 by omega, show y - 1 + 1 = y by omega]
  cases (yearStep r (clampS s) (y + 1) (yearStep r (clampS s) y (yearStep r (clampS s) (y - 1) (yearStep r (clampS s) (y - 2) (false, 0, false))))).2.2 <;> rfl
theorem rat_plain (n : Nat) (r : RuleV) (s : Int) (h : rightS r = true) (hd : r.dst = []) (hs : r.std.length < 9223372036854775808) (hn : r.std.length < n) :
    clepsydraref07_At_f n r.std r.dst r.off r.doff r.a.k r.a.m r.a.w r.a.d r.a.t r.b.k r.b.m r.b.w r.b.d r.b.t s = some (r.off, false) := by
  unfold clepsydraref07_At_f clepsydraref07_At_b
  rw [rright_val n _ _ _ _ _ _ _ _ _ _ _ _ _ _ hs hn (by rw [hd]; simp) (by rw [hd]; simp; omega)]
  rw [show rightS ⟨r.std, r.dst, r.off, r.doff, ⟨r.a.k, r.a.m, r.a.w, r.a.d, r.a.t⟩, ⟨r.b.k, r.b.m, r.b.w, r.b.d, r.b.t⟩⟩ = true from h, hd]
  rfl
theorem rat_bad (n : Nat) (r : RuleV) (s : Int) (h : rightS r = false) (hs : r.std.length < 9223372036854775808) (hn : r.std.length < n) (hs' : r.dst.length < 9223372036854775808) (hn' : r.dst.length < n) :
    clepsydraref07_At_f n r.std r.dst r.off r.doff r.a.k r.a.m r.a.w r.a.d r.a.t r.b.k r.b.m r.b.w r.b.d r.b.t s = some (0, false) := by
  unfold clepsydraref07_At_f clepsydraref07_At_b
  rw [rright_val n _ _ _ _ _ _ _ _ _ _ _ _ _ _ hs hn hs' hn']
  rw [show rightS ⟨r.std, r.dst, r.off, r.doff, ⟨r.a.k, r.a.m, r.a.w, r.a.d, r.a.t⟩, ⟨r.b.k, r.b.m, r.b.w, r.b.d, r.b.t⟩⟩ = false from h]
  rfl
theorem at_same (n : Nat) (r : RuleV) (s : Int) (hn : 20000 < n) (hs : r.std.length < 9223372036854775808) (h1 : r.std.length < n) (hs' : r.dst.length < 9223372036854775808) (h1' : r.dst.length < n) :
    ∃ o, footer_At_f n r.std r.dst r.off r.doff r.a.k r.a.m r.a.w r.a.d r.a.t r.b.k r.b.m r.b.w r.b.d r.b.t s = some o ∧ clepsydraref07_At_f n r.std r.dst r.off r.doff r.a.k r.a.m r.a.w r.a.d r.a.t r.b.k r.b.m r.b.w r.b.d r.b.t s = some o := by
  cases h : rightS r with
  | false => exact ⟨_, at_bad n r s h hs h1 hs' h1', rat_bad n r s h hs h1 hs' h1'⟩
  | true =>
    by_cases hd : r.dst = []
    · exact ⟨_, at_plain n r s (by omega) h hd, rat_plain n r s h hd hs h1⟩
    · obtain ⟨y, a1, a2, a3, a4⟩ := at_val n r s (by omega) h hd
      obtain ⟨z, b1, b2, b3, b4⟩ := rat_val n r s hn h hd
      have := InYear.one (by omega) (by omega) a1 b1
      subst this
      exact ⟨_, a4, b4⟩
theorem footerAt_law (n : Nat) (r : RuleV) (s : Int) (d : DayV) (y : Int) (hn : 20000 < n) (hs : r.std.length < 9223372036854775808) (h1 : r.std.length < n) (hs' : r.dst.length < 9223372036854775808) (h1' : r.dst.length < n) :
    clepsydralaw07_FooterAt_f n r.std r.dst r.off r.doff r.a.k r.a.m r.a.w r.a.d r.a.t r.b.k r.b.m r.b.w r.b.d r.b.t s d.k d.m d.w d.d d.t y = some true := by
  obtain ⟨o, e1, e2⟩ := at_same n r s hn hs h1 hs' h1'
  unfold clepsydralaw07_FooterAt_f clepsydralaw07_FooterAt_b clepsydralaw07_plain_f clepsydralaw07_plain_b
  simp only [Option.bind_some]
  rw [e1, e2]
  simp only [Option.bind_some]
  rw [switch_val n d y (by omega), rright_val n [65, 65, 65] [66, 66, 66] 0 0 d.k d.m d.w d.d d.t d.k d.m d.w d.d d.t (by simp) (by simp; omega) (by simp) (by simp; omega)]
  simp only [Option.bind_some]
  rw [clepsydralaw07_FooterAt_j3, clepsydralaw07_FooterAt_j3_b]
  have hone : rightS ⟨[65, 65, 65], [66, 66, 66], 0, 0, ⟨d.k, d.m, d.w, d.d, d.t⟩, ⟨d.k, d.m, d.w, d.d, d.t⟩⟩ = dayOK d := by
    unfold rightS
    rw [if_neg (by simp)]
    have a1 : isName [65, 65, 65] = true := by decide +kernel
    have a2 : isName [66, 66, 66] = true := by decide +kernel
    have a3 : nearB 0 89999 = true := by decide +kernel
    simp only [a1, a2, a3, Bool.true_and]
    cases dayOK d <;> rfl
  rw [hone]
  simp only [bne_self_eq_false, cond_false, beq_self_eq_true, Bool.not_true, Option.bind_some]
  cases hd : dayOK d with
  | false =>
    simp only [Bool.false_eq_true, if_false, Bool.not_false, cond_true]
    rw [clepsydralaw07_FooterAt_j2, clepsydralaw07_FooterAt_j2_b, works_val n (by omega)]
    rfl
  | true =>
    simp only [if_true, Bool.not_true, cond_false]
    rw [clepsydralaw07_FooterAt_j1, clepsydralaw07_FooterAt_j1_b]
    by_cases hy1 : y < 2
    · rw [cond_pos hy1, if_neg (by omega)]
      simp only [Option.bind_some, cond_true]
      rw [clepsydralaw07_FooterAt_j0, clepsydralaw07_FooterAt_j0_b, works_val n (by omega)]
      rfl
    · rw [cond_neg hy1]
      by_cases hy2 : y > 9998
      · rw [decide_eq_true hy2, if_neg (by omega)]
        simp only [Option.bind_some, cond_true]
        rw [clepsydralaw07_FooterAt_j0, clepsydralaw07_FooterAt_j0_b, works_val n (by omega)]
        rfl
      · rw [decide_eq_false hy2, if_pos (by omega)]
        simp only [Option.bind_some, cond_false]
        rw [rswitch_val n d y (by omega) hd (by omega), works_val n (by omega)]
        simp
end Go.Proofs.YtpooncihlnllnaaDoor.H

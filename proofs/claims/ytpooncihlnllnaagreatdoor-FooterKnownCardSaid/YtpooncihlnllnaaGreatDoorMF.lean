import Derived.Test.YtpooncihlnllnaaGreatDoorME
import Derived.Test.YtpooncihlnllnaaGreatDoorT0c
import Derived.Test.YtpooncihlnllnaaGreatDoorMB
import Derived.Test.YtpooncihlnllnaaGreatDoorMC
import Derived.Test.YtpooncihlnllnaaGreatDoorMD
/- Chapter 07: the offset that holds, as the program tells it. -/
namespace Go.Proofs.YtpooncihlnllnaaGreatDoor.H
open Go.Sh Go.RowKit
set_option linter.unusedSimpArgs false
set_option linter.unusedVariables false

/-- A switch seen: is one met; the latest; is it summer's. -/
def seeS (t at' : Int) (is : Bool) (s : Bool × Int × Bool) : Bool × Int × Bool := if at' ≤ t ∧ (s.1 = false ∨ s.2.1 < at' ∨ at' = s.2.1 ∧ is = false) then (true, at', is) else s
def yearStep (r : RuleV) (t y : Int) (s : Bool × Int × Bool) : Bool × Int × Bool := seeS t (switchS r.b y - r.doff) false (seeS t (switchS r.a y - r.off) true s)
def stepsS (r : RuleV) (t y : Int) : Bool × Int × Bool := yearStep r t (y + 1) (yearStep r t y (yearStep r t (y - 1) (yearStep r t (y - 2) (false, 0, false))))
theorem see_val (n : Nat) (t at' : Int) (is : Bool) (s : Bool × Int × Bool) : footer_At_1_f n at' is t s.1 s.2.1 s.2.2 = some (t, seeS t at' is s) := by
  obtain ⟨met, latest, summer⟩ := s
  unfold footer_At_1_f footer_At_1_b seeS
  dsimp only
  rw [beqI]
  by_cases h1 : at' ≤ t
  · rw [cond_pos h1]
    cases met with
    | false => simp [h1]
    | true =>
      simp only [Bool.not_true, cond_false]
      by_cases h2 : at' > latest
      · rw [cond_pos h2, if_pos ⟨h1, .inr (.inl h2)⟩]
      · rw [cond_neg h2]
        by_cases h3 : at' = latest
        · rw [cond_pos h3]
          cases is with
          | false => rw [if_pos ⟨h1, .inr (.inr ⟨h3, rfl⟩)⟩]; rfl
          | true =>
            rw [if_neg (by rintro ⟨_, h | h | h⟩; · cases h
                           · exact h2 h
                           · cases h.2)]
            rfl
        · rw [cond_neg h3, if_neg (by rintro ⟨_, h | h | h⟩; · cases h
                                      · exact h2 h
                                      · exact h3 h.1)]
  · rw [cond_neg h1, if_neg (by rintro ⟨h, _⟩; exact h1 h)]
theorem switchS_bd (d : DayV) (y : Int) (h : dayOK d = true) (hy : 1 ≤ y ∧ y ≤ 9999) : -100000000000 ≤ switchS d y ∧ switchS d y ≤ 300000000000 := by
  have h1 := dayS2_bd d y h hy
  have h2 := dayOK_of' h
  unfold switchS
  omega
theorem at_step (n m : Nat) (hn : 5 < n) (r : RuleV) (ha : dayOK r.a = true) (hb : dayOK r.b = true) (h1 : -89999 ≤ r.off ∧ r.off ≤ 89999) (h2 : -89999 ≤ r.doff ∧ r.doff ≤ 89999)
    (t y Y mm dd : Int) (hy : 2 ≤ y ∧ y ≤ 9998) (hY : 2 ≤ Y ∧ Y ≤ 9996) (hlt : y < Y + 2) (s : Bool × Int × Bool) :
    footer_At_l0 n (m + 1) y r.std r.dst r.off r.doff r.a.k r.a.m r.a.w r.a.d r.a.t r.b.k r.b.m r.b.w r.b.d r.b.t t Y mm dd s.2.1 s.2.2 s.1
    = footer_At_l0 n m (y + 1) r.std r.dst r.off r.doff r.a.k r.a.m r.a.w r.a.d r.a.t r.b.k r.b.m r.b.w r.b.d r.b.t t Y mm dd (yearStep r t y s).2.1 (yearStep r t y s).2.2 (yearStep r t y s).1 := by
  have b1 := switchS_bd r.a y ha (by omega)
  have b2 := switchS_bd r.b y hb (by omega)
  rw [footer_At_l0, footer_At_l0_b, wi (Y + 2) (by omega) (by omega), cond_pos hlt, switch_val n r.a y hn, switch_val n r.b y hn]
  simp only [Option.bind_some]
  rw [if_pos ha, if_pos hb, if_pos hy, if_pos hy]
  simp only
  rw [wi (switchS r.a y - r.off) (by omega) (by omega), wi (switchS r.b y - r.doff) (by omega) (by omega), see_val]
  simp only [Option.bind_some]
  rw [see_val]
  simp only [Option.bind_some]
  rw [wi (y + 1) (by omega) (by omega)]
  rfl
def clampS (s : Int) : Int := if (-10000000000 : Int) < (if s < (100000000000 : Int) then s else (100000000000 : Int)) then (if s < (100000000000 : Int) then s else (100000000000 : Int)) else (-10000000000 : Int)
theorem clampS_bd (s : Int) : -10000000000 ≤ clampS s ∧ clampS s ≤ 100000000000 := by
  unfold clampS
  split <;> (try split) <;> omega
theorem begS_1600 : begS 1600 = -135140 := by decide +kernel
theorem begS_5200 : begS 5200 = 1179733 := by decide +kernel
theorem year_bd {y n : Int} (hy : 1 ≤ y) (h : InYear y n) (hn : -130000 ≤ n ∧ n ≤ 1170000) : 1600 ≤ y ∧ y ≤ 5200 := by
  have e1 := begS_1600
  have e2 := begS_5200
  constructor
  · by_cases hlt : y < 1600
    · have := begS_lt (a := y + 1) (b := 1600) (by omega) (by omega)
      have := h.2
      omega
    · omega
  · by_cases hgt : 5200 < y
    · have := begS_lt (a := 5200) (b := y) (by omega) (by omega)
      have := h.1
      omega
    · omega
theorem right_of' {r : RuleV} (h : rightS r = true) : isName r.std = true ∧ -89999 ≤ r.off ∧ r.off ≤ 89999 ∧
    (r.dst = [] ∧ r.doff = 0 ∨ isName r.dst = true ∧ r.dst ≠ [] ∧ -89999 ≤ r.doff ∧ r.doff ≤ 89999 ∧ dayOK r.a = true ∧ dayOK r.b = true) := by
  unfold rightS at h
  simp only [Bool.and_eq_true, nearB, decide_eq_true_eq] at h
  obtain ⟨⟨h1, h2⟩, h⟩ := h
  refine ⟨h1, h2.1, h2.2, ?_⟩
  split at h
  · rename_i hd
    simp only [Bool.and_eq_true, beq_iff_eq] at h
    exact .inl ⟨hd, h.1.1⟩
  · rename_i hd
    simp only [Bool.and_eq_true, decide_eq_true_eq] at h
    exact .inr ⟨h.1.1.1, hd, h.1.1.2.1, h.1.1.2.2, h.1.2, h.2⟩
/-- What holds at a time, told by the year. -/
def atYear (r : RuleV) (t y : Int) : Int × Bool := if (stepsS r t y).2.2 = true then (r.doff, true) else (r.off, false)
theorem at_val (n : Nat) (r : RuleV) (s : Int) (hn : 200 < n) (h : rightS r = true) (hd : r.dst ≠ []) :
    ∃ y, InYear y ((clampS s + r.off) / 86400) ∧ 1600 ≤ y ∧ y ≤ 5200 ∧ footer_At_f n r.std r.dst r.off r.doff r.a.k r.a.m r.a.w r.a.d r.a.t r.b.k r.b.m r.b.w r.b.d r.b.t s = some (atYear r (clampS s) y) := by
  obtain ⟨h1, h2, h3, h4⟩ := right_of' h
  obtain ⟨h4, _, h5, h6, h7, h8⟩ := h4.resolve_left (fun q => hd q.1)
  have l1 : r.std.length ≤ 10 := by unfold isName at h1; simp only [Bool.and_eq_true, decide_eq_true_eq] at h1; exact h1.1.2
  have l2 : r.dst.length ≤ 10 := by unfold isName at h4; simp only [Bool.and_eq_true, decide_eq_true_eq] at h4; exact h4.1.2
  have hc := clampS_bd s
  obtain ⟨y, mm, dd, k1, k2, k3⟩ := of_val n ((clampS s + r.off) / 86400) (by omega)
  have hy := year_bd k3 k2 (by omega)
  refine ⟨y, k2, hy.1, hy.2, ?_⟩
  unfold footer_At_f footer_At_b
  rw [right_val n _ _ _ _ _ _ _ _ _ _ _ _ _ _ (by omega) (by omega) (by omega) (by omega)]
  rw [show rightS ⟨r.std, r.dst, r.off, r.doff, ⟨r.a.k, r.a.m, r.a.w, r.a.d, r.a.t⟩, ⟨r.b.k, r.b.m, r.b.w, r.b.d, r.b.t⟩⟩ = true from h]
  simp only [Option.bind_some, Bool.not_true, cond_false]
  rw [show (r.dst == ([] : Str)) = false by simpa using hd, cond_false]
  change ((footer_floor_f n (IntKind.i64.wrap (clampS s + r.off)) 86400).bind fun o304 => (civil_Of_f n o304).bind fun o308 => (footer_At_l0 n n (IntKind.i64.wrap (o308.1 - 2)) r.std r.dst r.off r.doff r.a.k r.a.m r.a.w r.a.d r.a.t r.b.k r.b.m r.b.w r.b.d r.b.t (clampS s) o308.1 o308.2.1 o308.2.2.1 0 false false).bind _) = _
  rw [wi (clampS s + r.off) (by omega) (by omega), floor_val n _ (by omega)]
  simp only [Option.bind_some]
  rw [k1]
  simp only [Option.bind_some]
  rw [wi (y - 2) (by omega) (by omega)]
  obtain ⟨k, hk⟩ : ∃ k, n = k + 1 + 1 + 1 + 1 + 1 := ⟨n - 5, by omega⟩
  have st := fun m (z : Int) (hz : y - 2 ≤ z ∧ z < y + 2) s' => at_step n m (by omega) r h7 h8 (by omega) (by omega) (clampS s) z y mm dd (by omega) (by omega) hz.2 s'
  conv => lhs; arg 1; arg 2; rw [hk]
  rw [st _ (y - 2) (by omega) (false, 0, false), st _ (y - 2 + 1) (by omega), st _ (y - 2 + 1 + 1) (by omega), st _ (y - 2 + 1 + 1 + 1) (by omega)]
  rw [footer_At_l0, footer_At_l0_b, wi (y + 2) (by omega) (by omega), cond_neg (by omega)]
  simp only [Option.bind_some]
  unfold atYear stepsS
  rw [show y - 2 + 1 = y - 1 by omega, show y - 1 + 1 = y by omega]
  cases (yearStep r (clampS s) (y + 1) (yearStep r (clampS s) y (yearStep r (clampS s) (y - 1) (yearStep r (clampS s) (y - 2) (false, 0, false))))).2.2 <;> rfl
theorem at_plain (n : Nat) (r : RuleV) (s : Int) (hn : 200 < n) (h : rightS r = true) (hd : r.dst = []) :
    footer_At_f n r.std r.dst r.off r.doff r.a.k r.a.m r.a.w r.a.d r.a.t r.b.k r.b.m r.b.w r.b.d r.b.t s = some (r.off, false) := by
  obtain ⟨h1, _⟩ := right_of' h
  have l1 : r.std.length ≤ 10 := by unfold isName at h1; simp only [Bool.and_eq_true, decide_eq_true_eq] at h1; exact h1.1.2
  unfold footer_At_f footer_At_b
  rw [right_val n _ _ _ _ _ _ _ _ _ _ _ _ _ _ (by omega) (by omega) (by rw [hd]; simp) (by rw [hd]; simp; omega)]
  rw [show rightS ⟨r.std, r.dst, r.off, r.doff, ⟨r.a.k, r.a.m, r.a.w, r.a.d, r.a.t⟩, ⟨r.b.k, r.b.m, r.b.w, r.b.d, r.b.t⟩⟩ = true from h, hd]
  rfl
theorem at_bad (n : Nat) (r : RuleV) (s : Int) (h : rightS r = false) (hs : r.std.length < 9223372036854775808) (hn : r.std.length < n) (hs' : r.dst.length < 9223372036854775808) (hn' : r.dst.length < n) :
    footer_At_f n r.std r.dst r.off r.doff r.a.k r.a.m r.a.w r.a.d r.a.t r.b.k r.b.m r.b.w r.b.d r.b.t s = some (0, false) := by
  unfold footer_At_f footer_At_b
  rw [right_val n _ _ _ _ _ _ _ _ _ _ _ _ _ _ hs hn hs' hn']
  rw [show rightS ⟨r.std, r.dst, r.off, r.doff, ⟨r.a.k, r.a.m, r.a.w, r.a.d, r.a.t⟩, ⟨r.b.k, r.b.m, r.b.w, r.b.d, r.b.t⟩⟩ = false from h]
  rfl
end Go.Proofs.YtpooncihlnllnaaGreatDoor.H

/- Chapter 07: the offset that holds, as the reference tells it; the law FooterAt. -/
namespace Go.Proofs.YtpooncihlnllnaaGreatDoor.H
open Go.Sh Go.RowKit
set_option linter.unusedSimpArgs false
set_option linter.unusedVariables false

theorem rfloor_val (n : Nat) (a : Int) (h : -1000000000000 ≤ a ∧ a ≤ 1000000000000) : clepsydraref07_floor_f n a 86400 = some (a / 86400) := by
  unfold clepsydraref07_floor_f clepsydraref07_floor_b
  rw [show ((86400 : Int) == 0) = false from rfl]
  simp only [cond_false]
  by_cases ha : 0 ≤ a
  · rw [tm0 ha, td0 ha, cond_neg (by omega), wi _ (by omega) (by omega)]
  · obtain ⟨b, rfl⟩ : ∃ b : Int, a = -b := ⟨-a, by omega⟩
    rw [Int.neg_tmod, Int.neg_tdiv, tm0 (by omega), td0 (by omega)]
    by_cases hz : b % 86400 = 0
    · rw [cond_neg (by omega), wi _ (by omega) (by omega)]
      congr 1
      omega
    · rw [cond_pos (by omega)]
      simp (disch := omega) only [wi]
      congr 1
      omega
theorem year_down (n : Nat) (hn : 10000 < n) (d : Int) (hd : -130000 ≤ d ∧ d ≤ 1170000) : ∀ (m : Nat) (y : Int), y.toNat < m → 1600 ≤ y ∧ y ≤ 1970 → ∃ y', clepsydraref07_yearOf_l1 n m d y = some y' ∧ begS y' ≤ d ∧ 1600 ≤ y' ∧ y' ≤ 1970
  | 0, y, h, _ => by omega
  | m + 1, y, h, hy => by
    have hb := begS_bd y (by omega)
    rw [clepsydraref07_yearOf_l1, clepsydraref07_yearOf_l1_b, begins_val n y hn (by omega)]
    simp only [Option.bind_some]
    by_cases hlt : d < begS y
    · rw [cond_pos hlt]
      simp (disch := omega) only [wi, td0]
      have e1 := begS_1600
      have h0 := begS_lt (a := y) (b := 1970) (by omega) (by omega)
      rw [begS_1970] at h0
      obtain ⟨k, hk⟩ : ∃ k : Nat, (begS y - d) / 366 = (k : Int) := ⟨((begS y - d) / 366).toNat, by omega⟩
      rw [hk]
      have hm := (begS_mono (k + 1) (y - 1 - k) (by omega)).2
      rw [show y - 1 - (k : Int) + ((k + 1 : Nat) : Int) = y by omega] at hm
      have hlow : 1600 ≤ y - 1 - (k : Int) := by
        by_cases hq : y - 1 - (k : Int) < 1600
        · have hm2 := (begS_mono (1600 - (y - 1 - (k : Int))).toNat (y - 1 - k) (by omega)).1
          rw [show y - 1 - (k : Int) + (((1600 - (y - 1 - (k : Int))).toNat : Nat) : Int) = 1600 by omega] at hm2
          omega
        · omega
      exact year_down n hn d hd m (y - 1 - k) (by omega) (by omega)
    · rw [cond_neg hlt]
      exact ⟨y, rfl, by omega, hy.1, hy.2⟩
theorem year_up (n : Nat) (hn : 10000 < n) (d : Int) (hd : -130000 ≤ d ∧ d ≤ 1170000) : ∀ (m : Nat) (y : Int), (6000 - y).toNat < m → 1600 ≤ y → begS y ≤ d → ∃ y', clepsydraref07_yearOf_l0 n m d y = some y' ∧ InYear y' d ∧ 1600 ≤ y'
  | 0, y, h, hy, hb => by
    have h1 := begS_5200
    by_cases hq : 5200 < y
    · have := begS_lt (a := 5200) (b := y) (by omega) (by omega)
      omega
    · omega
  | m + 1, y, h, hy, hb => by
    have h1 := begS_5200
    have hyu : y ≤ 5200 := by
      by_cases hq : 5200 < y
      · have := begS_lt (a := 5200) (b := y) (by omega) (by omega)
        omega
      · omega
    have hbb := begS_bd (y + 1) (by omega)
    rw [clepsydraref07_yearOf_l0, clepsydraref07_yearOf_l0_b, wi (y + 1) (by omega) (by omega), begins_val n (y + 1) hn (by omega)]
    simp only [Option.bind_some]
    by_cases hge : d ≥ begS (y + 1)
    · rw [cond_pos hge]
      simp (disch := omega) only [wi, td0]
      obtain ⟨k, hk⟩ : ∃ k : Nat, (d - begS (y + 1)) / 366 = (k : Int) := ⟨((d - begS (y + 1)) / 366).toNat, by omega⟩
      rw [hk]
      have hm := (begS_mono k (y + 1) (by omega)).2
      exact year_up n hn d hd m (y + 1 + k) (by omega) (by omega) (by omega)
    · rw [cond_neg hge]
      exact ⟨y, rfl, ⟨hb, by omega⟩, hy⟩
theorem yearOf_val (n : Nat) (hn : 20000 < n) (d : Int) (hd : -130000 ≤ d ∧ d ≤ 1170000) : ∃ y, clepsydraref07_yearOf_f n d = some y ∧ InYear y d ∧ 1600 ≤ y := by
  obtain ⟨y1, h1, h2, h3, _⟩ := year_down n (by omega) d hd n 1970 (by omega) (by omega)
  obtain ⟨y2, h4, h5, h6⟩ := year_up n (by omega) d hd n y1 (by omega) h3 h2
  refine ⟨y2, ?_, h5, h6⟩
  unfold clepsydraref07_yearOf_f clepsydraref07_yearOf_b
  rw [h1]
  simp only [Option.bind_some]
  rw [h4]
  rfl
theorem rat_step (n m : Nat) (hn : 10000 < n) (r : RuleV) (ha : dayOK r.a = true) (hb : dayOK r.b = true) (h1 : -89999 ≤ r.off ∧ r.off ≤ 89999) (h2 : -89999 ≤ r.doff ∧ r.doff ≤ 89999)
    (t y Y : Int) (hy : 2 ≤ y ∧ y ≤ 9998) (hY : 2 ≤ Y ∧ Y ≤ 9996) (hle : y ≤ Y + 1) (s : Bool × Int × Bool) :
    clepsydraref07_At_l0 n (m + 1) t Y s.2.1 s.2.2 s.1 y r.std r.dst r.off r.doff r.a.k r.a.m r.a.w r.a.d r.a.t r.b.k r.b.m r.b.w r.b.d r.b.t
    = clepsydraref07_At_l0 n m t Y (yearStep r t y s).2.1 (yearStep r t y s).2.2 (yearStep r t y s).1 (y + 1) r.std r.dst r.off r.doff r.a.k r.a.m r.a.w r.a.d r.a.t r.b.k r.b.m r.b.w r.b.d r.b.t := by
  have b1 := switchS_bd r.a y ha (by omega)
  have b2 := switchS_bd r.b y hb (by omega)
  obtain ⟨met, latest, summer⟩ := s
  rw [clepsydraref07_At_l0, clepsydraref07_At_l0_b, wi (Y + 1) (by omega) (by omega), cond_pos hle, clepsydraref07_At_j3, clepsydraref07_At_j3_b, rswitch_val n r.a y hn ha (by omega), rswitch_val n r.b y hn hb (by omega)]
  simp only [Option.bind_some]
  rw [wi (switchS r.a y - r.off) (by omega) (by omega), wi (switchS r.b y - r.doff) (by omega) (by omega)]
  have hj2 : clepsydraref07_At_j2 n t latest summer met (switchS r.a y - r.off) = some ((seeS t (switchS r.a y - r.off) true (met, latest, summer)).2.1, (seeS t (switchS r.a y - r.off) true (met, latest, summer)).2.2, (seeS t (switchS r.a y - r.off) true (met, latest, summer)).1) := by
    rw [clepsydraref07_At_j2, clepsydraref07_At_j2_b, clepsydraref07_At_j1, clepsydraref07_At_j1_b]
    unfold seeS
    dsimp only
    generalize switchS r.a y - r.off = u
    by_cases q1 : u ≤ t
    · rw [cond_pos q1]
      cases met with
      | false => simp [q1]
      | true =>
        by_cases q2 : latest < u
        · simp [q1, q2]
        · simp [q1, q2]
    · rw [cond_neg q1]
      simp [q1]
  rw [hj2]
  simp only [Option.bind_some]
  generalize hs2 : seeS t (switchS r.a y - r.off) true (met, latest, summer) = s2
  obtain ⟨met2, latest2, summer2⟩ := s2
  have hstep : yearStep r t y (met, latest, summer) = seeS t (switchS r.b y - r.doff) false (met2, latest2, summer2) := by unfold yearStep; rw [hs2]
  rw [hstep]
  rw [clepsydraref07_At_j0, clepsydraref07_At_j0_b]
  unfold seeS
  dsimp only
  rw [wi (y + 1) (by omega) (by omega)]
  generalize switchS r.b y - r.doff = u
  by_cases q1 : u ≤ t
  · rw [cond_pos q1]
    cases met2 with
    | false => simp [q1]
    | true =>
      by_cases q2 : latest2 ≤ u
      · have q3 : latest2 < u ∨ u = latest2 := by omega
        simp [q1, q2, q3]
      · have q3 : ¬ (latest2 < u ∨ u = latest2) := by omega
        simp [q1, q2, q3]
  · rw [cond_neg q1]
    simp [q1]
theorem rat_val (n : Nat) (r : RuleV) (s : Int) (hn : 20000 < n) (h : rightS r = true) (hd : r.dst ≠ []) :
    ∃ y, InYear y ((clampS s + r.off) / 86400) ∧ 1600 ≤ y ∧ y ≤ 5200 ∧ clepsydraref07_At_f n r.std r.dst r.off r.doff r.a.k r.a.m r.a.w r.a.d r.a.t r.b.k r.b.m r.b.w r.b.d r.b.t s = some (atYear r (clampS s) y) := by
  obtain ⟨h1, h2, h3, h4⟩ := right_of' h
  obtain ⟨h4, _, h5, h6, h7, h8⟩ := h4.resolve_left (fun q => hd q.1)
  have l1 : r.std.length ≤ 10 := by unfold isName at h1; simp only [Bool.and_eq_true, decide_eq_true_eq] at h1; exact h1.1.2
  have l2 : r.dst.length ≤ 10 := by unfold isName at h4; simp only [Bool.and_eq_true, decide_eq_true_eq] at h4; exact h4.1.2
  have hc := clampS_bd s
  obtain ⟨y, k1, k2, k3⟩ := yearOf_val n hn ((clampS s + r.off) / 86400) (by omega)
  have hy := year_bd (by omega) k2 (by omega)
  refine ⟨y, k2, hy.1, hy.2, ?_⟩
  unfold clepsydraref07_At_f clepsydraref07_At_b
  rw [rright_val n _ _ _ _ _ _ _ _ _ _ _ _ _ _ (by omega) (by omega) (by omega) (by omega)]
  rw [show rightS ⟨r.std, r.dst, r.off, r.doff, ⟨r.a.k, r.a.m, r.a.w, r.a.d, r.a.t⟩, ⟨r.b.k, r.b.m, r.b.w, r.b.d, r.b.t⟩⟩ = true from h]
  simp only [Option.bind_some, Bool.not_true, cond_false]
  rw [show (r.dst == ([] : Str)) = false by simpa using hd, cond_false]
  change ((clepsydraref07_floor_f n (IntKind.i64.wrap (clampS s + r.off)) 86400).bind fun o316 => (clepsydraref07_yearOf_f n o316).bind fun o329 => (clepsydraref07_At_l0 n n (clampS s) o329 0 false false (IntKind.i64.wrap (o329 - 2)) r.std r.dst r.off r.doff r.a.k r.a.m r.a.w r.a.d r.a.t r.b.k r.b.m r.b.w r.b.d r.b.t).bind _) = _
  rw [wi (clampS s + r.off) (by omega) (by omega), rfloor_val n _ (by omega)]
  simp only [Option.bind_some]
  rw [k1]
  simp only [Option.bind_some]
  rw [wi (y - 2) (by omega) (by omega)]
  obtain ⟨k, hk⟩ : ∃ k, n = k + 1 + 1 + 1 + 1 + 1 := ⟨n - 5, by omega⟩
  have st := fun m (z : Int) (hz : y - 2 ≤ z ∧ z ≤ y + 1) s' => rat_step n m (by omega) r h7 h8 (by omega) (by omega) (clampS s) z y (by omega) (by omega) hz.2 s'
  conv => lhs; arg 1; arg 2; rw [hk]
  rw [st _ (y - 2) (by omega) (false, 0, false), st _ (y - 2 + 1) (by omega), st _ (y - 2 + 1 + 1) (by omega), st _ (y - 2 + 1 + 1 + 1) (by omega)]
  rw [clepsydraref07_At_l0, clepsydraref07_At_l0_b, wi (y + 1) (by omega) (by omega), cond_neg (by omega)]
  simp only [Option.bind_some]
  unfold atYear stepsS
  rw [show y - 2 + 1 = y - 1 by omega, show y - 1 + 1 = y by omega]
  cases (yearStep r (clampS s) (y + 1) (yearStep r (clampS s) y (yearStep r (clampS s) (y - 1) (yearStep r (clampS s) (y - 2) (false, 0, false))))).2.2 <;> rfl
theorem rat_plain (n : Nat) (r : RuleV) (s : Int) (h : rightS r = true) (hd : r.dst = []) (hs : r.std.length < 9223372036854775808) (hn : r.std.length < n) :
    clepsydraref07_At_f n r.std r.dst r.off r.doff r.a.k r.a.m r.a.w r.a.d r.a.t r.b.k r.b.m r.b.w r.b.d r.b.t s = some (r.off, false) := by
  unfold clepsydraref07_At_f clepsydraref07_At_b
  rw [rright_val n _ _ _ _ _ _ _ _ _ _ _ _ _ _ hs hn (by rw [hd]; simp) (by rw [hd]; simp; omega)]
  rw [show rightS ⟨r.std, r.dst, r.off, r.doff, ⟨r.a.k, r.a.m, r.a.w, r.a.d, r.a.t⟩, ⟨r.b.k, r.b.m, r.b.w, r.b.d, r.b.t⟩⟩ = true from h, hd]
  rfl
theorem rat_bad (n : Nat) (r : RuleV) (s : Int) (h : rightS r = false) (hs : r.std.length < 9223372036854775808) (hn : r.std.length < n) (hs' : r.dst.length < 9223372036854775808) (hn' : r.dst.length < n) :
    clepsydraref07_At_f n r.std r.dst r.off r.doff r.a.k r.a.m r.a.w r.a.d r.a.t r.b.k r.b.m r.b.w r.b.d r.b.t s = some (0, false) := by
  unfold clepsydraref07_At_f clepsydraref07_At_b
  rw [rright_val n _ _ _ _ _ _ _ _ _ _ _ _ _ _ hs hn hs' hn']
  rw [show rightS ⟨r.std, r.dst, r.off, r.doff, ⟨r.a.k, r.a.m, r.a.w, r.a.d, r.a.t⟩, ⟨r.b.k, r.b.m, r.b.w, r.b.d, r.b.t⟩⟩ = false from h]
  rfl
theorem at_same (n : Nat) (r : RuleV) (s : Int) (hn : 20000 < n) (hs : r.std.length < 9223372036854775808) (h1 : r.std.length < n) (hs' : r.dst.length < 9223372036854775808) (h1' : r.dst.length < n) :
    ∃ o, footer_At_f n r.std r.dst r.off r.doff r.a.k r.a.m r.a.w r.a.d r.a.t r.b.k r.b.m r.b.w r.b.d r.b.t s = some o ∧ clepsydraref07_At_f n r.std r.dst r.off r.doff r.a.k r.a.m r.a.w r.a.d r.a.t r.b.k r.b.m r.b.w r.b.d r.b.t s = some o := by
  cases h : rightS r with
  | false => exact ⟨_, at_bad n r s h hs h1 hs' h1', rat_bad n r s h hs h1 hs' h1'⟩
  | true =>
    by_cases hd : r.dst = []
    · exact ⟨_, at_plain n r s (by omega) h hd, rat_plain n r s h hd hs h1⟩
    · obtain ⟨y, a1, a2, a3, a4⟩ := at_val n r s (by omega) h hd
      obtain ⟨z, b1, b2, b3, b4⟩ := rat_val n r s hn h hd
      have := InYear.one (by omega) (by omega) a1 b1
      subst this
      exact ⟨_, a4, b4⟩
theorem footerAt_law (n : Nat) (r : RuleV) (s : Int) (d : DayV) (y : Int) (hn : 20000 < n) (hs : r.std.length < 9223372036854775808) (h1 : r.std.length < n) (hs' : r.dst.length < 9223372036854775808) (h1' : r.dst.length < n) :
    clepsydralaw07_FooterAt_f n r.std r.dst r.off r.doff r.a.k r.a.m r.a.w r.a.d r.a.t r.b.k r.b.m r.b.w r.b.d r.b.t s d.k d.m d.w d.d d.t y = some true := by
  obtain ⟨o, e1, e2⟩ := at_same n r s hn hs h1 hs' h1'
  unfold clepsydralaw07_FooterAt_f clepsydralaw07_FooterAt_b clepsydralaw07_plain_f clepsydralaw07_plain_b
  simp only [Option.bind_some]
  rw [e1, e2]
  simp only [Option.bind_some]
  rw [switch_val n d y (by omega), rright_val n [65, 65, 65] [66, 66, 66] 0 0 d.k d.m d.w d.d d.t d.k d.m d.w d.d d.t (by simp) (by simp; omega) (by simp) (by simp; omega)]
  simp only [Option.bind_some]
  rw [clepsydralaw07_FooterAt_j3, clepsydralaw07_FooterAt_j3_b]
  have hone : rightS ⟨[65, 65, 65], [66, 66, 66], 0, 0, ⟨d.k, d.m, d.w, d.d, d.t⟩, ⟨d.k, d.m, d.w, d.d, d.t⟩⟩ = dayOK d := by
    unfold rightS
    rw [if_neg (by simp)]
    have a1 : isName [65, 65, 65] = true := by decide +kernel
    have a2 : isName [66, 66, 66] = true := by decide +kernel
    have a3 : nearB 0 89999 = true := by decide +kernel
    simp only [a1, a2, a3, Bool.true_and]
    cases dayOK d <;> rfl
  rw [hone]
  simp only [bne_self_eq_false, cond_false, beq_self_eq_true, Bool.not_true, Option.bind_some]
  cases hd : dayOK d with
  | false =>
    simp only [Bool.false_eq_true, if_false, Bool.not_false, cond_true]
    rw [clepsydralaw07_FooterAt_j2, clepsydralaw07_FooterAt_j2_b, works_val n (by omega)]
    rfl
  | true =>
    simp only [if_true, Bool.not_true, cond_false]
    rw [clepsydralaw07_FooterAt_j1, clepsydralaw07_FooterAt_j1_b]
    by_cases hy1 : y < 2
    · rw [cond_pos hy1, if_neg (by omega)]
      simp only [Option.bind_some, cond_true]
      rw [clepsydralaw07_FooterAt_j0, clepsydralaw07_FooterAt_j0_b, works_val n (by omega)]
      rfl
    · rw [cond_neg hy1]
      by_cases hy2 : y > 9998
      · rw [decide_eq_true hy2, if_neg (by omega)]
        simp only [Option.bind_some, cond_true]
        rw [clepsydralaw07_FooterAt_j0, clepsydralaw07_FooterAt_j0_b, works_val n (by omega)]
        rfl
      · rw [decide_eq_false hy2, if_pos (by omega)]
        simp only [Option.bind_some, cond_false]
        rw [rswitch_val n d y (by omega) hd (by omega), works_val n (by omega)]
        simp
end Go.Proofs.YtpooncihlnllnaaGreatDoor.H

/- Chapter 07: what is so of the offset that holds: four hundred years later; between two switches. -/
namespace Go.Proofs.YtpooncihlnllnaaGreatDoor.H
open Go.Sh Go.RowKit
set_option linter.unusedSimpArgs false
set_option linter.unusedVariables false

/-! ### four hundred years later -/
theorem daysS_400 (y m : Int) : daysS (y + 400) m 1 = daysS y m 1 + 146097 := by
  unfold daysS
  by_cases h : m ≤ 2
  · simp only [if_pos h]
    generalize (153 * ((m + 9) % 12) + 2) / 5 = q
    omega
  · simp only [if_neg h]
    generalize (153 * ((m + 9) % 12) + 2) / 5 = q
    omega
theorem leapS_400 (y : Int) : leapS (y + 400) = leapS y := by
  unfold leapS
  rw [show (y + 400) % 4 = y % 4 by omega, show (y + 400) % 100 = y % 100 by omega, show (y + 400) % 400 = y % 400 by omega]
theorem longS_400 (y m : Int) : longS (y + 400) m = longS y m := by
  unfold longS
  rw [leapS_400]
theorem dayS2_400 (d : DayV) (y : Int) : dayS2 d (y + 400) = dayS2 d y + 146097 := by
  unfold dayS2
  rw [leapS_400, daysS_400, daysS_400]
  have ha : aheadS (y + 400) d = aheadS y d := by
    unfold aheadS
    rw [longS_400, daysS_400]
    rw [show (daysS y d.m 1 + 146097 + 3) % 7 = (daysS y d.m 1 + 3) % 7 by omega]
  rw [ha]
  split
  · omega
  · split
    · split <;> omega
    · omega
theorem switchS_400 (d : DayV) (y : Int) : switchS d (y + 400) = switchS d y + 12622780800 := by
  unfold switchS
  rw [dayS2_400]
  omega
theorem InYear_400 {y n : Int} (h : InYear y n) : InYear (y + 400) (n + 146097) := by
  have h1 := daysS_400 y 1
  have h2 := daysS_400 (y + 1) 1
  unfold InYear begS at *
  rw [show y + 400 + 1 = y + 1 + 400 by omega]
  omega
/-- The same, later. -/
def Later (p : Int) (s s' : Bool × Int × Bool) : Prop := s'.1 = s.1 ∧ s'.2.2 = s.2.2 ∧ (s.1 = true → s'.2.1 = s.2.1 + p)
theorem see_later (p t at' : Int) (is : Bool) {s s' : Bool × Int × Bool} (h : Later p s s') : Later p (seeS t at' is s) (seeS (t + p) (at' + p) is s') := by
  obtain ⟨m, l, u⟩ := s
  obtain ⟨m', l', u'⟩ := s'
  obtain ⟨h1, h2, h3⟩ := h
  dsimp only at h1 h2 h3
  subst h1 h2
  unfold seeS
  dsimp only
  by_cases q : at' ≤ t
  · cases m' with
    | false => simp [q, Later]
    | true =>
      have h4 := h3 rfl
      subst h4
      by_cases q2 : l < at' ∨ at' = l ∧ is = false
      · rw [if_pos ⟨q, .inr q2⟩, if_pos ⟨by omega, .inr (by rcases q2 with q2 | q2; · exact .inl (by omega)
                                                            · exact .inr ⟨by omega, q2.2⟩)⟩]
        exact ⟨rfl, rfl, fun _ => rfl⟩
      · rw [if_neg (by rintro ⟨_, q3 | q3⟩; · cases q3
                       · exact q2 q3), if_neg (by
          rintro ⟨_, q3 | q3 | q3⟩
          · cases q3
          · exact q2 (.inl (by omega))
          · exact q2 (.inr ⟨by omega, q3.2⟩))]
        exact ⟨rfl, rfl, fun _ => rfl⟩
  · rw [if_neg (by rintro ⟨q3, _⟩; exact q q3), if_neg (by rintro ⟨q3, _⟩; omega)]
    exact ⟨rfl, rfl, h3⟩
theorem step_later (r : RuleV) (t y : Int) {s s' : Bool × Int × Bool} (h : Later 12622780800 s s') : Later 12622780800 (yearStep r t y s) (yearStep r (t + 12622780800) (y + 400) s') := by
  unfold yearStep
  rw [switchS_400, switchS_400]
  have e1 : switchS r.a y + 12622780800 - r.off = switchS r.a y - r.off + 12622780800 := by omega
  have e2 : switchS r.b y + 12622780800 - r.doff = switchS r.b y - r.doff + 12622780800 := by omega
  rw [e1, e2]
  exact see_later _ _ _ _ (see_later _ _ _ _ h)
theorem atYear_400 (r : RuleV) (t y : Int) : atYear r (t + 12622780800) (y + 400) = atYear r t y := by
  unfold atYear
  have h0 : Later 12622780800 (false, 0, false) (false, 0, false) := ⟨rfl, rfl, fun h => by cases h⟩
  have h : Later 12622780800 (stepsS r t y) (stepsS r (t + 12622780800) (y + 400)) := by
    unfold stepsS
    have h4 := step_later r t (y + 1) (step_later r t y (step_later r t (y - 1) (step_later r t (y - 2) h0)))
    rw [show y + 400 - 2 = y - 2 + 400 by omega, show y + 400 - 1 = y - 1 + 400 by omega, show y + 400 + 1 = y + 1 + 400 by omega]
    exact h4
  rw [h.2.1]

/-! ### between two switches -/
theorem see_miss {t at' : Int} {is : Bool} {s : Bool × Int × Bool} (h : t < at') : seeS t at' is s = s := by
  unfold seeS
  rw [if_neg (by rintro ⟨q, _⟩; omega)]
theorem see_hit {t at' : Int} {is : Bool} {s : Bool × Int × Bool} (h : at' ≤ t) (hl : s.1 = true → s.2.1 < at') : seeS t at' is s = (true, at', is) := by
  unfold seeS
  rw [if_pos ⟨h, by
    cases hs : s.1 with
    | false => exact .inl rfl
    | true => exact .inr (.inl (hl hs))⟩]
/-- The latest one is ahead of that. -/
def Ahead (b : Int) (s : Bool × Int × Bool) : Prop := s.1 = true → s.2.1 < b
theorem see_ahead {b t at' : Int} {is : Bool} {s : Bool × Int × Bool} (h : Ahead b s) (ha : at' < b) : Ahead b (seeS t at' is s) := by
  unfold seeS
  split
  · exact fun _ => ha
  · exact h
theorem month_next' (y m : Int) (hy : 1 ≤ y) (hm : 1 ≤ m ∧ m ≤ 12) : daysS (y + 1) m 1 = daysS y m 1 + 365 ∨ daysS (y + 1) m 1 = daysS y m 1 + 366 := by
  unfold daysS
  by_cases h : m ≤ 2
  · simp only [if_pos h]
    generalize (153 * ((m + 9) % 12) + 2) / 5 = q
    omega
  · simp only [if_neg h]
    generalize (153 * ((m + 9) % 12) + 2) / 5 = q
    omega
theorem longS_next' (y m : Int) : -1 ≤ longS (y + 1) m - longS y m ∧ longS (y + 1) m - longS y m ≤ 1 := by
  unfold longS
  split
  · split <;> split <;> omega
  · split <;> omega
/-- A day of a month. -/
def Plain (d : DayV) : Prop := d.k = 3 ∧ 2 ≤ d.m ∧ d.m ≤ 11 ∧ 0 ≤ d.t ∧ d.t < 86400
theorem plain_next (d : DayV) (y : Int) (h : dayOK d = true) (hp : Plain d) (hy : 1 ≤ y ∧ y ≤ 9998) : dayS2 d (y + 1) ≥ dayS2 d y + 364 := by
  have ho := dayOK_of' h
  obtain ⟨h3, p1, p2, p3, p4⟩ := hp
  have hw : 1 ≤ d.w ∧ d.w ≤ 5 ∧ 0 ≤ d.d ∧ d.d ≤ 6 := by omega
  have m1 := month_next' y d.m hy.1 (by omega)
  have l1 := longS_le y d.m
  have l2 := longS_le (y + 1) d.m
  have l3 := longS_next' y d.m
  unfold dayS2
  rw [if_neg (by omega), if_neg (by omega), if_neg (by omega), if_neg (by omega)]
  unfold aheadS
  dsimp only
  generalize daysS (y + 1) d.m 1 = f1 at *
  generalize daysS y d.m 1 = f0 at *
  generalize longS (y + 1) d.m = g1 at *
  generalize longS y d.m = g0 at *
  clear ho h h3
  split <;> split <;> omega
theorem month_in (y m : Int) (hy : 1 ≤ y) (hm : 2 ≤ m ∧ m ≤ 11) : begS y + 31 ≤ daysS y m 1 ∧ daysS y m 1 + longS y m ≤ begS (y + 1) - 31 := by
  have hn := begS_next y hy
  have : m = 2 ∨ m = 3 ∨ m = 4 ∨ m = 5 ∨ m = 6 ∨ m = 7 ∨ m = 8 ∨ m = 9 ∨ m = 10 ∨ m = 11 := by omega
  have hl := leapS_iff y
  have hleap : leapS y = true ∨ ¬ leapS y = true := by cases leapS y <;> simp
  rw [hn, begS_eq]
  unfold longS daysS
  rcases hleap with h | h
  · rw [if_pos h]
    have hq := hl.1 h
    rcases this with h | h | h | h | h | h | h | h | h | h <;> subst h
    all_goals simp
    all_goals try rw [if_pos (by assumption)]
    all_goals omega
  · rw [if_neg h]
    have h' : ¬ (y % 4 = 0 ∧ (y % 100 ≠ 0 ∨ y % 400 = 0)) := fun q => h (hl.2 q)
    rcases this with h2 | h2 | h2 | h2 | h2 | h2 | h2 | h2 | h2 | h2 <;> subst h2
    all_goals simp
    all_goals try rw [if_neg (by assumption)]
    all_goals omega
theorem plain_in (d : DayV) (y : Int) (h : dayOK d = true) (hp : Plain d) (hy : 1 ≤ y) : begS y + 31 ≤ dayS2 d y ∧ dayS2 d y + 1 ≤ begS (y + 1) - 31 := by
  have ho := dayOK_of' h
  obtain ⟨h3, p1, p2, p3, p4⟩ := hp
  have hw : 1 ≤ d.w ∧ d.w ≤ 5 ∧ 0 ≤ d.d ∧ d.d ≤ 6 := by omega
  have m1 := month_in y d.m hy (by omega)
  have l1 := longS_le y d.m
  unfold dayS2
  rw [if_neg (by omega), if_neg (by omega)]
  unfold aheadS
  dsimp only
  generalize daysS y d.m 1 = f0 at *
  generalize longS y d.m = g0 at *
  clear ho h h3
  split <;> omega
theorem begS_next' (y : Int) (hy : 1 ≤ y) : begS y + 365 ≤ begS (y + 1) := by
  have := begS_next y hy
  split at this <;> omega
/-- THE LATEST SWITCH IS THE ONE AHEAD. -/
theorem between (r : RuleV) (ha : dayOK r.a = true) (hb : dayOK r.b = true) (pa : Plain r.a) (pb : Plain r.b) (h1 : -89999 ≤ r.off ∧ r.off ≤ 89999) (h2 : -89999 ≤ r.doff ∧ r.doff ≤ 89999)
    (y Y t : Int) (hy : 10 ≤ y ∧ y ≤ 9990) (hY : InYear Y ((t + r.off) / 86400)) (hY1 : 1 ≤ Y) :
    (switchS r.a y - r.off ≤ t → t < switchS r.b y - r.doff → switchS r.b y - r.doff - (switchS r.a y - r.off) < 29376000 → (atYear r t Y).2 = true) ∧
    (switchS r.b y - r.doff ≤ t → t < switchS r.a y - r.off → switchS r.a y - r.off - (switchS r.b y - r.doff) < 29376000 → (atYear r t Y).2 = false) := by
  have a0 := plain_next r.a (y - 2) ha pa (by omega)
  have a1 := plain_next r.a (y - 1) ha pa (by omega)
  have a2 := plain_next r.a y ha pa (by omega)
  have b0 := plain_next r.b (y - 2) hb pb (by omega)
  have b1 := plain_next r.b (y - 1) hb pb (by omega)
  have b2 := plain_next r.b y hb pb (by omega)
  have ia := plain_in r.a y ha pa (by omega)
  have ib := plain_in r.b y hb pb (by omega)
  rw [show y - 2 + 1 = y - 1 by omega] at a0 b0
  rw [show y - 1 + 1 = y by omega] at a1 b1
  have ta := pa.2.2.2
  have tb := pb.2.2.2
  have hin : (begS y * 86400 ≤ t + r.off) → (t + r.off < begS (y + 1) * 86400) → Y = y := by
    intro q1 q2
    exact InYear.one (n := (t + r.off) / 86400) hY1 (by omega) hY ⟨by omega, by omega⟩
  have h0 : ∀ b, Ahead b (false, 0, false) := fun b h => by cases h
  unfold switchS
  constructor
  · intro g1 g2 g3
    have hYy := hin (by omega) (by omega)
    subst hYy
    unfold atYear stepsS yearStep switchS
    have hA : Ahead (dayS2 r.a Y * 86400 + r.a.t - r.off) (seeS t (dayS2 r.b (Y - 1) * 86400 + r.b.t - r.doff) false (seeS t (dayS2 r.a (Y - 1) * 86400 + r.a.t - r.off) true (seeS t (dayS2 r.b (Y - 2) * 86400 + r.b.t - r.doff) false (seeS t (dayS2 r.a (Y - 2) * 86400 + r.a.t - r.off) true (false, 0, false))))) :=
      see_ahead (see_ahead (see_ahead (see_ahead (h0 _) (by omega)) (by omega)) (by omega)) (by omega)
    rw [see_hit (at' := dayS2 r.a Y * 86400 + r.a.t - r.off) g1 hA]
    rw [see_miss (at' := dayS2 r.b Y * 86400 + r.b.t - r.doff) g2, see_miss (at' := dayS2 r.a (Y + 1) * 86400 + r.a.t - r.off) (by omega), see_miss (at' := dayS2 r.b (Y + 1) * 86400 + r.b.t - r.doff) (by omega)]
    rfl
  · intro g1 g2 g3
    have hYy := hin (by omega) (by omega)
    subst hYy
    unfold atYear stepsS yearStep switchS
    have hA : Ahead (dayS2 r.b Y * 86400 + r.b.t - r.doff) (seeS t (dayS2 r.b (Y - 1) * 86400 + r.b.t - r.doff) false (seeS t (dayS2 r.a (Y - 1) * 86400 + r.a.t - r.off) true (seeS t (dayS2 r.b (Y - 2) * 86400 + r.b.t - r.doff) false (seeS t (dayS2 r.a (Y - 2) * 86400 + r.a.t - r.off) true (false, 0, false))))) :=
      see_ahead (see_ahead (see_ahead (see_ahead (h0 _) (by omega)) (by omega)) (by omega)) (by omega)
    rw [see_miss (at' := dayS2 r.a Y * 86400 + r.a.t - r.off) g2]
    rw [see_hit (at' := dayS2 r.b Y * 86400 + r.b.t - r.doff) g1 hA]
    rw [see_miss (at' := dayS2 r.a (Y + 1) * 86400 + r.a.t - r.off) (by omega), see_miss (at' := dayS2 r.b (Y + 1) * 86400 + r.b.t - r.doff) (by omega)]
    rfl
end Go.Proofs.YtpooncihlnllnaaGreatDoor.H

/- Chapter 07: the law FooterTurns. -/
namespace Go.Proofs.YtpooncihlnllnaaGreatDoor.H
open Go.Sh Go.RowKit
set_option linter.unusedSimpArgs false
set_option linter.unusedVariables false

theorem wfu16 {n : Int} (h : (Lit.int .u16 n).wf = true) : 0 ≤ n ∧ n ≤ 65535 := by
  simp [Lit.wf, IntKind.min, IntKind.max, IntKind.signed, IntKind.bits] at h
  omega
theorem wfu32 {n : Int} (h : (Lit.int .u32 n).wf = true) : 0 ≤ n ∧ n ≤ 4294967295 := by
  simp [Lit.wf, IntKind.min, IntKind.max, IntKind.signed, IntKind.bits] at h
  omega
def plainB (d : DayV) : Bool := decide (0 ≤ d.t) && decide (d.t < 86400) && decide (d.k = 3) && decide (1 < d.m) && decide (d.m < 12)
theorem plainB_iff (d : DayV) : plainB d = true ↔ Plain d := by
  unfold plainB Plain
  simp only [Bool.and_eq_true, decide_eq_true_eq]
  omega
theorem plainDay_val (n : Nat) (d : DayV) : clepsydralaw07_plainDay_f n d.k d.m d.w d.d d.t = some (plainB d) := by
  unfold clepsydralaw07_plainDay_f clepsydralaw07_plainDay_b plainB
  rw [beqI, cond_and, cond_and, cond_and]
  simp only [cond_and, Bool.and_assoc, ge_iff_le, gt_iff_lt]
theorem atYear_or (r : RuleV) (t y : Int) : (atYear r t y).2 = true ∧ (atYear r t y).1 = r.doff ∨ (atYear r t y).2 = false ∧ (atYear r t y).1 = r.off := by
  unfold atYear
  split
  · exact .inl ⟨rfl, rfl⟩
  · exact .inr ⟨rfl, rfl⟩
theorem clampS_in {t : Int} (h : -10000000000 < t ∧ t < 100000000000) : clampS t = t := by
  unfold clampS
  rw [if_pos h.2, if_pos h.1]
theorem dayS2_year (d : DayV) (y : Int) (h : dayOK d = true) (hy : 1700 ≤ y ∧ y ≤ 3999) : -99000 ≤ dayS2 d y ∧ dayS2 d y ≤ 742000 := by
  have e1 : begS 1700 = -98615 := by decide +kernel
  have e2 : begS 4000 = 741442 := by decide +kernel
  have b1 := begS_lt (a := 1700) (b := y) (by omega) (by omega)
  have b2 := begS_lt (a := y + 1) (b := 4000) (by omega) (by omega)
  have b3 := begS_next' y (by omega)
  have b4 := begS_next y (by omega)
  have ho := dayOK_of' h
  have hbeg : begS y = daysS y 1 1 := rfl
  unfold dayS2
  split
  · split at b4 <;> omega
  · split
    · split <;> (split at b4 <;> omega)
    · have hl := longS_le y d.m
      have hm : begS y ≤ daysS y d.m 1 ∧ daysS y d.m 1 ≤ begS (y + 1) - 28 := by
        have hk : 1 ≤ d.m := by omega
        rw [begS_eq, begS_eq]
        have : d.m = 1 ∨ d.m = 2 ∨ d.m = 3 ∨ d.m = 4 ∨ d.m = 5 ∨ d.m = 6 ∨ d.m = 7 ∨ d.m = 8 ∨ d.m = 9 ∨ d.m = 10 ∨ d.m = 11 ∨ d.m = 12 := by omega
        unfold daysS
        rcases this with h | h | h | h | h | h | h | h | h | h | h | h <;> rw [h]
        all_goals simp
        all_goals omega
      unfold aheadS
      dsimp only
      split <;> omega
theorem footerTurns_law (n : Nat) (r : RuleV) (u v : Int) (hn : 20000 < n) (hs : r.std.length < 9223372036854775808) (h1 : r.std.length < n) (hs' : r.dst.length < 9223372036854775808) (h1' : r.dst.length < n) (hu : 0 ≤ u ∧ u ≤ 65535) (hv : 0 ≤ v ∧ v ≤ 4294967295) :
    clepsydralaw07_FooterTurns_f n r.std r.dst r.off r.doff r.a.k r.a.m r.a.w r.a.d r.a.t r.b.k r.b.m r.b.w r.b.d r.b.t u v = some true := by
  unfold clepsydralaw07_FooterTurns_f clepsydralaw07_FooterTurns_b
  rw [clepsydralaw07_FooterTurns_j3, clepsydralaw07_FooterTurns_j3_b, right_val n _ _ _ _ _ _ _ _ _ _ _ _ _ _ hs h1 hs' h1', works_val n (by omega)]
  rw [show rightS ⟨r.std, r.dst, r.off, r.doff, ⟨r.a.k, r.a.m, r.a.w, r.a.d, r.a.t⟩, ⟨r.b.k, r.b.m, r.b.w, r.b.d, r.b.t⟩⟩ = rightS r from rfl]
  cases h : rightS r with
  | false => rfl
  | true =>
    simp only [Option.bind_some, Bool.not_true, cond_false]
    by_cases hd : r.dst = []
    · rw [hd]; rfl
    · rw [show (r.dst == ([] : Str)) = false by simpa using hd]
      simp only [cond_false]
      obtain ⟨_, o1, o2, h4⟩ := right_of' h
      obtain ⟨_, _, o3, o4, ha, hb⟩ := h4.resolve_left (fun q => hd q.1)
      have yv : IntKind.i64.wrap (1700 + Int.tmod (IntKind.i64.wrap u) 2300) = 1700 + u % 2300 := by simp (disch := omega) only [wi, tm0]
      rw [yv]
      obtain ⟨y, hy⟩ : ∃ y, 1700 + u % 2300 = y := ⟨_, rfl⟩
      have hyb : 1700 ≤ y ∧ y ≤ 3999 := by omega
      rw [hy]
      have ba := dayS2_year r.a y ha hyb
      have bb := dayS2_year r.b y hb hyb
      have ta := dayOK_of' ha
      have tb := dayOK_of' hb
      rw [switch_val n r.a y (by omega), switch_val n r.b y (by omega)]
      rw [if_pos ha, if_pos hb, if_pos (by omega), if_pos (by omega)]
      simp only [Option.bind_some]
      rw [clepsydralaw07_FooterTurns_j2, clepsydralaw07_FooterTurns_j2_b, show ((0 : Int) != 0) = false from rfl]
      simp only [cond_false, Option.bind_some]
      have sb : -9000000000 ≤ switchS r.a y - r.off ∧ switchS r.a y - r.off ≤ 65000000000 ∧ -9000000000 ≤ switchS r.b y - r.doff ∧ switchS r.b y - r.doff ≤ 65000000000 := by unfold switchS; omega
      rw [wi (switchS r.a y - r.off) (by omega) (by omega), wi (switchS r.b y - r.doff) (by omega) (by omega)]
      have hbet := between r ha hb
      generalize hA : switchS r.a y - r.off = A at *
      generalize hB : switchS r.b y - r.doff = B at *
      obtain ⟨TO, hTO⟩ : ∃ x, (if A < B then B else A) = x := ⟨_, rfl⟩
      obtain ⟨FR, hFR⟩ : ∃ x, (if B < A then B else A) = x := ⟨_, rfl⟩
      rw [hTO, hFR]
      have hft : FR ≤ TO ∧ -9000000000 ≤ FR ∧ TO ≤ 65000000000 ∧ (A < B → FR = A ∧ TO = B) ∧ (B < A → FR = B ∧ TO = A) ∧ (A = B → FR = TO) := by
        subst hTO hFR
        split <;> split <;> omega
      have tv : IntKind.i64.wrap (FR + Int.tmod (IntKind.i64.wrap v) (IntKind.i64.wrap (IntKind.i64.wrap (TO - FR) + 1))) = FR + v % (TO - FR + 1) := by
        rw [wi v (by omega) (by omega), wi (TO - FR) (by omega) (by omega), wi (TO - FR + 1) (by omega) (by omega), tm0 hv.1]
        have q1 := Int.emod_nonneg v (show TO - FR + 1 ≠ 0 by omega)
        have q2 := Int.emod_lt_of_pos v (show 0 < TO - FR + 1 by omega)
        rw [wi _ (by omega) (by omega)]
      rw [tv]
      have q1 := Int.emod_nonneg v (show TO - FR + 1 ≠ 0 by omega)
      have q2 := Int.emod_lt_of_pos v (show 0 < TO - FR + 1 by omega)
      obtain ⟨t, ht⟩ : ∃ t, FR + v % (TO - FR + 1) = t := ⟨_, rfl⟩
      rw [ht]
      have htb : FR ≤ t ∧ t ≤ TO := by omega
      rw [wi (TO - FR) (by omega) (by omega), wi (TO - FR + 1) (by omega) (by omega)]
      rw [show ((TO - FR + 1 == 0) : Bool) = false by rw [beqI, decide_eq_false (by omega)]]
      simp only [cond_false]
      rw [wi (t + 12614400000) (by omega) (by omega), wi (t + 12614400000 + 8380800) (by omega) (by omega)]
      rw [show t + 12614400000 + 8380800 = t + 12622780800 by omega]
      obtain ⟨Y, y1, y2, y3, y4⟩ := at_val n r t (by omega) h hd
      obtain ⟨Z, z1, z2, z3, z4⟩ := at_val n r (t + 12622780800) (by omega) h hd
      rw [clampS_in (by omega)] at y1 y4 z1 z4
      have hYZ : Z = Y + 400 := by
        have q := InYear_400 y1
        rw [show (t + r.off) / 86400 + 146097 = (t + 12622780800 + r.off) / 86400 by omega] at q
        exact InYear.one (by omega) (by omega) z1 q
      rw [hYZ, atYear_400] at z4
      rw [y4, z4]
      simp only [Option.bind_some]
      have hor := atYear_or r t Y
      have hj1 : clepsydralaw07_FooterTurns_j1 n (atYear r t Y).1 (atYear r t Y).2 (atYear r t Y).1 (atYear r t Y).2 r.std r.dst r.off r.doff r.a.k r.a.m r.a.w r.a.d r.a.t r.b.k r.b.m r.b.w r.b.d r.b.t = some (false, r.std, r.dst, r.off, r.doff, r.a.k, r.a.m, r.a.w, r.a.d, r.a.t, r.b.k, r.b.m, r.b.w, r.b.d, r.b.t) := by
        rw [clepsydralaw07_FooterTurns_j1, clepsydralaw07_FooterTurns_j1_b]
        rcases hor with ⟨g1, g2⟩ | ⟨g1, g2⟩
        · rw [g1, g2]
          by_cases hq : r.doff = r.off
          · simp [hq]
          · have : (r.doff != r.off) = true := by simpa using hq
            simp [this]
        · rw [g1, g2]
          simp
      rw [hj1]
      simp only [Option.bind_some, cond_false]
      rw [clepsydralaw07_FooterTurns_j0, clepsydralaw07_FooterTurns_j0_b, plainDay_val, plainDay_val, wi (TO - FR) (by omega) (by omega)]
      simp only [Option.bind_some]
      cases hpa : plainB r.a with
      | false => simp
      | true =>
        cases hpb : plainB r.b with
        | false => simp
        | true =>
          simp only [cond_true, Option.bind_some]
          by_cases w1 : TO - FR > 1728000
          · rw [cond_pos w1]
            by_cases w2 : TO - FR < 29376000
            · rw [cond_pos w2]
              by_cases w3 : t < TO
              · rw [decide_eq_true w3]
                simp only [Option.bind_some, cond_true]
                have hb2 := hbet ((plainB_iff _).1 hpa) ((plainB_iff _).1 hpb) (by omega) (by omega) y Y t (by omega) y1 (by omega)
                rw [hA, hB] at hb2
                by_cases hlt : A < B
                · obtain ⟨f1, f2⟩ := hft.2.2.2.1 hlt
                  subst f1 f2
                  rw [hb2.1 htb.1 w3 w2]
                  simp
                · have hlt2 : B < A := by
                    by_cases he : A = B
                    · have := hft.2.2.2.2.2 he
                      omega
                    · omega
                  obtain ⟨f1, f2⟩ := hft.2.2.2.2.1 hlt2
                  subst f1 f2
                  rw [hb2.2 htb.1 w3 w2, beqI, decide_eq_false (by omega)]
                  rfl
              · rw [decide_eq_false w3]
                rfl
            · rw [cond_neg w2]
              rfl
          · rw [cond_neg w1]
            rfl
end Go.Proofs.YtpooncihlnllnaaGreatDoor.H

/- Chapter 07: the law FooterKnown: each call in it is true by the other laws. -/
namespace Go.Proofs.YtpooncihlnllnaaGreatDoor.H
open Go.Sh Go.RowKit
set_option linter.unusedSimpArgs false
set_option linter.unusedVariables false

/-- A rule's parts. -/
abbrev tupK (r : RuleV) : Str × Str × Int × Int × Int × Int × Int × Int × Int × Int × Int × Int × Int × Int := (r.std, r.dst, r.off, r.doff, r.a.k, r.a.m, r.a.w, r.a.d, r.a.t, r.b.k, r.b.m, r.b.w, r.b.d, r.b.t)
theorem kj2 (n : Nat) (r : RuleV) (x5 x7 : Int) (hn : 20000 < n) (h1 : r.std.length ≤ 100) (h2 : r.dst.length ≤ 100) :
    clepsydralaw07_FooterKnown_j2 n x5 x7 r.std r.dst r.off r.doff r.a.k r.a.m r.a.w r.a.d r.a.t r.b.k r.b.m r.b.w r.b.d r.b.t = some (false, tupK r) := by
  have w16 : ∀ z : Int, 0 ≤ IntKind.u16.wrap z ∧ IntKind.u16.wrap z ≤ 65535 := fun z => by rw [IntKind.wrap_u16]; omega
  have w32 : ∀ z : Int, 0 ≤ IntKind.u32.wrap z ∧ IntKind.u32.wrap z ≤ 4294967295 := fun z => by rw [IntKind.wrap_u32]; omega
  rw [clepsydralaw07_FooterKnown_j2, clepsydralaw07_FooterKnown_j2_b, footerAt_law n r x7 r.a x5 hn (by omega) (by omega) (by omega) (by omega), Option.bind_some, Bool.not_true, cond_false,
    footerTurns_law n r _ _ hn (by omega) (by omega) (by omega) (by omega) (w16 _) (w32 _), Option.bind_some, Bool.not_true]
theorem kl5 (n : Nat) (r : RuleV) (x5 : Int) (hn : 20000 < n) (h1 : r.std.length ≤ 100) (h2 : r.dst.length ≤ 100) : ∀ (m : Nat) (i : Int), (26 - i).toNat < m → 0 ≤ i →
    clepsydralaw07_FooterKnown_l5 n m x5 i r.std r.dst r.off r.doff r.a.k r.a.m r.a.w r.a.d r.a.t r.b.k r.b.m r.b.w r.b.d r.b.t = some (Sum.inr (tupK r))
  | 0, i, hm, _ => by omega
  | m + 1, i, hm, hi => by
    rw [clepsydralaw07_FooterKnown_l5, clepsydralaw07_FooterKnown_l5_b]
    by_cases h : i < 26
    · rw [cond_pos h, kj2 n r _ _ hn h1 h2, Option.bind_some, cond_false, IntWalk.i64_in (i + 1) (by omega)]
      exact kl5 n r x5 hn h1 h2 m (i + 1) (by omega) (by omega)
    · rw [cond_neg h]
theorem kj1 (n : Nat) (r : RuleV) (x5 x8 x10 x12 : Int) (hn : 20000 < n) (h1 : r.std.length ≤ 100) (h2 : r.dst.length ≤ 100) :
    clepsydralaw07_FooterKnown_j1 n x5 x8 x10 x12 r.std r.dst r.off r.doff r.a.k r.a.m r.a.w r.a.d r.a.t r.b.k r.b.m r.b.w r.b.d r.b.t = some (false, tupK r) := by
  rw [clepsydralaw07_FooterKnown_j1, clepsydralaw07_FooterKnown_j1_b, footerAt_law n r _ r.b x5 hn (by omega) (by omega) (by omega) (by omega), Option.bind_some, Bool.not_true, cond_false,
    footerAt_law n r _ r.b x5 hn (by omega) (by omega) (by omega) (by omega), Option.bind_some, Bool.not_true]
theorem kl4 (n : Nat) (r : RuleV) (x5 x8 x10 : Int) (hn : 20000 < n) (h1 : r.std.length ≤ 100) (h2 : r.dst.length ≤ 100) : ∀ (m : Nat) (i : Int), (2 - i).toNat < m → -1 ≤ i →
    clepsydralaw07_FooterKnown_l4 n m x5 x8 x10 i r.std r.dst r.off r.doff r.a.k r.a.m r.a.w r.a.d r.a.t r.b.k r.b.m r.b.w r.b.d r.b.t = some (Sum.inr (tupK r))
  | 0, i, hm, _ => by omega
  | m + 1, i, hm, hi => by
    rw [clepsydralaw07_FooterKnown_l4, clepsydralaw07_FooterKnown_l4_b]
    by_cases h : i < 2
    · rw [cond_pos h, kj1 n r _ _ _ _ hn h1 h2, Option.bind_some, cond_false, IntWalk.i64_in (i + 1) (by omega)]
      exact kl4 n r x5 x8 x10 hn h1 h2 m (i + 1) (by omega) (by omega)
    · rw [cond_neg h]
theorem kl3 (n : Nat) (r : RuleV) (x4 : Int) (hn : 20000 < n) (h1 : r.std.length ≤ 100) (h2 : r.dst.length ≤ 100) : ∀ (m : Nat) (i : Int), (2006 - i).toNat < m → 1999 ≤ i →
    clepsydralaw07_FooterKnown_l3 n m x4 i r.std r.dst r.off r.doff r.a.k r.a.m r.a.w r.a.d r.a.t r.b.k r.b.m r.b.w r.b.d r.b.t = some (Sum.inr (tupK r))
  | 0, i, hm, _ => by omega
  | m + 1, i, hm, hi => by
    obtain ⟨A, hA⟩ : ∃ o, footer_Switch_f n r.a.k r.a.m r.a.w r.a.d r.a.t i = some o := ⟨_, switch_val n r.a i (by omega)⟩
    obtain ⟨B, hB⟩ : ∃ o, footer_Switch_f n r.b.k r.b.m r.b.w r.b.d r.b.t i = some o := ⟨_, switch_val n r.b i (by omega)⟩
    rw [clepsydralaw07_FooterKnown_l3, clepsydralaw07_FooterKnown_l3_b, clepsydralaw07_FooterKnown_j3, clepsydralaw07_FooterKnown_j3_b]
    by_cases h : i < 2006
    · rw [cond_pos h, Option.bind_some]
      cases x4 == 0 with
      | false => rfl
      | true =>
        rw [cond_true, kl5 n r i hn h1 h2 n 0 (by omega) (by omega), Option.bind_some, Sum.elim_inr]
        dsimp only [tupK]
        rw [hA, Option.bind_some, hB, Option.bind_some, kl4 n r i _ _ hn h1 h2 n (-1) (by omega) (by omega), Option.bind_some, Sum.elim_inr]
        dsimp only [tupK]
        rw [IntWalk.i64_in (i + 1) (by omega)]
        exact kl3 n r x4 hn h1 h2 m (i + 1) (by omega) (by omega)
    · rw [cond_neg h, Option.bind_some, cond_false]
theorem parse_len (n : Nat) (s : Str) (hn : 200 < n) : ∃ (r : RuleV) (e : Int), footer_Parse_f n s = some (tupR r e) ∧ r.std.length ≤ 100 ∧ r.dst.length ≤ 100 := by
  rw [parse_val n s hn]
  cases h : ruleS s with
  | none => exact ⟨.zero, 70, rfl, by decide, by decide⟩
  | some r =>
    obtain ⟨h1, h2, h3, h4⟩ := right_of (ruleS_right h).1
    have ln : ∀ x : Str, isName x = true → x.length ≤ 100 := fun x hx => by
      unfold isName at hx
      simp only [Bool.and_eq_true, decide_eq_true_eq] at hx
      omega
    refine ⟨r, 0, rfl, ln _ h1, ?_⟩
    rcases h4 with q | q
    · rw [q.1]; exact Nat.zero_le _
    · exact ln _ q.1
theorem kl2 (n : Nat) (hn : 20000 < n) (l : List Str) (hl : l.length < 9223372036854775807) : ∀ (m i : Nat), l.length - i < m → i ≤ l.length → clepsydralaw07_FooterKnown_l2 n m l (l.length : Int) (i : Int) = some (Sum.inr ())
  | 0, i, hm, _ => by omega
  | m + 1, i, hm, hi => by
    rw [clepsydralaw07_FooterKnown_l2, clepsydralaw07_FooterKnown_l2_b]
    by_cases h : i < l.length
    · have hj : clepsydralaw07_FooterKnown_j4 n l[i] = some false := by
        have hb := footerBack_law n (by omega) ⟨[85, 84, 67], [], 0, 0, ⟨0, 0, 0, 0, 0⟩, ⟨0, 0, 0, 0, 0⟩⟩ l[i]
        dsimp only at hb
        rw [clepsydralaw07_FooterKnown_j4, clepsydralaw07_FooterKnown_j4_b, footerParses_law n (by omega), Option.bind_some, Bool.not_true, cond_false, hb, Option.bind_some, Bool.not_true]
      obtain ⟨r, e, hp, g1, g2⟩ := parse_len n l[i] (by omega)
      rw [cond_pos (by omega), cond_pos (by omega), Int.toNat_natCast, List.getElem?_eq_getElem h, Option.bind_some, hj, Option.bind_some, cond_false, hp, Option.bind_some]
      dsimp only [tupR]
      rw [kl3 n r e hn g1 g2 n 1999 (by omega) (by omega), Option.bind_some, Sum.elim_inr, wrap1 i (by omega)]
      exact kl2 n hn l hl m (i + 1) (by omega) (by omega)
    · rw [cond_neg (by omega)]
theorem kat (n : Nat) (hn : 20000 < n) (s : Int) (k m w d t y : Int) : clepsydralaw07_FooterAt_f n [] [] 0 0 0 0 0 0 0 0 0 0 0 0 s k m w d t y = some true :=
  footerAt_law n ⟨[], [], 0, 0, ⟨0, 0, 0, 0, 0⟩, ⟨0, 0, 0, 0, 0⟩⟩ s ⟨k, m, w, d, t⟩ y hn (by simp) (by simp; omega) (by simp) (by simp; omega)
theorem kl1 (n : Nat) (hn : 20000 < n) (x : Int) (l : List Int) (hl : l.length < 9223372036854775807) : ∀ (m i : Nat), l.length - i < m → i ≤ l.length → clepsydralaw07_FooterKnown_l1 n m x l (l.length : Int) (i : Int) = some (Sum.inr ())
  | 0, i, hm, _ => by omega
  | m + 1, i, hm, hi => by
    rw [clepsydralaw07_FooterKnown_l1, clepsydralaw07_FooterKnown_l1_b]
    by_cases h : i < l.length
    · have hj : clepsydralaw07_FooterKnown_j0 n x l[i] = some false := by
        rw [clepsydralaw07_FooterKnown_j0, clepsydralaw07_FooterKnown_j0_b, kat n hn, Option.bind_some, Bool.not_true, cond_false, kat n hn, Option.bind_some, Bool.not_true, cond_false, kat n hn, Option.bind_some, Bool.not_true]
      rw [cond_pos (by omega), cond_pos (by omega), Int.toNat_natCast, List.getElem?_eq_getElem h, Option.bind_some, hj, Option.bind_some, cond_false, wrap1 i (by omega)]
      exact kl1 n hn x l hl m (i + 1) (by omega) (by omega)
    · rw [cond_neg (by omega)]
theorem kl0 (n : Nat) (hn : 20000 < n) : ∀ (m : Nat) (x : Int), (368 - x).toNat < m → -1 ≤ x → clepsydralaw07_FooterKnown_l0 n m x = some (Sum.inr ())
  | 0, i, hm, _ => by omega
  | m + 1, x, hm, hi => by
    rw [clepsydralaw07_FooterKnown_l0, clepsydralaw07_FooterKnown_l0_b]
    by_cases h : x < 368
    · have e1 : clepsydralaw07_FooterKnown_c1.length = 8 := rfl
      have h1 := kl1 n hn x clepsydralaw07_FooterKnown_c1 (by omega) n 0 (by omega) (by omega)
      rw [show ((0 : Nat) : Int) = 0 by rfl] at h1
      rw [cond_pos h, h1, Option.bind_some, Sum.elim_inr, IntWalk.i64_in (x + 23) (by omega)]
      exact kl0 n hn m (x + 23) (by omega) (by omega)
    · rw [cond_neg h]
theorem footerKnown_law (n : Nat) (hn : 20000 < n) : clepsydralaw07_FooterKnown_f n = some true := by
  unfold clepsydralaw07_FooterKnown_f clepsydralaw07_FooterKnown_b
  have e0 : clepsydralaw07_FooterKnown_c0.length = 34 := rfl
  have h2 := kl2 n hn clepsydralaw07_FooterKnown_c0 (by omega) n 0 (by omega) (by omega)
  rw [show ((0 : Nat) : Int) = 0 by rfl] at h2
  have t1 := footerTexts_law n (by omega) ⟨[65, 65, 65], [66, 66, 66], 5, 90000, ⟨0, 0, 0, 0, 0⟩, ⟨0, 0, 0, 0, 0⟩⟩
  have t2 := footerTexts_law n (by omega) ⟨[65, 65, 65], [], 0, 1, ⟨0, 0, 0, 0, 0⟩, ⟨0, 0, 0, 0, 0⟩⟩
  have t3 := footerTexts_law n (by omega) ⟨[65, 45, 49], [66, 66, 66], -3599, 1, ⟨1, 0, 0, 59, 1⟩, ⟨2, 0, 0, 0, -604799⟩⟩
  have a1 := footerAt_law n ⟨[65, 65, 65], [66, 66, 66], 5, 90000, ⟨0, 0, 0, 0, 0⟩, ⟨0, 0, 0, 0, 0⟩⟩ (-9223372036854775808) ⟨0, 0, 0, 0, 0⟩ 0 hn (by simp) (by simp; omega) (by simp) (by simp; omega)
  have a2 := footerAt_law n ⟨[65, 65, 65], [], 0, 0, ⟨0, 0, 0, 0, 0⟩, ⟨0, 0, 0, 0, 0⟩⟩ 9223372036854775807 ⟨4, 0, 0, 0, 0⟩ 2000 hn (by simp) (by simp; omega) (by simp) (by simp; omega)
  dsimp only at t1 t2 t3 a1 a2
  rw [h2, Option.bind_some, Sum.elim_inr, kl0 n hn n (-1) (by omega) (by omega), Option.bind_some, Sum.elim_inr, t1, Option.bind_some, cond_true, t2, Option.bind_some, cond_true, t3, Option.bind_some, cond_true, a1, Option.bind_some, cond_true, a2, Option.bind_some, cond_true, works_val n (by omega)]
  rfl
end Go.Proofs.YtpooncihlnllnaaGreatDoor.H

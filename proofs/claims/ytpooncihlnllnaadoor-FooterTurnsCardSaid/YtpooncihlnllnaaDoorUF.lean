/- Chapter 07: the offset that holds, as the program tells it. -/
import Derived.Test.YtpooncihlnllnaaDoorUE
namespace Go.Proofs.YtpooncihlnllnaaDoor.H
open Go.Sh Go.RowKit
set_option linter.unusedSimpArgs false
set_option linter.unusedVariables false

/-- A switch seen: is one met; the latest; is it summer's. -/
def seeS (t at' : Int) (is : Bool) (s : Bool × Int × Bool) : Bool × Int × Bool := if at' ≤ t ∧ (s.1 = false ∨ s.2.1 < at' ∨ at' = s.2.1 ∧ is = false) then (true, at', is) else s
def yearStep (r : RuleV) (t y : Int) (s : Bool × Int × Bool) : Bool × Int × Bool := seeS t (switchS r.b y - r.doff) false (seeS t (switchS r.a y - r.off) true s)
def stepsS (r : RuleV) (t y : Int) : Bool × Int × Bool := yearStep r t (y + 1) (yearStep r t y (yearStep r t (y - 1) (yearStep r t (y - 2) (false, 0, false))))
theorem see_val (n : Nat) (t at' : Int) (is : Bool) (s : Bool × Int × Bool) : footer_At_1_f n at' is t s.1 s.2.1 s.2.2 = some (t, seeS t at' is s) := by
  obtain ⟨met, latest, summer⟩ := s
  unfold footer_At_1_f footer_At_1_b seeS
  dsimp only
  rw [beqI]
  by_cases h1 : at' ≤ t
  · rw [cond_pos h1]
    cases met with
    | false => simp [h1]
    | true =>
      simp only [Bool.not_true, cond_false]
      by_cases h2 : at' > latest
      · rw [cond_pos h2, if_pos ⟨h1, .inr (.inl h2)⟩]
      · rw [cond_neg h2]
        by_cases h3 : at' = latest
        · rw [cond_pos h3]
          cases is with
          | false => rw [if_pos ⟨h1, .inr (.inr ⟨h3, rfl⟩)⟩]; rfl
          | true =>
            rw [if_neg (by rintro ⟨_, h | h | h⟩; · cases h
                           · exact h2 h
                           · cases h.2)]
            rfl
        · rw [cond_neg h3, if_neg (by rintro ⟨_, h | h | h⟩; · cases h
                                      · exact h2 h
                                      · exact h3 h.1)]
  · rw [cond_neg h1, if_neg (by rintro ⟨h, _⟩; exact h1 h)]
theorem switchS_bd (d : DayV) (y : Int) (h : dayOK d = true) (hy : 1 ≤ y ∧ y ≤ 9999) : -100000000000 ≤ switchS d y ∧ switchS d y ≤ 300000000000 := by
  have h1 := dayS2_bd d y h hy
  have h2 := dayOK_of' h
  unfold switchS
  omega
theorem at_step (n m : Nat) (hn : 5 < n) (r : RuleV) (ha : dayOK r.a = true) (hb : dayOK r.b = true) (h1 : -89999 ≤ r.off ∧ r.off ≤ 89999) (h2 : -89999 ≤ r.doff ∧ r.doff ≤ 89999)
    (t y Y mm dd : Int) (hy : 2 ≤ y ∧ y ≤ 9998) (hY : 2 ≤ Y ∧ Y ≤ 9996) (hlt : y < Y + 2) (s : Bool × Int × Bool) :
    footer_At_l0 n (m + 1) y r.std r.dst r.off r.doff r.a.k r.a.m r.a.w r.a.d r.a.t r.b.k r.b.m r.b.w r.b.d r.b.t t Y mm dd s.2.1 s.2.2 s.1
    = footer_At_l0 n m (y + 1) r.std r.dst r.off r.doff r.a.k r.a.m r.a.w r.a.d r.a.t r.b.k r.b.m r.b.w r.b.d r.b.t t Y mm dd (yearStep r t y s).2.1 (yearStep r t y s).2.2 (yearStep r t y s).1 := by
  have b1 := switchS_bd r.a y ha (by omega)
  have b2 := switchS_bd r.b y hb (by omega)
  rw [footer_At_l0, footer_At_l0_b, wi (Y + 2) (by omega) (by omega), cond_pos hlt, switch_val n r.a y hn, switch_val n r.b y hn]
  simp only [Option.bind_some]
  rw [if_pos ha, if_pos hb, if_pos hy, if_pos hy]
  simp only
  rw [wi (switchS r.a y - r.off) (by omega) (by omega), wi (switchS r.b y - r.doff) (by omega) (by omega), see_val]
  simp only [Option.bind_some]
  rw [see_val]
  simp only [Option.bind_some]
  rw [wi (y + 1) (by omega) (by omega)]
  rfl
def clampS (s : Int) : Int := if (-10000000000 : Int) < (if s < (100000000000 : Int) then s else (100000000000 : Int)) then (if s < (100000000000 : Int) then s else (100000000000 : Int)) else (-10000000000 : Int)
theorem clampS_bd (s : Int) : -10000000000 ≤ clampS s ∧ clampS s ≤ 100000000000 := by
  unfold clampS
  split <;> (try split) <;> omega
theorem begS_1600 : begS 1600 = -135140 := by decide +kernel
theorem begS_5200 : begS 5200 = 1179733 := by decide +kernel
theorem year_bd {y n : Int} (hy : 1 ≤ y) (h : InYear y n) (hn : -130000 ≤ n ∧ n ≤ 1170000) : 1600 ≤ y ∧ y ≤ 5200 := by
  have e1 := begS_1600
  have e2 := begS_5200
  constructor
  · by_cases hlt : y < 1600
    · have := begS_lt (a := y + 1) (b := 1600) (by omega) (by omega)
      have := h.2
      omega
    · omega
  · by_cases hgt : 5200 < y
    · have := begS_lt (a := 5200) (b := y) (by omega) (by omega)
      have := h.1
      omega
    · omega
theorem right_of' {r : RuleV} (h : rightS r = true) : isName r.std = true ∧ -89999 ≤ r.off ∧ r.off ≤ 89999 ∧
    (r.dst = [] ∧ r.doff = 0 ∨ isName r.dst = true ∧ r.dst ≠ [] ∧ -89999 ≤ r.doff ∧ r.doff ≤ 89999 ∧ dayOK r.a = true ∧ dayOK r.b = true) := by
  unfold rightS at h
  simp only [Bool.and_eq_true, nearB, decide_eq_true_eq] at h
  obtain ⟨⟨h1, h2⟩, h⟩ := h
  refine ⟨h1, h2.1, h2.2, ?_⟩
  split at h
  · rename_i hd
    simp only [Bool.and_eq_true, beq_iff_eq] at h
    exact .inl ⟨hd, h.1.1⟩
  · rename_i hd
    simp only [Bool.and_eq_true, decide_eq_true_eq] at h
    exact .inr ⟨h.1.1.1, hd, h.1.1.2.1, h.1.1.2.2, h.1.2, h.2⟩
/-- What holds at a time, told by the year. -/
def atYear (r : RuleV) (t y : Int) : Int × Bool := if (stepsS r t y).2.2 = true then (r.doff, true) else (r.off, false)
theorem at_val (n : Nat) (r : RuleV) (s : Int) (hn : 200 < n) (h : rightS r = true) (hd : r.dst ≠ []) :
    ∃ y, InYear y ((clampS s + r.off) / 86400) ∧ 1600 ≤ y ∧ y ≤ 5200 ∧ footer_At_f n r.std r.dst r.off r.doff r.a.k r.a.m r.a.w r.a.d r.a.t r.b.k r.b.m r.b.w r.b.d r.b.t s = some (atYear r (clampS s) y) := by
  obtain ⟨h1, h2, h3, h4⟩ := right_of' h
  obtain ⟨h4, _, h5, h6, h7, h8⟩ := h4.resolve_left (fun q => hd q.1)
  have l1 : r.std.length ≤ 10 := by unfold isName at h1; simp only [Bool.and_eq_true, decide_eq_true_eq] at h1; exact h1.1.2
  have l2 : r.dst.length ≤ 10 := by unfold isName at h4; simp only [Bool.and_eq_true, decide_eq_true_eq] at h4; exact h4.1.2
  have hc := clampS_bd s
  obtain ⟨y, mm, dd, k1, k2, k3⟩ := of_val n ((clampS s + r.off) / 86400) (by omega)
  have hy := year_bd k3 k2 (by omega)
  refine ⟨y, k2, hy.1, hy.2, ?_⟩
  unfold footer_At_f footer_At_b
  rw [right_val n _ _ _ _ _ _ _ _ _ _ _ _ _ _ (by omega) (by omega) (by omega) (by omega)]
  rw [show rightS ⟨r.std, r.dst, r.off, r.doff, ⟨r.a.k, r.a.m, r.a.w, r.a.d, r.a.t⟩, ⟨r.b.k, r.b.m, r.b.w, r.b.d, r.b.t⟩⟩ = true from h]
  simp only [Option.bind_some, Bool.not_true, cond_false]
  rw [show (r.dst == ([] : Str)) = false by simpa using hd, cond_false]
  change ((footer_floor_f n (IntKind.i64.wrap (clampS s + r.off)) 86400).bind fun o304 => (civil_Of_f n o304).bind fun o308 => (footer_At_l0 n n (IntKind.i64.wrap (o308.1 - 2)) r.std r.dst r.off r.doff r.a.k r.a.m r.a.w r.a.d r.a.t r.b.k r.b.m r.b.w r.b.d r.b.t (clampS s) o308.1 o308.2.1 o308.2.2.1 0 false false).bind _) = _
  rw [wi (clampS s + r.off) (by omega) (by omega), floor_val n _ (by omega)]
  simp only [Option.bind_some]
  rw [k1]
  simp only [Option.bind_some]
  rw [wi (y - 2) (by omega) (by omega)]
  obtain ⟨k, hk⟩ : ∃ k, n = k + 1 + 1 + 1 + 1 + 1 := ⟨n - 5, by omega⟩
  have st := fun m (z : Int) (hz : y - 2 ≤ z ∧ z < y + 2) s' => at_step n m (by omega) r h7 h8 (by omega) (by omega) (clampS s) z y mm dd (by omega) (by omega) hz.2 s'
  conv => lhs; arg 1; arg 2; rw [hk]
  rw [st _ (y - 2) (by omega) (false, 0, false), st _ (y - 2 + 1) (by omega), st _ (y - 2 + 1 + 1) (by omega), st _ (y - 2 + 1 + 1 + 1) (by omega)]
  rw [footer_At_l0, footer_At_l0_b, wi (y + 2) (by omega) (by omega), cond_neg (by omega)]
  simp only [Option.bind_some]
  unfold atYear stepsS
  rw [show y - 2 + 1 = y - 1 by omega, show y - 1 + 1 = y by omega]
  cases (yearStep r (clampS s) (y + 1) (yearStep r (clampS s) y (yearStep r (clampS s) (y - 1) (yearStep r (clampS s) (y - 2) (false, 0, false))))).2.2 <;> rfl
theorem at_plain (n : Nat) (r : RuleV) (s : Int) (hn : 200 < n) (h : rightS r = true) (hd : r.dst = []) :
    footer_At_f n r.std r.dst r.off r.doff r.a.k r.a.m r.a.w r.a.d r.a.t r.b.k r.b.m r.b.w r.b.d r.b.t s = some (r.off, false) := by
  obtain ⟨h1, _⟩ := right_of' h
  have l1 : r.std.length ≤ 10 := by unfold isName at h1; simp only [Bool.and_eq_true, decide_eq_true_eq] at h1; exact h1.1.2
  unfold footer_At_f footer_At_b
  rw [right_val n _ _ _ _ _ _ _ _ _ _ _ _ _ _ (by omega) (by omega) (by rw [hd]; simp) (by rw [hd]; simp; omega)]
  rw [show rightS ⟨r.std, r.dst, r.off, r.doff, ⟨r.a.k, r.a.m, r.a.w, r.a.d, r.a.t⟩, ⟨r.b.k, r.b.m, r.b.w, r.b.d, r.b.t⟩⟩ = true from h, hd]
  rfl
theorem at_bad (n : Nat) (r : RuleV) (s : Int) (h : rightS r = false) (hs : r.std.length < 9223372036854775808) (hn : r.std.length < n) (hs' : r.dst.length < 9223372036854775808) (hn' : r.dst.length < n) :
    footer_At_f n r.std r.dst r.off r.doff r.a.k r.a.m r.a.w r.a.d r.a.t r.b.k r.b.m r.b.w r.b.d r.b.t s = some (0, false) := by
  unfold footer_At_f footer_At_b
  rw [right_val n _ _ _ _ _ _ _ _ _ _ _ _ _ _ hs hn hs' hn']
  rw [show rightS ⟨r.std, r.dst, r.off, r.doff, ⟨r.a.k, r.a.m, r.a.w, r.a.d, r.a.t⟩, ⟨r.b.k, r.b.m, r.b.w, r.b.d, r.b.t⟩⟩ = false from h]
  rfl
end Go.Proofs.YtpooncihlnllnaaDoor.H

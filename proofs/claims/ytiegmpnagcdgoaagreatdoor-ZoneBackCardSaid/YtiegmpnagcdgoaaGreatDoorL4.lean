/- Texts of this session, joined and cut to what one statement needs, under short names. -/
import Derived.Test.YtiegmpnagcdgoaaGreatDoorL3
import Derived.ChangeArms
import Derived.OpenShut
import Derived.WideShapes
import Derived.Deep.Slices
import Derived.Lib.SlKeysI
import Derived.KernelRfl
import Derived.Lib.LaidTab
import Derived.MakeChecks
import Derived.Test.YtiegmpnagcdgoaaGreatDoorRows
import Derived.Shelf.Vars
import Derived.Handed
import Derived.HandedShaped
namespace Go.Proofs.YtiegmpnagcdgoaaGreatDoor.H
open Go.Sh Go.RowKit
set_option linter.unusedSimpArgs false
set_option linter.unusedVariables false
theorem Qt (n : Nat) (s : Str) (b : Bool) (most : Nat) (hm3 : most ≤ 3) (hs : s.length < 9223372036854775808) : ∀ (m : Nat) (r d : Str) (i : Int), most - d.length < m → d.length ≤ most → d.all dV = true → At s r i →
 ∃ j, aS n m (most : Int) (JU d : Int) (d.length : Int) s i b = some (((JU (d ++ jr dV (most - d.length) r) : Nat) : Int), (((d ++ jr dV (most - d.length) r).length : Nat) : Int), s, j, b) ∧ At s (r.drop (jr dV (most - d.length) r).length) j
 | 0, r, d, i, hm, _, _, _ => by omega
 | m + 1, r, d, i, hm, hl, hd, h => by
  rw [aS, fD, gz, fC]
  by_cases hx : d.length < most
  ·rw [aa (by omega), Mc n h]
   simp only [Option.bind_some]
   obtain ⟨k, hk⟩ : ∃ k, most - d.length = k + 1 := ⟨most - d.length - 1, by omega⟩
   cases r with
   | nil =>
    rw [show eT n (Ma []) = some false from KN n 0]
    refine ⟨i, ?_, by simpa [jr] using h⟩
    simp [jr]
   | cons c r =>
    obtain ⟨q, rfl, h1, h2, h3⟩ := h.cons
    rw [show eT n (Ma (c :: r)) = some (dV c) from KN n c]
    simp only [Option.bind_some]
    cases hc : dV c with
    | false =>
     have hr : jr dV (most - d.length) (c :: r) = [] := by rw [hk, jr, List.take_succ_cons, List.takeWhile_cons_of_neg (by simp [hc])]
     rw [hr]
     refine ⟨_, ?_, by simpa using h⟩
     simp
    | true =>
     have hr : jr dV (most - d.length) (c :: r) = c :: jr dV k r := by rw [hk, jr, List.take_succ_cons, List.takeWhile_cons_of_pos (by simp [hc])]; rfl
     rw [hr, cond_true, Mc n h]
     simp only [Option.bind_some, Ma]
     have hv := Rk d (by omega) hd
     have hv3 : (10 : Nat) ^ d.length ≤ 10 ^ 3 := Nat.pow_le_pow_right (by omega) (by omega)
     have hcd := (KM c).1 hc
     have e1 : IntKind.i64.wrap (IntKind.i64.wrap (IntKind.i64.wrap (10 * (JU d : Int)) + IntKind.i64.wrap (c.toNat : Int)) - 48) = ((JU (d ++ [c]) : Nat) : Int) := by
      rw [wi (10 * _) (by omega) (by omega), wi (c.toNat : Int) (by omega) (by omega), wi (_ + _) (by omega) (by omega), wi (_ - _) (by omega) (by omega), Wy]
      omega
     have e2 : IntKind.i64.wrap ((d.length : Int) + 1) = (((d ++ [c]).length : Nat) : Int) := by rw [wY _ (by omega), List.length_append]; rfl
     rw [e1, e2, wY q (by omega)]
     have hl2 : (d ++ [c]).length = d.length + 1 := by simp
     obtain ⟨j, h4, h5⟩ := Qt n s b most hm3 hs m r (d ++ [c]) _ (by omega) (by omega) (by simp [hd, hc]) h3
     rw [hl2, show most - (d.length + 1) = k by omega, ← hl2] at h4
     rw [hl2, show most - (d.length + 1) = k by omega] at h5
     refine ⟨j, ?_, by simpa using h5⟩
     rw [h4]
     simp
  ·rw [ah (by omega)]
   have hz : most - d.length = 0 := by omega
   refine ⟨i, ?_, by simpa [hz, jr] using h⟩
   simp [hz, jr]
theorem FT (n a b : Nat) (ha : a ≤ 3) (hb : b ≤ 3) {s r : Str} {i : Int} (h : At s r i) (bad : Bool) (hs : s.length < 9223372036854775808) (hn : 5 < n) :
 ∃ j, ak n (a : Int) (b : Int) s i bad = some (((dx a b r).1 : Int), s, j, bad || (dx a b r).2.2) ∧ At s (dx a b r).2.1 j := by
 obtain ⟨j, h1, h2⟩ := Qt n s bad b hb hs n r [] i (by simp; omega) (by simp) (by simp) h
 unfold ak gP
 simp only [List.length_nil, Nat.sub_zero, List.nil_append] at h1 h2
 rw [show (0 : Int) = ((JU [] : Nat) : Int) from rfl]
 change ∃ j, ((aS n n (b : Int) ((JU [] : Nat) : Int) ((0 : Nat) : Int) s i bad).bind _) = _ ∧ _
 rw [h1]
 refine ⟨j, ?_, h2⟩
 have hd : decide ((((jr dV b r).length : Nat) : Int) < (a : Int)) = decide ((jr dV b r).length < a) := by rw [decide_eq_decide]; omega
 simp only [Option.bind_some, dx, hd]
 cases bad <;> rfl
theorem WB (n : Nat) {s r : Str} {i : Int} (h : At s r i) (b : Bool) (hs : s.length < 9223372036854775808) :
 ∃ j, dR n 1 s i b = some ((tJ r).1, s, j, b) ∧ At s (tJ r).2 j := by
 unfold dR fM tJ
 obtain ⟨j, h1, h2⟩ := Aw n 45 45 h b hs
 rw [h1]
 simp only [Option.bind_some]
 cases he : (ay 45 r).1 with
 | true => exact ⟨j, rfl, h2⟩
 | false =>
  obtain ⟨q, h3, h4⟩ := Aw n 43 43 h2 b hs
  simp only [cond_false]
  rw [h3]
  exact ⟨q, rfl, h4⟩
theorem KO (n most : Nat) {s r : Str} {i : Int} (h : At s r i) (b : Bool) (hs : s.length < 9223372036854775808) (hn : 5 < n) :
 ∃ j, aL n (most : Int) s i b = some ((dA most r).1, s, j, b || (dA most r).2.2) ∧ At s (dA most r).2.1 j := by
 unfold aL iG dA
 obtain ⟨j1, h1, a1⟩ := WB n h b hs
 rw [h1]
 simp only [Option.bind_some]
 obtain ⟨j2, h2, a2⟩ := FT n 1 3 (by omega) (by omega) a1 b hs hn
 rw [show ak n (1 : Int) (3 : Int) s j1 b = _ from h2]
 simp only [Option.bind_some]
 have l2 := DU 1 3 (tJ r).2 (by omega)
 generalize dx 1 3 (tJ r).2 = hh at *
 rw [gQ, fO]
 unfold minS
 obtain ⟨j3, h3, a3⟩ := Aw n 58 58 a2 (b || hh.2.2) hs
 rw [h3]
 simp only [Option.bind_some]
 have sg := OW r
 have fin : ∀ (m sc : Nat) (bad : Bool) (j : Int), m < 1000 → sc < 1000 →
  ((dS n (most : Int) (hh.1 : Int) (m : Int) (sc : Int) s j bad).bind fun o127 => some (IntKind.i64.wrap ((tJ r).1 * (IntKind.i64.wrap ((IntKind.i64.wrap ((IntKind.i64.wrap ((3600 : Int) * (hh.1 : Int))) + (IntKind.i64.wrap ((60 : Int) * (m : Int))))) + (sc : Int)))), o127.1, o127.2.1, o127.2.2))
  = some ((tJ r).1 * (3600 * (hh.1 : Int) + (60 * (m : Int) + (sc : Int))), s, j, bad || decide (most < hh.1) || decide (60 ≤ m) || decide (60 ≤ sc)) := by
  intro m sc bad j hm hsc
  rw [dS, fP]
  have e1 : decide ((hh.1 : Int) > (most : Int)) = decide (most < hh.1) := by rw [decide_eq_decide]; omega
  have e2 : decide ((m : Int) > (59 : Int)) = decide (60 ≤ m) := by rw [decide_eq_decide]; omega
  have e3 : decide ((sc : Int) > (59 : Int)) = decide (60 ≤ sc) := by rw [decide_eq_decide]; omega
  rw [e1, e2, e3, wi (3600 * _) (by omega) (by omega), wi (60 * _) (by omega) (by omega), wi (3600 * (hh.1 : Int) + _) (by omega) (by omega), wi (3600 * (hh.1 : Int) + _ + _) (by omega) (by omega)]
  have e4 : IntKind.i64.wrap ((tJ r).1 * (3600 * (hh.1 : Int) + 60 * (m : Int) + (sc : Int))) = (tJ r).1 * (3600 * (hh.1 : Int) + (60 * (m : Int) + (sc : Int))) := by
   rcases sg with g | g <;> rw [g, wi _ (by omega) (by omega)] <;> omega
  rw [e4]
  cases bad <;> cases decide (most < hh.1) <;> cases decide (60 ≤ m) <;> cases decide (60 ≤ sc) <;> rfl
 cases he : (ay 58 hh.2.1).1 with
 | false =>
  simp only [cond_false, Bool.false_eq_true, if_false, Option.bind_some]
  refine ⟨j3, ?_, a3⟩
  rw [show (0 : Int) = ((0 : Nat) : Int) from rfl, fin 0 0 _ _ (by omega) (by omega)]
  simp [Bool.or_assoc]
 | true =>
  simp only [cond_true, if_true]
  obtain ⟨j4, h4, a4⟩ := FT n 2 2 (by omega) (by omega) a3 (b || hh.2.2) hs hn
  rw [show ak n (2 : Int) (2 : Int) s j3 (b || hh.2.2) = _ from h4]
  simp only [Option.bind_some]
  have l4 := DU 2 2 (ay 58 hh.2.1).2 (by omega)
  generalize dx 2 2 (ay 58 hh.2.1).2 = mm at *
  obtain ⟨j5, h5, a5⟩ := Aw n 58 58 a4 (b || hh.2.2 || mm.2.2) hs
  rw [h5]
  simp only [Option.bind_some]
  cases hf : (ay 58 mm.2.1).1 with
  | false =>
   simp only [cond_false, Bool.false_eq_true, if_false, Option.bind_some]
   refine ⟨j5, ?_, a5⟩
   rw [show (0 : Int) = ((0 : Nat) : Int) from rfl, fin mm.1 0 _ _ l4 (by omega)]
   cases b <;> cases hh.2.2 <;> cases mm.2.2 <;> cases decide (most < hh.1) <;> cases decide (60 ≤ mm.1) <;> simp
  | true =>
   simp only [cond_true, if_true]
   obtain ⟨j6, h6, a6⟩ := FT n 2 2 (by omega) (by omega) a5 (b || hh.2.2 || mm.2.2) hs hn
   rw [show ak n (2 : Int) (2 : Int) s j5 (b || hh.2.2 || mm.2.2) = _ from h6]
   simp only [Option.bind_some]
   have l6 := DU 2 2 (ay 58 mm.2.1).2 (by omega)
   generalize dx 2 2 (ay 58 mm.2.1).2 = ss at *
   refine ⟨j6, ?_, a6⟩
   rw [fin mm.1 ss.1 _ _ l4 l6]
   cases b <;> cases hh.2.2 <;> cases mm.2.2 <;> cases ss.2.2 <;> cases decide (most < hh.1) <;> cases decide (60 ≤ mm.1) <;> cases decide (60 ≤ ss.1) <;> rfl
theorem SS (n : Nat) {s r : Str} {i : Int} (h : At s r i) (b : Bool) (hs : s.length < 9223372036854775808) (hn : 5 < n) :
 ∃ j, fQ n s i b = some ((xk r).1.k, (xk r).1.m, (xk r).1.w, (xk r).1.d, (xk r).1.t, s, j, b || (xk r).2.2 || !oZ (xk r).1) ∧ At s (xk r).2.1 j := by
 have num : ∀ {r : Str} {i : Int} (h : At s r i) (bad : Bool), ∃ j, ak n (1 : Int) (3 : Int) s i bad = some (((dx 1 3 r).1 : Int), s, j, bad || (dx 1 3 r).2.2) ∧ At s (dx 1 3 r).2.1 j := fun h bad => FT n 1 3 (by omega) (by omega) h bad hs hn
 have tail : ∀ (k m w : Int) (r : Str) (d : Nat) (i : Int) (bad bad0 : Bool) (dd : Nat × Str × Bool), dd = dx 1 3 r → At s dd.2.1 i →
  ∃ j, ((fe n s i (b || bad || dd.2.2) 0 0 0 0 0 k m w dd.1 7200).bind fun o147 => cond o147.2.2.1 (some (o147.2.2.2.2.2.2.2.2.1, o147.2.2.2.2.2.2.2.2.2.1, o147.2.2.2.2.2.2.2.2.2.2.1, o147.2.2.2.2.2.2.2.2.2.2.2.1, o147.2.2.2.2.2.2.2.2.2.2.2.2, o147.1, o147.2.1, true)) ((gG n o147.2.2.2.2.2.2.2.2.1 o147.2.2.2.2.2.2.2.2.2.1 o147.2.2.2.2.2.2.2.2.2.2.1 o147.2.2.2.2.2.2.2.2.2.2.2.1 o147.2.2.2.2.2.2.2.2.2.2.2.2).bind fun o149 => some (o147.2.2.2.2.2.2.2.2.1, o147.2.2.2.2.2.2.2.2.2.1, o147.2.2.2.2.2.2.2.2.2.2.1, o147.2.2.2.2.2.2.2.2.2.2.2.1, o147.2.2.2.2.2.2.2.2.2.2.2.2, o147.1, o147.2.1, !o149)))
  = some ((lh k m w r bad).1.k, (lh k m w r bad).1.m, (lh k m w r bad).1.w, (lh k m w r bad).1.d, (lh k m w r bad).1.t, s, j, b || (lh k m w r bad).2.2 || !oZ (lh k m w r bad).1) ∧ At s (lh k m w r bad).2.1 j := by
  intro k m w r d i bad bad0 dd hdd a
  subst hdd
  unfold lh
  rw [fe, gV]
  obtain ⟨j1, h1, a1⟩ := Aw n 47 47 a (b || bad || (dx 1 3 r).2.2) hs
  rw [h1]
  simp only [Option.bind_some]
  cases he : (ay 47 (dx 1 3 r).2.1).1 with
  | true =>
   obtain ⟨j2, h2, a2⟩ := KO n 167 a1 (b || bad || (dx 1 3 r).2.2) hs hn
   simp only [cond_true, if_true]
   rw [show aL n (167 : Int) s j1 (b || bad || (dx 1 3 r).2.2) = _ from h2]
   simp only [Option.bind_some, MO]
   refine ⟨j2, ?_, a2⟩
   generalize oZ _ = ok
   cases b <;> cases bad <;> cases (dx 1 3 r).2.2 <;> cases (dA 167 (ay 47 (dx 1 3 r).2.1).2).2.2 <;> cases ok <;> rfl
  | false =>
   simp only [cond_false, Bool.false_eq_true, if_false, Option.bind_some, MO]
   refine ⟨j1, ?_, a1⟩
   generalize oZ _ = ok
   cases b <;> cases bad <;> cases (dx 1 3 r).2.2 <;> cases ok <;> rfl
 unfold fQ jF xk
 rw [ji, gU]
 obtain ⟨j1, h1, a1⟩ := Aw n 74 74 h b hs
 rw [h1]
 simp only [Option.bind_some]
 cases he : (ay 74 r).1 with
 | true =>
  obtain ⟨j2, h2, a2⟩ := num a1 b
  simp only [cond_true, if_true]
  rw [h2]
  simp only [Option.bind_some]
  have := tail 1 0 0 _ 0 j2 false false _ rfl a2
  rw [Bool.or_false] at this
  exact this
 | false =>
  simp only [cond_false, Bool.false_eq_true, if_false]
  obtain ⟨j2, h2, a2⟩ := Aw n 77 77 a1 b hs
  rw [h2]
  simp only [Option.bind_some]
  cases hf : (ay 77 (ay 74 r).2).1 with
  | false =>
   obtain ⟨j3, h3, a3⟩ := num a2 b
   simp only [cond_false, Bool.false_eq_true, if_false]
   rw [h3]
   simp only [Option.bind_some]
   have := tail 2 0 0 _ 0 j3 false false _ rfl a3
   rw [Bool.or_false] at this
   exact this
  | true =>
   simp only [cond_true, if_true]
   obtain ⟨j3, h3, a3⟩ := num a2 b
   rw [h3]
   simp only [Option.bind_some]
   obtain ⟨j4, h4, a4⟩ := GG n 46 46 a3 (b || (dx 1 3 (ay 77 (ay 74 r).2).2).2.2) hs
   rw [h4]
   simp only [Option.bind_some]
   obtain ⟨j5, h5, a5⟩ := num a4 (b || (dx 1 3 (ay 77 (ay 74 r).2).2).2.2 || !(ay 46 (dx 1 3 (ay 77 (ay 74 r).2).2).2.1).1)
   rw [h5]
   simp only [Option.bind_some]
   obtain ⟨j6, h6, a6⟩ := GG n 46 46 a5 (b || (dx 1 3 (ay 77 (ay 74 r).2).2).2.2 || !(ay 46 (dx 1 3 (ay 77 (ay 74 r).2).2).2.1).1 || (dx 1 3 (ay 46 (dx 1 3 (ay 77 (ay 74 r).2).2).2.1).2).2.2) hs
   rw [h6]
   simp only [Option.bind_some]
   obtain ⟨j7, h7, a7⟩ := num a6 (b || (dx 1 3 (ay 77 (ay 74 r).2).2).2.2 || !(ay 46 (dx 1 3 (ay 77 (ay 74 r).2).2).2.1).1 || (dx 1 3 (ay 46 (dx 1 3 (ay 77 (ay 74 r).2).2).2.1).2).2.2 || !(ay 46 (dx 1 3 (ay 46 (dx 1 3 (ay 77 (ay 74 r).2).2).2.1).2).2.1).1)
   rw [h7]
   simp only [Option.bind_some]
   have := tail 3 (dx 1 3 (ay 77 (ay 74 r).2).2).1 (dx 1 3 (ay 46 (dx 1 3 (ay 77 (ay 74 r).2).2).2.1).2).1 _ 0 j7 ((dx 1 3 (ay 77 (ay 74 r).2).2).2.2 || !(ay 46 (dx 1 3 (ay 77 (ay 74 r).2).2).2.1).1 || (dx 1 3 (ay 46 (dx 1 3 (ay 77 (ay 74 r).2).2).2.1).2).2.2 || !(ay 46 (dx 1 3 (ay 46 (dx 1 3 (ay 77 (ay 74 r).2).2).2.1).2).2.1).1) false _ rfl a7
   simp only [← Bool.or_assoc] at this ⊢
   exact this
end Go.Proofs.YtiegmpnagcdgoaaGreatDoor.H
namespace Go.Proofs.YtiegmpnagcdgoaaGreatDoor.H
open Go.Sh Go.RowKit
set_option linter.unusedSimpArgs false
set_option linter.unusedVariables false
def SV (r : RuleV) (e : Bool) : Str × Str × Int × Int × Int × Int × Int × Int × Int × Int × Int × Int × Int × Int × Bool := (r.std, r.dst, r.off, r.doff, r.a.k, r.a.m, r.a.w, r.a.d, r.a.t, r.b.k, r.b.m, r.b.w, r.b.d, r.b.t, e)
theorem Us (n : Nat) (s : Str) (hn : 200 < n) : om n s = some (match Il s with | some r => SV r true | none => SV .zero false) := by
 unfold om ol Il
 by_cases h100 : 100 < s.length
 ·rw [aa (by omega), if_pos h100]; rfl
 ·rw [ah (by omega), if_neg h100]
  have h1 := MM s
  have h1' := Hw s
  have h2 := Hu 24 (aA s).2.1
  have h2' := JF 24 (aA s).2.1
  obtain ⟨j1, k1, a1⟩ := GH n (At.start s) false (by omega) (by omega)
  rw [k1]
  simp only [Option.bind_some, Bool.false_or]
  obtain ⟨j2, k2, a2⟩ := KO n 24 a1 (aA s).2.2 (by omega) (by omega)
  rw [show aL n (24 : Int) s j1 (aA s).2.2 = _ from k2]
  simp only [Option.bind_some]
  rw [wi (0 - (dA 24 (aA s).2.1).1) (by omega) (by omega), Int.zero_sub]
  have fin : ∀ (r : RuleV) (t : Str) (i : Int) (bad bad' : Bool), At s t i → r.std.length ≤ 200 → r.dst.length ≤ 200 → (bad = false → bad' = true → dB r = false) → (bad = true → bad' = true) →
   cond bad' (some (SV .zero false)) (cond (i != (s.length : Int)) (some (SV .zero false)) ((gX n r.std r.dst r.off r.doff r.a.k r.a.m r.a.w r.a.d r.a.t r.b.k r.b.m r.b.w r.b.d r.b.t).bind fun o80 => cond (!o80) (some (SV .zero false)) (some (SV r true))))
   = some (match (if bad = false ∧ t = [] ∧ dB r = true then some r else none) with | some r => SV r true | none => SV .zero false) := by
   intro r t i bad bad' a g1 g2 g3 g4
   rw [rright_val n _ _ _ _ _ _ _ _ _ _ _ _ _ _ (by omega) (by omega) (by omega) (by omega)]
   have hi : (i != (s.length : Int)) = !decide (t = []) := by
    have hnum := a.num
    cases t with
    | nil => simp at hnum; simp [hnum]
    | cons c t =>
     have : ¬ i = (s.length : Int) := by simp only [List.length_cons] at hnum; omega
     simp [this]
   rw [hi]
   cases bad with
   | true => rw [g4 rfl]; simp
   | false =>
    cases bad' with
    | true => rw [g3 rfl rfl]; simp
    | false =>
     cases t with
     | cons c t => simp
     | nil => cases h : dB r <;> simp [h]
  by_cases he : (dA 24 (aA s).2.1).2.1 = []
  ·have hr : L9 s = (⟨(aA s).1, [], -(dA 24 (aA s).2.1).1, 0, .zero, .zero⟩, [], (aA s).2.2 || (dA 24 (aA s).2.1).2.2) := by unfold L9; dsimp only; rw [if_pos he]
   rw [he] at a2
   have hj := a2.nil
   rw [jB, iw, jA, iq, ah (by omega)]
   simp only [Option.bind_some, cond_false]
   rw [hr]
   exact fin ⟨(aA s).1, [], -(dA 24 (aA s).2.1).1, 0, .zero, .zero⟩ [] j2 _ _ a2 (by show (aA s).1.length ≤ 200; omega) (by simp) (fun h h' => by cases h.symm.trans h') (fun h => h)
  ·have hr : L9 s = Ik (aA s).1 (-(dA 24 (aA s).2.1).1) (dA 24 (aA s).2.1).2.1 ((aA s).2.2 || (dA 24 (aA s).2.1).2.2) := by unfold L9; dsimp only; rw [if_neg he]
   have hlt : j2 < (s.length : Int) := by
    have hnum := a2.num
    have : 0 < (dA 24 (aA s).2.1).2.1.length := List.length_pos_iff.2 he
    omega
   rw [jB, iw, jA, iq, aa hlt]
   simp only [Option.bind_some]
   rw [hr]
   have hoff : -5000000 < -(dA 24 (aA s).2.1).1 ∧ -(dA 24 (aA s).2.1).1 < 5000000 := by omega
   generalize ((aA s).2.2 || (dA 24 (aA s).2.1).2.2) = bad at *
   generalize -(dA 24 (aA s).2.1).1 = off at *
   generalize (dA 24 (aA s).2.1).2.1 = r at *
   cases bad with
   | true =>
    simp only [Bool.not_true, cond_false, Option.bind_some, cond_true]
    unfold Ik
    simp
    rfl
   | false =>
    simp only [Bool.not_false, cond_true]
    obtain ⟨j3, k3, a3⟩ := GH n a2 false (by omega) (by omega)
    have l3 := Hw r
    rw [k3]
    simp only [Option.bind_some, Bool.false_or]
    rw [ng, kW, Mc n a3]
    simp only [Option.bind_some]
    have hhd : (Ma (aA r).2.1 != 44) = !decide ((aA r).2.1.head? = some 44) := by
     cases (aA r).2.1 with
     | nil => rfl
     | cons c q =>
      rw [show (Ma (c :: q) != 44) = (c != 44) from Jf c 44, List.head?_cons]
      by_cases h : c = 44 <;> simp [h]
    have ho : ∀ (K : Int → Str → Int → Bool → Option (Str × Str × Int × Int × Int × Int × Int × Int × Int × Int × Int × Int × Int × Int × Str × Int × Bool × Str × Str × Int × Int × Int × Int × Int × Int × Int × Int × Int × Int × Int × Int)) (b' : Bool),
     ∃ j, cond (Ma (aA r).2.1 != 44) ((aL n (24 : Int) s j3 b').bind fun o49 => K (IntKind.i64.wrap (0 - o49.1)) o49.2.1 o49.2.2.1 o49.2.2.2) (K (IntKind.i64.wrap (off + 3600)) s j3 b')
      = K (xU off (aA r).2.1).1 s j (b' || (xU off (aA r).2.1).2.2) ∧ At s (xU off (aA r).2.1).2.1 j := by
     intro K b'
     unfold xU
     rw [hhd]
     have hl := JF 24 (aA r).2.1
     by_cases hc : (aA r).2.1.head? = some 44
     ·rw [decide_eq_true hc, if_pos hc, wi (off + 3600) (by omega) (by omega)]
      exact ⟨j3, by simp, a3⟩
     ·rw [decide_eq_false hc, if_neg hc]
      obtain ⟨q, g1, g2⟩ := KO n 24 a3 b' (by omega) (by omega)
      refine ⟨q, ?_, g2⟩
      rw [show aL n (24 : Int) s j3 b' = _ from g1]
      simp only [Option.bind_some, Bool.not_false, cond_true]
      rw [wi _ (by omega) (by omega), Int.zero_sub]
    obtain ⟨j4, k4, a4⟩ := ho (fun x t i b => some (([] : Str), ([] : Str), 0, 0, 0, 0, 0, 0, 0, 0, 0, 0, 0, 0, t, i, b, (aA s).1, (aA r).1, off, x, 0, 0, 0, 0, 0, 0, 0, 0, 0, 0)) (aA r).2.2
    rw [k4]
    simp only [Option.bind_some]
    obtain ⟨j5, k5, a5⟩ := GG n 44 44 a4 ((aA r).2.2 || (xU off (aA r).2.1).2.2) (by omega)
    rw [k5]
    simp only [Option.bind_some]
    obtain ⟨j6, k6, a6⟩ := SS n a5 ((aA r).2.2 || (xU off (aA r).2.1).2.2 || !(ay 44 (xU off (aA r).2.1).2.1).1) (by omega) (by omega)
    rw [k6]
    simp only [Option.bind_some]
    obtain ⟨j7, k7, a7⟩ := GG n 44 44 a6 ((aA r).2.2 || (xU off (aA r).2.1).2.2 || !(ay 44 (xU off (aA r).2.1).2.1).1 || (xk (ay 44 (xU off (aA r).2.1).2.1).2).2.2 || !oZ (xk (ay 44 (xU off (aA r).2.1).2.1).2).1) (by omega)
    rw [k7]
    simp only [Option.bind_some]
    obtain ⟨j8, k8, a8⟩ := SS n a7 ((aA r).2.2 || (xU off (aA r).2.1).2.2 || !(ay 44 (xU off (aA r).2.1).2.1).1 || (xk (ay 44 (xU off (aA r).2.1).2.1).2).2.2 || !oZ (xk (ay 44 (xU off (aA r).2.1).2.1).2).1 || !(ay 44 (xk (ay 44 (xU off (aA r).2.1).2.1).2).2.1).1) (by omega) (by omega)
    rw [k8]
    simp only [Option.bind_some]
    refine fin (Ik (aA s).1 off r false).1 (Ik (aA s).1 off r false).2.1 j8 (Ik (aA s).1 off r false).2.2 _ a8 (by show (aA s).1.length ≤ 200; omega) (by show (aA r).1.length ≤ 200; have := a2.le; omega) ?_ ?_
    ·unfold Ik
     dsimp only
     intro g1 g2
     unfold dB
     dsimp only
     have hne : ¬ (aA r).1 = [] := by
      intro hz
      simp only [Bool.or_eq_false_iff, Bool.false_or] at g1
      have := WA r g1.1.1.1.1.1
      rw [hz, Ur] at this
      cases this
     rw [if_neg hne]
     revert g1 g2
     cases oZ (xk (ay 44 (xU off (aA r).2.1).2.1).2).1 <;> cases oZ (xk (ay 44 (xk (ay 44 (xU off (aA r).2.1).2.1).2).2.1).2).1 <;> simp
     intro q1 q2 q3 q4 q5 q6
     simp_all
    ·unfold Ik
     dsimp only
     intro g1
     revert g1
     generalize (aA r).2.2 = v1
     generalize (xU off (aA r).2.1).2.2 = v2
     generalize (ay 44 (xU off (aA r).2.1).2.1).1 = v3
     generalize (ay 44 (xk (ay 44 (xU off (aA r).2.1).2.1).2).2.1).1 = v4
     generalize xk (ay 44 (xU off (aA r).2.1).2.1).2 = v5
     generalize xk (ay 44 v5.2.1).2 = v6
     cases v1 <;> cases v2 <;> cases v3 <;> cases v4 <;> cases v5.2.2 <;> cases v6.2.2 <;> simp
end Go.Proofs.YtiegmpnagcdgoaaGreatDoor.H
namespace Go.Proofs.YtiegmpnagcdgoaaGreatDoor.H
open Go.Sh Go.RowKit
set_option linter.unusedSimpArgs false
set_option linter.unusedVariables false
theorem JG {d : DayV} (h : oZ d = true) : -604799 ≤ d.t ∧ d.t ≤ 604799 ∧ 0 ≤ d.d ∧ d.d ≤ 365 ∧ 0 ≤ d.m ∧ d.m ≤ 12 ∧ 0 ≤ d.w ∧ d.w ≤ 5 ∧ (d.k = 1 ∨ d.k = 2 ∨ d.k = 3 ∧ 1 ≤ d.m ∧ 1 ≤ d.w ∧ d.d ≤ 6) ∧ (d.k = 1 → 1 ≤ d.d) := by
 unfold oZ Fa at h
 simp only [Bool.and_eq_true, decide_eq_true_eq] at h
 obtain ⟨⟨h1, h2⟩, h⟩ := h
 split at h
 ·simp only [Bool.and_eq_true, decide_eq_true_eq] at h; omega
 ·split at h
  ·simp only [Bool.and_eq_true, decide_eq_true_eq] at h; omega
  ·split at h
   ·simp only [Bool.and_eq_true, decide_eq_true_eq] at h; omega
   ·cases h
def xV (y : Int) : Bool := decide (y % 4 = 0) && (decide (y % 100 ≠ 0) || decide (y % 400 = 0))
def uP (y m : Int) : Int := if m = 2 then (if xV y = true then 29 else 28) else if m = 4 ∨ m = 6 ∨ m = 9 ∨ m = 11 then 30 else 31
def oJ (y m d : Int) : Int :=
 (if m ≤ 2 then y - 1 else y) / 400 * 146097 + ((if m ≤ 2 then y - 1 else y) % 400 * 365 + (if m ≤ 2 then y - 1 else y) % 400 / 4 - (if m ≤ 2 then y - 1 else y) % 400 / 100) + (153 * ((m + 9) % 12) + 2) / 5 + d - 1 - 719468
theorem JH (y : Int) : xV y = true ↔ y % 4 = 0 ∧ (y % 100 ≠ 0 ∨ y % 400 = 0) := by
 unfold xV
 simp only [Bool.and_eq_true, Bool.or_eq_true, decide_eq_true_eq]
theorem Yv (n : Nat) (y : Int) (h : 0 ≤ y) : DL n y = some (xV y) := by
 unfold DL DK xV
 rw [Int.tmod_eq_emod_of_nonneg h, Int.tmod_eq_emod_of_nonneg h, Int.tmod_eq_emod_of_nonneg h, bne, JV, JV, JV]
 by_cases h1 : y % 4 = 0 <;> by_cases h2 : y % 100 = 0 <;> by_cases h3 : y % 400 = 0 <;> simp [h1, h2, h3]
theorem aaA (n : Nat) (y m : Int) (hy : 1 ≤ y ∧ y ≤ 9999) (hm : 1 ≤ m ∧ m ≤ 12) : xK n y m = some false := by
 rw [xK, yj, ah (by omega), ah (by omega), ah (by omega), decide_eq_false (by omega)]
theorem Md (n : Nat) (y m : Int) (hy : 1 ≤ y ∧ y ≤ 9999) (hm : 1 ≤ m ∧ m ≤ 12) : wR n y m = some (uP y m) := by
 unfold wR DN uP
 rw [aaA n y m hy hm, Yv n y (by omega)]
 have : m = 1 ∨ m = 2 ∨ m = 3 ∨ m = 4 ∨ m = 5 ∨ m = 6 ∨ m = 7 ∨ m = 8 ∨ m = 9 ∨ m = 10 ∨ m = 11 ∨ m = 12 := by omega
 rcases this with h | h | h | h | h | h | h | h | h | h | h | h <;> subst h
 case inr.inl => cases xV y <;> rfl
 all_goals rfl
theorem Fb (y m : Int) : 28 ≤ uP y m ∧ uP y m ≤ 31 := by
 unfold uP
 split
 ·split <;> omega
 ·split <;> omega
theorem td0 {a b : Int} (h : 0 ≤ a) : a.tdiv b = a / b := Int.tdiv_eq_ediv_of_nonneg h
theorem tm0 {a b : Int} (h : 0 ≤ a) : a.tmod b = a % b := Int.tmod_eq_emod_of_nonneg h
theorem Ay (n : Nat) (y m d : Int) (hy : 1 ≤ y ∧ y ≤ 9999) (hm : 1 ≤ m ∧ m ≤ 12) (hd : 1 ≤ d ∧ d ≤ 31) : um n y m d = some (oJ y m d) := by
 unfold um DJ EQ Ac oJ
 rw [BO, yh]
 by_cases h : m ≤ 2
 ·rw [aa h]
  simp only [Option.bind_some, if_pos h]
  simp (disch := omega) only [wi, td0, tm0]
 ·rw [ah h]
  simp only [Option.bind_some, if_neg h]
  simp (disch := omega) only [wi, td0, tm0]
theorem O0 (n : Nat) (y m : Int) (hy : 1 ≤ y ∧ y ≤ 9999) (hm : 1 ≤ m ∧ m ≤ 12) : uT n y m 1 = some true := by
 unfold uT xL
 have := Fb y m
 rw [aa (by omega), Md n y m hy hm]
 simp only [Option.bind_some]
 rw [decide_eq_true (by omega)]
theorem SX (n : Nat) (y m : Int) (hy : 1 ≤ y ∧ y ≤ 9999) (hm : 1 ≤ m ∧ m ≤ 12) : ut n y m 1 = some (oJ y m 1, 0) := by
 unfold ut Ae
 rw [O0 n y m hy hm, Ay n y m 1 hy hm (by omega)]
 rfl
theorem JI (n : Nat) (x : Int) (h : -9223372036854775808 ≤ x ∧ x ≤ 9223372036854775807) : Ab n x = some (if x < 0 then 1 else 0) := by
 unfold Ab DI
 by_cases hx : x < 0
 ·rw [if_pos hx]
  have : IntKind.u64.wrap x = x + 18446744073709551616 := by simp [IntKind.wrap, IntKind.bits, IntKind.signed]; omega
  rw [this, show ((2 : Int) ^ 63) = 9223372036854775808 from rfl, Int.fdiv_eq_ediv_of_nonneg _ (by omega)]
  congr 1
  omega
 ·rw [if_neg hx]
  have : IntKind.u64.wrap x = x := by simp [IntKind.wrap, IntKind.bits, IntKind.signed]; omega
  rw [this, show ((2 : Int) ^ 63) = 9223372036854775808 from rfl, Int.fdiv_eq_ediv_of_nonneg _ (by omega)]
  congr 1
  omega
theorem ZC (n : Nat) (a : Int) (h : -1000000000000 ≤ a ∧ a ≤ 1000000000000) : yE n a 7 = some (a / 7, a % 7, true) := by
 unfold yE EP
 rw [Cn, xH]
 rw [show ((7 : Int) == 0) = false from rfl, show ((7 : Int) == -1) = false from rfl]
 simp only [cond_false, Option.bind_some]
 have htm : -7 < Int.tmod a 7 ∧ Int.tmod a 7 < 7 := by
  by_cases ha : 0 ≤ a
  ·rw [tm0 ha]; omega
  ·obtain ⟨b, rfl⟩ : ∃ b : Int, a = -b := ⟨-a, by omega⟩
   rw [Int.neg_tmod, tm0 (by omega)]; omega
 rw [Co, xI, JI n _ (by omega), JI n 7 (by omega)]
 simp only [Option.bind_some]
 by_cases ha : 0 ≤ a
 ·rw [tm0 ha, td0 ha]
  rw [if_neg (by omega), if_neg (by omega)]
  simp (disch := omega) only [wi]
  rw [show ((0 : Int) != 0) = false from rfl]
  cases (a % 7 != 0) <;> rfl
 ·obtain ⟨b, rfl⟩ : ∃ b : Int, a = -b := ⟨-a, by omega⟩
  rw [Int.neg_tmod, Int.neg_tdiv, tm0 (by omega), td0 (by omega)]
  by_cases hz : b % 7 = 0
  ·rw [show (-(b % 7) != 0) = false by simp [hz]]
   simp only [cond_false, Option.bind_some]
   simp (disch := omega) only [wi]
   congr 2
   ·omega
   ·congr 1
    omega
  ·rw [show (-(b % 7) != 0) = true by simp [hz]]
   rw [if_pos (by omega), if_neg (by omega)]
   rw [show ((1 : Int) != 0) = true from rfl]
   simp only [cond_true, Option.bind_some]
   simp (disch := omega) only [wi]
   congr 2
   ·omega
   ·congr 1
    omega
theorem Fe (y m : Int) (hy : 1 ≤ y ∧ y ≤ 9999) (hm : 1 ≤ m ∧ m ≤ 12) : -800000 ≤ oJ y m 1 ∧ oJ y m 1 ≤ 3000000 := by
 unfold oJ
 by_cases h : m ≤ 2
 ·simp only [if_pos h]; omega
 ·simp only [if_neg h]; omega
theorem SY (n : Nat) (y m : Int) (hy : 1 ≤ y ∧ y ≤ 9999) (hm : 1 ≤ m ∧ m ≤ 12) : ym n y m 1 = some ((oJ y m 1 + 3) % 7 + 1) := by
 have hb := Fe y m hy hm
 unfold ym yl
 rw [O0 n y m hy hm, Ay n y m 1 hy hm (by omega)]
 simp only [Option.bind_some, Bool.not_true, cond_false]
 rw [wi (oJ y m 1 + 3) (by omega) (by omega), ZC n _ (by omega)]
 simp only [Option.bind_some]
 rw [wi _ (by omega) (by omega)]
def Rl (y : Int) (d : DayV) : Int :=
 let a := (d.d + 7 - ((oJ y d.m 1 + 3) % 7 + 1) % 7) % 7 + 7 * (d.w - 1)
 if uP y d.m ≤ a then a - 7 else a
def Kh (d : DayV) (y : Int) : Int :=
 if d.k = 2 then oJ y 1 1 + d.d
 else if d.k = 1 then (if xV y = true ∧ 59 < d.d then oJ y 1 1 + d.d else oJ y 1 1 + d.d - 1)
 else oJ y d.m 1 + Rl y d
def l9 (d : DayV) (y : Int) : Int := Kh d y * 86400 + d.t
theorem Ut (n m : Nat) (a l : Int) (hl : 28 ≤ l) (ha : 0 ≤ a ∧ a < 35) : gH n (m + 2) a l = some (if l ≤ a then a - 7 else a) := by
 rw [gH, mF]
 by_cases h : l ≤ a
 ·rw [aa (by omega), if_pos h, wi (a - 7) (by omega) (by omega), gH, mF, ah (by omega)]
 ·rw [ah (by omega), if_neg h]
theorem S9 (n : Nat) (d : DayV) (y : Int) (hn : 5 < n) (h : oZ d = true) (hy : 1 ≤ y ∧ y ≤ 9999) : vD n d.k d.m d.w d.d d.t y = some (Kh d y) := by
 have hb := Fe y 1 hy (by omega)
 unfold vD vC Kh
 rw [SX n y 1 hy (by omega), Md n y 2 hy (by omega)]
 simp only [Option.bind_some, JV]
 have hok := h
 unfold oZ Fa at hok
 simp only [Bool.and_eq_true, decide_eq_true_eq] at hok
 obtain ⟨⟨t1, t2⟩, hok⟩ := hok
 by_cases h2 : d.k = 2
 ·rw [aa h2, if_pos h2]
  rw [if_neg (by omega), if_pos h2] at hok
  simp only [Bool.and_eq_true, decide_eq_true_eq] at hok
  rw [wi _ (by omega) (by omega)]
 ·rw [ah h2, if_neg h2]
  by_cases h1 : d.k = 1
  ·rw [aa h1, if_pos h1]
   rw [if_pos h1] at hok
   simp only [Bool.and_eq_true, decide_eq_true_eq] at hok
   rw [uu, qO]
   have hl : decide (uP y 2 = 29) = xV y := by
    unfold uP
    rw [if_pos rfl]
    cases xV y <;> rfl
   rw [hl]
   cases xV y with
   | false =>
    simp only [cond_false, Option.bind_some]
    simp (disch := omega) only [wi]
    simp
   | true =>
    simp only [cond_true, Option.bind_some]
    simp (disch := omega) only [wi]
    by_cases h59 : d.d > 59
    ·rw [aa h59]; simp [h59]
    ·rw [ah h59]; simp [h59]
  ·rw [ah h1, if_neg h1]
   rw [if_neg h1, if_neg h2] at hok
   split at hok
   ·simp only [Bool.and_eq_true, decide_eq_true_eq] at hok
    have hm : 1 ≤ d.m ∧ d.m ≤ 12 := by omega
    have hlong := Fb y d.m
    have hdb := Fe y d.m hy hm
    rw [SY n y d.m hy hm, Md n y d.m hy hm]
    simp only [Option.bind_some]
    simp (disch := omega) only [wi, tm0]
    obtain ⟨k, hk⟩ : ∃ k, n = k + 2 := ⟨n - 2, by omega⟩
    have hl := Ut n k ((d.d + 7 - ((oJ y d.m 1 + 3) % 7 + 1) % 7) % 7 + 7 * (d.w - 1)) (uP y d.m) (by omega) (by omega)
    rw [← hk] at hl
    rw [hl, SX n y d.m hy hm]
    simp only [Option.bind_some]
    unfold Rl
    dsimp only
    split <;> rw [wi _ (by omega) (by omega)]
   ·cases hok
theorem O1 (d : DayV) (y : Int) (h : oZ d = true) (hy : 1 ≤ y ∧ y ≤ 9999) : -900000 ≤ Kh d y ∧ Kh d y ≤ 3100000 := by
 have hb := Fe y 1 hy (by omega)
 have ho := JG h
 unfold Kh
 split
 ·omega
 ·split
  ·split <;> omega
  ·have hdb := Fe y d.m hy (by omega)
   have hlong := Fb y d.m
   unfold Rl
   dsimp only
   split <;> omega
theorem O3 (n : Nat) (d : DayV) (y : Int) (hn : 5 < n) : uN n d.k d.m d.w d.d d.t y =
 some (if oZ d = true then (if 2 ≤ y ∧ y ≤ 9998 then (l9 d y, 0) else (0, 30)) else (0, 2)) := by
 unfold uN yn
 rw [L8, show oZ ⟨d.k, d.m, d.w, d.d, d.t⟩ = oZ d from rfl]
 simp only [Option.bind_some]
 cases h : oZ d with
 | false => rfl
 | true =>
  simp only [Bool.not_true, cond_false, if_true]
  rw [wT, uw]
  by_cases h1 : y < 2
  ·rw [aa h1, if_neg (by omega)]; rfl
  ·rw [ah h1]
   by_cases h2 : y > 9998
   ·rw [decide_eq_true h2, if_neg (by omega)]; rfl
   ·rw [decide_eq_false h2, if_pos (by omega)]
    simp only [Option.bind_some, cond_false]
    rw [S9 n d y hn h (by omega)]
    have hb := O1 d y h (by omega)
    have ho := JG h
    simp only [Option.bind_some]
    unfold l9
    simp (disch := omega) only [wi]
end Go.Proofs.YtiegmpnagcdgoaaGreatDoor.H
namespace Go.Proofs.YtiegmpnagcdgoaaGreatDoor.H
open Go.Sh Go.RowKit
set_option linter.unusedSimpArgs false
set_option linter.unusedVariables false
def mO (y : Int) : Int := oJ y 1 1
theorem Me (y : Int) : mO y = (y - 1) / 400 * 146097 + ((y - 1) % 400 * 365 + (y - 1) % 400 / 4 - (y - 1) % 400 / 100) + 306 - 719468 := by
 unfold mO oJ
 simp only [if_pos (show (1 : Int) ≤ 2 by omega)]
 omega
theorem JJ (y : Int) (hy : 1 ≤ y) : mO (y + 1) = mO y + 365 + (if xV y = true then 1 else 0) := by
 have hl := JH y
 rw [Me, Me]
 by_cases h : xV y = true
 ·rw [if_pos h]
  rw [h] at hl
  have := hl.1 rfl
  omega
 ·rw [if_neg h]
  have h' : ¬ (y % 4 = 0 ∧ (y % 100 ≠ 0 ∨ y % 400 = 0)) := fun q => h (hl.2 q)
  omega
theorem JK (y : Int) (hy : 1 ≤ y ∧ y ≤ 10001) : -800000 ≤ mO y ∧ mO y ≤ 3000000 := by
 rw [Me]
 omega
theorem MP : mO 1970 = 0 := by decide +kernel
theorem GI : ∀ (k : Nat) (y : Int), 1 ≤ y → mO y + 365 * (k : Int) ≤ mO (y + k) ∧ mO (y + k) ≤ mO y + 366 * (k : Int)
 | 0, y, _ => by simp
 | k + 1, y, h => by
  have h1 := GI k y h
  have h2 := JJ (y + k) (by omega)
  rw [show y + ((k + 1 : Nat) : Int) = y + (k : Int) + 1 by omega]
  split at h2 <;> omega
theorem Hz {a b : Int} (ha : 1 ≤ a) (h : a ≤ b) : mO a ≤ mO b := by
 obtain ⟨k, hk⟩ : ∃ k : Nat, b = a + k := ⟨(b - a).toNat, by omega⟩
 have := (GI k a ha).1
 rw [hk]
 omega
def InYear (y n : Int) : Prop := mO y ≤ n ∧ n < mO (y + 1)
theorem InYear.one {a b n : Int} (ha : 1 ≤ a) (hb : 1 ≤ b) (h1 : InYear a n) (h2 : InYear b n) : a = b := by
 by_cases h : a < b
 ·have := Hz (a := a + 1) (b := b) (by omega) (by omega)
  have := h1.2
  have := h2.1
  omega
 ·by_cases h' : b < a
  ·have := Hz (a := b + 1) (b := a) (by omega) (by omega)
   have := h2.2
   have := h1.1
   omega
  ·omega
end Go.Proofs.YtiegmpnagcdgoaaGreatDoor.H
namespace Go.Proofs.YtiegmpnagcdgoaaGreatDoor.H
open Go.Sh Go.RowKit
set_option linter.unusedSimpArgs false
set_option linter.unusedVariables false
theorem JL (n : Nat) (y : Int) (h : 0 ≤ y) : iN n y = some (xV y) := by
 unfold iN Ba xV
 rw [Int.tmod_eq_emod_of_nonneg h, Int.tmod_eq_emod_of_nonneg h, Int.tmod_eq_emod_of_nonneg h, bne, JV, JV, JV]
 by_cases h1 : y % 4 = 0 <;> by_cases h2 : y % 100 = 0 <;> by_cases h3 : y % 400 = 0 <;> simp [h1, h2, h3]
theorem Qu (n : Nat) (y : Int) (hy : 1970 ≤ y ∧ y ≤ 10000) : ∀ (m : Nat) (k : Int), (y - k).toNat < m → 1970 ≤ k ∧ k ≤ y → fG n m y (mO k) k = some (mO y)
 | 0, k, h, _ => by omega
 | m + 1, k, h, hk => by
  rw [fG, oV]
  by_cases hlt : k < y
  ·have hb := JK k (by omega)
   have hn := JJ k (by omega)
   rw [aa hlt, xO, wu, JL n k (by omega)]
   simp only [Option.bind_some]
   have hnext := Qu n y hy m (k + 1) (by omega) (by omega)
   cases hl : xV k with
   | true =>
    rw [hl, if_pos rfl] at hn
    simp only [cond_true, Option.bind_some]
    simp (disch := omega) only [wi]
    rw [← hn]
    exact hnext
   | false =>
    rw [hl, if_neg (by simp)] at hn
    simp only [cond_false, Option.bind_some]
    simp (disch := omega) only [wi]
    rw [show mO k + 365 = mO (k + 1) by omega]
    exact hnext
  ·rw [ah hlt, show k = y by omega]
theorem Np (n : Nat) (y : Int) (hy : 1 ≤ y ∧ y ≤ 1970) : ∀ (m : Nat) (k : Int), (1970 - k).toNat < m → y ≤ k ∧ k ≤ 1970 → iZ n m (mO y - mO k) k = some (mO y)
 | 0, k, h, _ => by omega
 | m + 1, k, h, hk => by
  rw [iZ, oW]
  by_cases hlt : k < 1970
  ·have hb := JK k (by omega)
   have hb2 := JK y (by omega)
   have hn := JJ k (by omega)
   rw [aa hlt, xP, ww, JL n k (by omega)]
   simp only [Option.bind_some]
   have hnext := Np n y hy m (k + 1) (by omega) (by omega)
   cases hl : xV k with
   | true =>
    rw [hl, if_pos rfl] at hn
    simp only [cond_true, Option.bind_some]
    simp (disch := omega) only [wi]
    rw [show mO y - mO k - 365 - 1 = mO y - mO (k + 1) by omega]
    exact hnext
   | false =>
    rw [hl, if_neg (by simp)] at hn
    simp only [cond_false, Option.bind_some]
    simp (disch := omega) only [wi]
    rw [show mO y - mO k - 365 = mO y - mO (k + 1) by omega]
    exact hnext
  ·rw [ah hlt, show k = 1970 by omega, MP, Int.sub_zero]
theorem KP (n : Nat) (y : Int) (hn : 10000 < n) (hy : 1 ≤ y ∧ y ≤ 10000) : dU n y = some (mO y) := by
 unfold dU y8
 obtain ⟨k, hk⟩ : ∃ k, n = k + 1 := ⟨n - 1, by omega⟩
 by_cases h : 1970 ≤ y
 ·have h1 := Qu n y (by omega) n 1970 (by omega) (by omega)
  rw [MP] at h1
  rw [h1]
  simp only [Option.bind_some]
  conv => lhs; arg 1; arg 2; rw [hk]
  rw [iZ, oW, ah (by omega)]
  rfl
 ·have h1 : fG n n y 0 1970 = some 0 := by
   conv => lhs; arg 2; rw [hk]
   rw [fG, oV, ah (by omega)]
  have h2 := Np n y (by omega) n y (by omega) (by omega)
  rw [Int.sub_self] at h2
  rw [h1]
  simp only [Option.bind_some]
  rw [h2]
  rfl
theorem Qv (n : Nat) (y m : Int) (hy : 0 ≤ y) (hm : 1 ≤ m ∧ m ≤ 12) : pY n y m = some (uP y m) := by
 unfold pY Bb uP
 rw [JL n y hy]
 have : m = 1 ∨ m = 2 ∨ m = 3 ∨ m = 4 ∨ m = 5 ∨ m = 6 ∨ m = 7 ∨ m = 8 ∨ m = 9 ∨ m = 10 ∨ m = 11 ∨ m = 12 := by omega
 rcases this with h | h | h | h | h | h | h | h | h | h | h | h <;> subst h
 case inr.inl => cases xV y <;> rfl
 all_goals rfl
theorem Uu (y m : Int) (hy : 1 ≤ y) (hm : 1 ≤ m ∧ m ≤ 11) : oJ y (m + 1) 1 = oJ y m 1 + uP y m := by
 have : m = 1 ∨ m = 2 ∨ m = 3 ∨ m = 4 ∨ m = 5 ∨ m = 6 ∨ m = 7 ∨ m = 8 ∨ m = 9 ∨ m = 10 ∨ m = 11 := by omega
 unfold uP
 have hl := JH y
 rcases this with h | h | h | h | h | h | h | h | h | h | h <;> subst h
 case inr.inl =>
  rw [if_pos rfl]
  unfold oJ
  simp only [if_neg (show ¬ ((2 : Int) + 1 ≤ 2) by omega), if_pos (show (2 : Int) ≤ 2 by omega)]
  by_cases h : xV y = true
  ·rw [if_pos h]
   rw [h] at hl
   have := hl.1 rfl
   omega
  ·rw [if_neg h]
   have h' : ¬ (y % 4 = 0 ∧ (y % 100 ≠ 0 ∨ y % 400 = 0)) := fun q => h (hl.2 q)
   omega
 all_goals (unfold oJ; simp; try omega)
theorem O4 (n : Nat) (d : DayV) (y : Int) (hy : 1 ≤ y ∧ y ≤ 9999) (hd : 1 ≤ d.m ∧ d.m ≤ 12) : ∀ (q : Nat) (m : Int), (d.m - m).toNat < q → 1 ≤ m ∧ m ≤ d.m →
 l7 n q y (oJ y m 1) m d.k d.m d.w d.d d.t = some (oJ y d.m 1, d.k, d.m, d.w, d.d, d.t)
 | 0, m, h, _ => by omega
 | q + 1, m, h, hm => by
  rw [l7, wC]
  by_cases hlt : m < d.m
  ·have hb := Fe y m hy (by omega)
   have hl := Fb y m
   rw [aa hlt, Qv n y m (by omega) (by omega)]
   simp only [Option.bind_some]
   simp (disch := omega) only [wi]
   rw [← Uu y m hy.1 (by omega)]
   exact O4 n d y hy hd q (m + 1) (by omega) (by omega)
  ·rw [ah hlt, show m = d.m by omega]
def tX (r w k : Int) : Int := if k ≤ r then 0 else if (k - 1 - r) / 7 + 1 ≤ w then (k - 1 - r) / 7 + 1 else w
theorem abf (x : Int) (h : -1000000000 ≤ x ∧ x ≤ 1000000000) : Int.tmod (IntKind.i64.wrap (Int.tmod x 7 + 7)) 7 = x % 7 := by
 by_cases hx : 0 ≤ x
 ·rw [tm0 hx, wi _ (by omega) (by omega), tm0 (by omega)]
  omega
 ·obtain ⟨b, rfl⟩ : ∃ b : Int, x = -b := ⟨-x, by omega⟩
  rw [Int.neg_tmod, tm0 (show (0 : Int) ≤ b by omega), wi _ (by omega) (by omega), tm0 (by omega)]
  omega
theorem Qw (n : Nat) (d : DayV) (y f r : Int) (hy : 1 ≤ y ∧ y ≤ 9999) (hm : 1 ≤ d.m ∧ d.m ≤ 12) (hw : 1 ≤ d.w ∧ d.w ≤ 5) (hd : 0 ≤ d.d ∧ d.d ≤ 6) (hf : -800000 ≤ f ∧ f ≤ 3000000) (hr : r = (d.d - (f + 4)) % 7) :
 ∀ (q : Nat) (k : Int), (uP y d.m - k).toNat < q → 0 ≤ k ∧ k ≤ uP y d.m →
 l8 n q y f (if tX r d.w k = 0 then -1 else f + r + 7 * (tX r d.w k - 1)) (tX r d.w k) k d.k d.m d.w d.d d.t
  = some (f + r + 7 * (tX r d.w (uP y d.m) - 1), d.k, d.m, d.w, d.d, d.t)
 | 0, k, h, _ => by omega
 | q + 1, k, h, hk => by
  have hl := Fb y d.m
  rw [l8, wF, Qv n y d.m (by omega) hm]
  simp only [Option.bind_some]
  by_cases hlt : k < uP y d.m
  ·rw [aa hlt, xS, wE]
   rw [wi (f + k) (by omega) (by omega), wi (f + k + 4) (by omega) (by omega), abf _ (by omega)]
   rw [xR, wD, JV]
   have hnext := Qw n d y f r hy hm hw hd hf hr q (k + 1) (by omega) (by omega)
   have hs0 : 0 ≤ tX r d.w k ∧ tX r d.w k ≤ 5 := by unfold tX; split <;> (try split) <;> omega
   rw [wi (k + 1) (by omega) (by omega)]
   by_cases hday : (f + k + 4) % 7 = d.d
   ·rw [aa hday]
    simp only [Option.bind_some]
    by_cases hsn : tX r d.w k < d.w
    ·have e1 : tX r d.w (k + 1) = tX r d.w k + 1 := by
      revert hsn
      unfold tX
      split <;> split <;> (try split) <;> (try split) <;> omega
     have e2 : f + k = f + r + 7 * (tX r d.w (k + 1) - 1) := by
      revert hsn
      unfold tX
      split <;> split <;> (try split) <;> (try split) <;> omega
     rw [decide_eq_true hsn]
     simp only [cond_true, Option.bind_some]
     rw [wi (tX r d.w k + 1) (by omega) (by omega), ← e1]
     rw [if_neg (by omega), ← e2] at hnext
     exact hnext
    ·have e1 : tX r d.w (k + 1) = tX r d.w k := by
      revert hsn
      unfold tX
      split <;> split <;> (try split) <;> (try split) <;> omega
     rw [decide_eq_false hsn]
     simp only [cond_false, Option.bind_some]
     rw [e1] at hnext
     exact hnext
   ·have e1 : tX r d.w (k + 1) = tX r d.w k := by
     unfold tX
     split <;> split <;> (try split) <;> (try split) <;> omega
    rw [ah hday]
    simp only [Option.bind_some, cond_false]
    rw [e1] at hnext
    exact hnext
  ·rw [ah hlt]
   have hkl : k = uP y d.m := by omega
   subst hkl
   have : tX r d.w (uP y d.m) ≠ 0 := by
    unfold tX
    split <;> (try split) <;> omega
   rw [if_neg this]
theorem Nq (n : Nat) (d : DayV) (y : Int) (hn : 10000 < n) (h : oZ d = true) (hy : 1 ≤ y ∧ y ≤ 9999) : nz n d.k d.m d.w d.d d.t y = some (l9 d y) := by
 have ho := JG h
 have hb := JK y (by omega)
 have h2b := O1 d y h hy
 unfold nz za l9
 rw [KP n y hn (by omega)]
 simp only [Option.bind_some, JV]
 by_cases h1 : d.k = 1
 ·rw [aa h1, xQ, wB, JL n y (by omega)]
  unfold Kh
  rw [if_neg (show ¬ d.k = 2 by omega), if_pos h1]
  change _ = some ((if xV y = true ∧ 59 < d.d then mO y + d.d else mO y + d.d - 1) * 86400 + d.t)
  cases hl : xV y with
  | false =>
   simp only [Option.bind_some, cond_false]
   simp (disch := omega) only [wi]
   simp
  | true =>
   simp only [Option.bind_some, cond_true]
   by_cases h59 : d.d > 59
   ·rw [decide_eq_true h59, cond_true, if_pos ⟨trivial, h59⟩]
    simp (disch := omega) only [wi]
    rw [show mO y + d.d - 1 + 1 = mO y + d.d by omega]
   ·rw [decide_eq_false h59, cond_false, if_neg (by rintro ⟨_, q⟩; exact h59 q)]
    simp (disch := omega) only [wi]
 ·rw [ah h1]
  by_cases h2 : d.k = 2
  ·rw [aa h2]
   unfold Kh
   rw [if_pos h2]
   change _ = some ((mO y + d.d) * 86400 + d.t)
   simp (disch := omega) only [wi]
  ·have h3 : d.k = 3 := by omega
   rw [ah h2, aa h3]
   have hm : 1 ≤ d.m ∧ d.m ≤ 12 := by omega
   have hw : 1 ≤ d.w ∧ d.w ≤ 5 := by omega
   have hfb := Fe y d.m hy hm
   have hl := Fb y d.m
   rw [show mO y = oJ y 1 1 from rfl, O4 n d y hy hm n 1 (by omega) (by omega)]
   simp only [Option.bind_some]
   have hk := Qw n d y (oJ y d.m 1) _ hy hm hw (by omega) hfb rfl n 0 (by omega) (by omega)
   generalize hr : (d.d - (oJ y d.m 1 + 4)) % 7 = r at hk
   have hr' : 0 ≤ r ∧ r < 7 := by omega
   have hs0 : tX r d.w 0 = 0 := by unfold tX; rw [if_pos (by omega)]
   rw [hs0, if_pos rfl] at hk
   rw [hk]
   have e : Kh d y = oJ y d.m 1 + r + 7 * (tX r d.w (uP y d.m) - 1) := by
    unfold Kh
    rw [if_neg h2, if_neg h1]
    unfold Rl tX
    dsimp only
    rw [if_neg (show ¬ uP y d.m ≤ r by omega)]
    have e1 : (d.d + 7 - ((oJ y d.m 1 + 3) % 7 + 1) % 7) % 7 = r := by omega
    rw [e1]
    split <;> split <;> omega
   simp only [Option.bind_some]
   rw [← e]
   simp (disch := omega) only [wi]
end Go.Proofs.YtiegmpnagcdgoaaGreatDoor.H
namespace Go.Proofs.YtiegmpnagcdgoaaGreatDoor.H
open Go.Sh Go.RowKit
set_option linter.unusedSimpArgs false
set_option linter.unusedVariables false
theorem WC (n : Nat) (a : Int) (h : -1000000000000 ≤ a ∧ a ≤ 1000000000000) : vU n a 86400 = some (a / 86400) := by
 unfold vU Aj
 rw [show ((86400 : Int) == 0) = false from rfl]
 simp only [cond_false]
 by_cases ha : 0 ≤ a
 ·rw [tm0 ha, td0 ha, ah (by omega), wi _ (by omega) (by omega)]
 ·obtain ⟨b, rfl⟩ : ∃ b : Int, a = -b := ⟨-a, by omega⟩
  rw [Int.neg_tmod, Int.neg_tdiv, tm0 (by omega), td0 (by omega)]
  by_cases hz : b % 86400 = 0
  ·rw [ah (by omega), wi _ (by omega) (by omega)]
   congr 1
   omega
  ·rw [aa (by omega)]
   simp (disch := omega) only [wi]
   congr 1
   omega
def Az (k : Nat) : Nat := k - k / 1460 + k / 36524 - k / 146096
def kG (y : Nat) : Nat := 365 * y + y / 4 - y / 100
theorem WE : ((List.range 400).all fun y => decide (365 * y ≤ Az (kG y)) && (y == 0 || decide (Az (kG y - 1) < 365 * y))) = true := by decide +kernel
theorem Vk (y : Nat) (h : y < 400) : 365 * y ≤ Az (kG y) ∧ (1 ≤ y → Az (kG y - 1) < 365 * y) := by
 have := List.all_eq_true.1 WE y (List.mem_range.2 h)
 simp only [Bool.and_eq_true, Bool.or_eq_true, decide_eq_true_eq, beq_iff_eq] at this
 exact ⟨this.1, fun hy => this.2.resolve_left (by omega)⟩
theorem Ta (a b : Nat) (h : a ≤ b) (hb : b < 146096) : Az a ≤ Az b := by
 unfold Az
 omega
theorem Tc (k : Nat) (h : k < 146097) : Az k / 365 ≤ 399 ∧ kG (Az k / 365) ≤ k ∧ (Az k / 365 < 399 → k < kG (Az k / 365 + 1)) := by
 by_cases hk : k = 146096
 ·subst hk
  decide +kernel
 ·have hF : Az k ≤ 145999 := by unfold Az; omega
  have hY : Az k / 365 ≤ 399 := by omega
  refine ⟨hY, ?_, ?_⟩
  ·have hr := Vk (Az k / 365) (by omega)
   by_cases hlt : k < kG (Az k / 365)
   ·have h1 : 1 ≤ Az k / 365 := by
     by_cases h0 : Az k / 365 = 0
     ·rw [h0] at hlt
      simp [kG] at hlt
     ·omega
    have h2 := hr.2 h1
    have hS : kG (Az k / 365) ≤ 146000 := by unfold kG; omega
    have h3 := Ta k (kG (Az k / 365) - 1) (by omega) (by omega)
    omega
   ·omega
  ·intro hlt
   have hr := Vk (Az k / 365 + 1) (by omega)
   by_cases hge : kG (Az k / 365 + 1) ≤ k
   ·have h3 := Ta (kG (Az k / 365 + 1)) k hge (by omega)
    omega
   ·omega
theorem KQ : oJ 9999 12 31 = 2932896 := by decide +kernel
theorem Jj : oJ 1 1 1 = -719162 := by decide +kernel
theorem aaB (n : Nat) (a : Int) (h : -700000 ≤ a ∧ a ≤ 2900000) : ∃ y m d, rQ n a = some (y, m, d, 0) ∧ InYear y a ∧ 1 ≤ y := by
 unfold rQ Bo
 rw [yU, uS, Ay n 1 1 1 (by omega) (by omega) (by omega), Ay n 9999 12 31 (by omega) (by omega) (by omega), Jj, KQ]
 simp only [Option.bind_some]
 rw [ah (by omega), decide_eq_false (by omega)]
 simp only [Option.bind_some, cond_false]
 rw [wi (a + 719468) (by omega) (by omega), tm0 (show (0 : Int) ≤ a + 719468 by omega), td0 (show (0 : Int) ≤ a + 719468 by omega)]
 obtain ⟨k, hk⟩ : ∃ k : Nat, (a + 719468) % 146097 = (k : Int) := ⟨((a + 719468) % 146097).toNat, by omega⟩
 obtain ⟨q, hq⟩ : ∃ q : Nat, (a + 719468) / 146097 = (q : Int) := ⟨((a + 719468) / 146097).toNat, by omega⟩
 have hkq : a + 719468 = 146097 * (q : Int) + (k : Int) := by omega
 have hkl : k < 146097 := by omega
 have hql : q < 30 := by omega
 rw [hk, hq]
 obtain ⟨y1, y2, y3⟩ := Tc k hkl
 have hY : IntKind.i64.wrap (Int.tdiv (IntKind.i64.wrap (IntKind.i64.wrap (IntKind.i64.wrap ((k : Int) - IntKind.i64.wrap (Int.tdiv (k : Int) 1460)) + IntKind.i64.wrap (Int.tdiv (k : Int) 36524)) - IntKind.i64.wrap (Int.tdiv (k : Int) 146096))) 365) = ((Az k / 365 : Nat) : Int) := by
  simp (disch := omega) only [wi, td0]
  unfold Az
  omega
 rw [hY]
 generalize Az k / 365 = Y at *
 have hR : IntKind.i64.wrap ((k : Int) - IntKind.i64.wrap (IntKind.i64.wrap (IntKind.i64.wrap (365 * (Y : Int)) + IntKind.i64.wrap (Int.tdiv (Y : Int) 4)) - IntKind.i64.wrap (Int.tdiv (Y : Int) 100))) = (k : Int) - ((kG Y : Nat) : Int) := by
  simp (disch := omega) only [wi, td0]
  unfold kG
  omega
 rw [hR]
 have hYS : ∀ Z : Nat, Z ≤ 400 → mO (400 * (q : Int) + (Z : Int) + 1) = 146097 * (q : Int) + ((kG Z : Nat) : Int) + (if Z = 400 then 1 else 0) + 306 - 719468 := by
  intro Z hZ
  rw [Me]
  unfold kG
  split <;> omega
 have hpos : 1 ≤ 400 * (q : Int) + (Y : Int) := by
  by_cases h0 : Y = 0
  ·by_cases hq0 : q = 0
   ·have h1 := y3 (by omega)
    rw [h0] at h1
    have : kG (0 + 1) = 365 := by decide +kernel
    omega
   ·omega
  ·omega
 have hb0 := hYS Y (by omega)
 rw [if_neg (by omega)] at hb0
 have hmon : IntKind.i64.wrap (Int.tdiv (IntKind.i64.wrap (IntKind.i64.wrap (5 * ((k : Int) - ((kG Y : Nat) : Int))) + 2)) 153) = (5 * ((k : Int) - ((kG Y : Nat) : Int)) + 2) / 153 := by
  have hup : (k : Int) - ((kG Y : Nat) : Int) ≤ 400 := by
   by_cases h9 : Y < 399
   ·have := y3 h9
    have : kG (Y + 1) ≤ kG Y + 366 := by unfold kG; omega
    omega
   ·have : Y = 399 := by omega
    subst this
    have : kG 399 = 145731 := by decide +kernel
    omega
  simp (disch := omega) only [wi, td0]
 rw [hmon]
 have hR0 : 0 ≤ (k : Int) - ((kG Y : Nat) : Int) := by omega
 have hnext : Y < 399 → mO (400 * (q : Int) + (Y : Int) + 2) > a := by
  intro h9
  have h1 := y3 h9
  have h2 := hYS (Y + 1) (by omega)
  rw [if_neg (by omega)] at h2
  rw [show 400 * (q : Int) + (Y : Int) + 2 = 400 * (q : Int) + ((Y + 1 : Nat) : Int) + 1 by omega, h2]
  omega
 have hlast : Y = 399 → mO (400 * (q : Int) + (Y : Int) + 2) > a := by
  intro h9
  subst h9
  have h2 := hYS 400 (by omega)
  rw [if_pos rfl] at h2
  have : kG 400 = 146096 := by decide +kernel
  rw [show 400 * (q : Int) + ((399 : Nat) : Int) + 2 = 400 * (q : Int) + ((400 : Nat) : Int) + 1 by omega, h2]
  omega
 have hR366 : (k : Int) - ((kG Y : Nat) : Int) ≤ 366 := by
  by_cases h9 : Y < 399
  ·have := y3 h9
   have : kG (Y + 1) ≤ kG Y + 366 := by unfold kG; omega
   omega
  ·have : Y = 399 := by omega
   subst this
   have : kG 399 = 145731 := by decide +kernel
   omega
 generalize hRR : (k : Int) - ((kG Y : Nat) : Int) = R at *
 have hyear : IntKind.i64.wrap (IntKind.i64.wrap ((q : Int) * 400) + (Y : Int)) = 400 * (q : Int) + (Y : Int) := by
  simp (disch := omega) only [wi]
  omega
 rw [wi (q : Int) (by omega) (by omega), hyear]
 rw [wi ((5 * R + 2) / 153 + 2) (by omega) (by omega), tm0 (show (0 : Int) ≤ (5 * R + 2) / 153 + 2 by omega), wi (((5 * R + 2) / 153 + 2) % 12 + 1) (by omega) (by omega)]
 have hM : 0 ≤ (5 * R + 2) / 153 ∧ (5 * R + 2) / 153 ≤ 11 ∧ (R ≤ 305 → (5 * R + 2) / 153 ≤ 9) ∧ (306 ≤ R → 10 ≤ (5 * R + 2) / 153) := by omega
 generalize (5 * R + 2) / 153 = M at *
 by_cases h306 : 306 ≤ R
 ·have hMM : M = 10 ∨ M = 11 := by omega
  have hm : (M + 2) % 12 + 1 ≤ 2 := by rcases hMM with h | h <;> rw [h] <;> decide
  rw [aa hm, wi (400 * (q : Int) + (Y : Int) + 1) (by omega) (by omega)]
  refine ⟨_, _, _, rfl, ⟨?_, ?_⟩, by omega⟩
  ·rw [hb0]; omega
  ·rw [show 400 * (q : Int) + (Y : Int) + 1 + 1 = 400 * (q : Int) + (Y : Int) + 2 by omega]
   by_cases h9 : Y < 399
   ·exact hnext h9
   ·exact hlast (by omega)
 ·have hm : ¬ ((M + 2) % 12 + 1 ≤ 2) := by rw [Int.emod_eq_of_lt (by omega) (by omega)]; omega
  rw [ah hm]
  have hprev : mO (400 * (q : Int) + (Y : Int)) ≤ mO (400 * (q : Int) + (Y : Int) + 1) - 365 := by
   have := JJ (400 * (q : Int) + (Y : Int)) hpos
   split at this <;> omega
  refine ⟨_, _, _, rfl, ⟨?_, ?_⟩, by omega⟩
  ·omega
  ·rw [hb0]; omega
end Go.Proofs.YtiegmpnagcdgoaaGreatDoor.H
namespace Go.Proofs.YtiegmpnagcdgoaaGreatDoor.H
open Go.Sh Go.RowKit
set_option linter.unusedSimpArgs false
set_option linter.unusedVariables false
def O5 (t at' : Int) (is : Bool) (s : Bool × Int × Bool) : Bool × Int × Bool := if at' ≤ t ∧ (s.1 = false ∨ s.2.1 < at' ∨ at' = s.2.1 ∧ is = false) then (true, at', is) else s
def jD (r : RuleV) (t y : Int) (s : Bool × Int × Bool) : Bool × Int × Bool := O5 t (l9 r.b y - r.doff) false (O5 t (l9 r.a y - r.off) true s)
def Uv (r : RuleV) (t y : Int) : Bool × Int × Bool := jD r t (y + 1) (jD r t y (jD r t (y - 1) (jD r t (y - 2) (false, 0, false))))
theorem Vl (n : Nat) (t at' : Int) (is : Bool) (s : Bool × Int × Bool) : xN n at' is t s.1 s.2.1 s.2.2 = some (t, O5 t at' is s) := by
 obtain ⟨met, latest, summer⟩ := s
 unfold xN BS O5
 dsimp only
 rw [JV]
 by_cases h1 : at' ≤ t
 ·rw [aa h1]
  cases met with
  | false => simp [h1]
  | true =>
   simp only [Bool.not_true, cond_false]
   by_cases h2 : at' > latest
   ·rw [aa h2, if_pos ⟨h1, .inr (.inl h2)⟩]
   ·rw [ah h2]
    by_cases h3 : at' = latest
    ·rw [aa h3]
     cases is with
     | false => rw [if_pos ⟨h1, .inr (.inr ⟨h3, rfl⟩)⟩]; rfl
     | true =>
      rw [if_neg (by rintro ⟨_, h | h | h⟩; · cases h
                     ·exact h2 h
                     ·cases h.2)]
      rfl
    ·rw [ah h3, if_neg (by rintro ⟨_, h | h | h⟩; · cases h
                           ·exact h2 h
                           ·exact h3 h.1)]
 ·rw [ah h1, if_neg (by rintro ⟨h, _⟩; exact h1 h)]
theorem HV (d : DayV) (y : Int) (h : oZ d = true) (hy : 1 ≤ y ∧ y ≤ 9999) : -100000000000 ≤ l9 d y ∧ l9 d y ≤ 300000000000 := by
 have h1 := O1 d y h hy
 have h2 := JG h
 unfold l9
 omega
theorem ZE (n m : Nat) (hn : 5 < n) (r : RuleV) (ha : oZ r.a = true) (hb : oZ r.b = true) (h1 : -89999 ≤ r.off ∧ r.off ≤ 89999) (h2 : -89999 ≤ r.doff ∧ r.doff ≤ 89999)
 (t y Y mm dd : Int) (hy : 2 ≤ y ∧ y ≤ 9998) (hY : 2 ≤ Y ∧ Y ≤ 9996) (hlt : y < Y + 2) (s : Bool × Int × Bool) :
 lY n (m + 1) y r.std r.dst r.off r.doff r.a.k r.a.m r.a.w r.a.d r.a.t r.b.k r.b.m r.b.w r.b.d r.b.t t Y mm dd s.2.1 s.2.2 s.1
 = lY n m (y + 1) r.std r.dst r.off r.doff r.a.k r.a.m r.a.w r.a.d r.a.t r.b.k r.b.m r.b.w r.b.d r.b.t t Y mm dd (jD r t y s).2.1 (jD r t y s).2.2 (jD r t y s).1 := by
 have b1 := HV r.a y ha (by omega)
 have b2 := HV r.b y hb (by omega)
 rw [lY, vX, wi (Y + 2) (by omega) (by omega), aa hlt, O3 n r.a y hn, O3 n r.b y hn]
 simp only [Option.bind_some]
 rw [if_pos ha, if_pos hb, if_pos hy, if_pos hy]
 simp only
 rw [wi (l9 r.a y - r.off) (by omega) (by omega), wi (l9 r.b y - r.doff) (by omega) (by omega), Vl]
 simp only [Option.bind_some]
 rw [Vl]
 simp only [Option.bind_some]
 rw [wi (y + 1) (by omega) (by omega)]
 rfl
def ja (s : Int) : Int := if (-10000000000 : Int) < (if s < (100000000000 : Int) then s else (100000000000 : Int)) then (if s < (100000000000 : Int) then s else (100000000000 : Int)) else (-10000000000 : Int)
theorem Qx (s : Int) : -10000000000 ≤ ja s ∧ ja s ≤ 100000000000 := by
 unfold ja
 split <;> (try split) <;> omega
theorem Qy : mO 1600 = -135140 := by decide +kernel
theorem MQ : mO 5200 = 1179733 := by decide +kernel
theorem Vm {y n : Int} (hy : 1 ≤ y) (h : InYear y n) (hn : -130000 ≤ n ∧ n ≤ 1170000) : 1600 ≤ y ∧ y ≤ 5200 := by
 have e1 := Qy
 have e2 := MQ
 constructor
 ·by_cases hlt : y < 1600
  ·have := Hz (a := y + 1) (b := 1600) (by omega) (by omega)
   have := h.2
   omega
  ·omega
 ·by_cases hgt : 5200 < y
  ·have := Hz (a := 5200) (b := y) (by omega) (by omega)
   have := h.1
   omega
  ·omega
theorem Bw {r : RuleV} (h : dB r = true) : rU r.std = true ∧ -89999 ≤ r.off ∧ r.off ≤ 89999 ∧
 (r.dst = [] ∧ r.doff = 0 ∨ rU r.dst = true ∧ r.dst ≠ [] ∧ -89999 ≤ r.doff ∧ r.doff ≤ 89999 ∧ oZ r.a = true ∧ oZ r.b = true) := by
 unfold dB at h
 simp only [Bool.and_eq_true, Fa, decide_eq_true_eq] at h
 obtain ⟨⟨h1, h2⟩, h⟩ := h
 refine ⟨h1, h2.1, h2.2, ?_⟩
 split at h
 ·rename_i hd
  simp only [Bool.and_eq_true, beq_iff_eq] at h
  exact .inl ⟨hd, h.1.1⟩
 ·rename_i hd
  simp only [Bool.and_eq_true, decide_eq_true_eq] at h
  exact .inr ⟨h.1.1.1, hd, h.1.1.2.1, h.1.1.2.2, h.1.2, h.2⟩
def Jk (r : RuleV) (t y : Int) : Int × Bool := if (Uv r t y).2.2 = true then (r.doff, true) else (r.off, false)
theorem at_val (n : Nat) (r : RuleV) (s : Int) (hn : 200 < n) (h : dB r = true) (hd : r.dst ≠ []) :
 ∃ y, InYear y ((ja s + r.off) / 86400) ∧ 1600 ≤ y ∧ y ≤ 5200 ∧ qP n r.std r.dst r.off r.doff r.a.k r.a.m r.a.w r.a.d r.a.t r.b.k r.b.m r.b.w r.b.d r.b.t s = some (Jk r (ja s) y) := by
 obtain ⟨h1, h2, h3, h4⟩ := Bw h
 obtain ⟨h4, _, h5, h6, h7, h8⟩ := h4.resolve_left (fun q => hd q.1)
 have l1 : r.std.length ≤ 10 := by unfold rU at h1; simp only [Bool.and_eq_true, decide_eq_true_eq] at h1; exact h1.1.2
 have l2 : r.dst.length ≤ 10 := by unfold rU at h4; simp only [Bool.and_eq_true, decide_eq_true_eq] at h4; exact h4.1.2
 have hc := Qx s
 obtain ⟨y, mm, dd, k1, k2, k3⟩ := aaB n ((ja s + r.off) / 86400) (by omega)
 have hy := Vm k3 k2 (by omega)
 refine ⟨y, k2, hy.1, hy.2, ?_⟩
 unfold qP yZ
 rw [right_val n _ _ _ _ _ _ _ _ _ _ _ _ _ _ (by omega) (by omega) (by omega) (by omega)]
 rw [show dB ⟨r.std, r.dst, r.off, r.doff, ⟨r.a.k, r.a.m, r.a.w, r.a.d, r.a.t⟩, ⟨r.b.k, r.b.m, r.b.w, r.b.d, r.b.t⟩⟩ = true from h]
 simp only [Option.bind_some, Bool.not_true, cond_false]
 rw [show (r.dst == ([] : Str)) = false by simpa using hd, cond_false]
 change ((vU n (IntKind.i64.wrap (ja s + r.off)) 86400).bind fun o304 => (rQ n o304).bind fun o308 => (lY n n (IntKind.i64.wrap (o308.1 - 2)) r.std r.dst r.off r.doff r.a.k r.a.m r.a.w r.a.d r.a.t r.b.k r.b.m r.b.w r.b.d r.b.t (ja s) o308.1 o308.2.1 o308.2.2.1 0 false false).bind _) = _
 rw [wi (ja s + r.off) (by omega) (by omega), WC n _ (by omega)]
 simp only [Option.bind_some]
 rw [k1]
 simp only [Option.bind_some]
 rw [wi (y - 2) (by omega) (by omega)]
 obtain ⟨k, hk⟩ : ∃ k, n = k + 1 + 1 + 1 + 1 + 1 := ⟨n - 5, by omega⟩
 have st := fun m (z : Int) (hz : y - 2 ≤ z ∧ z < y + 2) s' => ZE n m (by omega) r h7 h8 (by omega) (by omega) (ja s) z y mm dd (by omega) (by omega) hz.2 s'
 conv => lhs; arg 1; arg 2; rw [hk]
 rw [st _ (y - 2) (by omega) (false, 0, false), st _ (y - 2 + 1) (by omega), st _ (y - 2 + 1 + 1) (by omega), st _ (y - 2 + 1 + 1 + 1) (by omega)]
 rw [lY, vX, wi (y + 2) (by omega) (by omega), ah (by omega)]
 simp only [Option.bind_some]
 unfold Jk Uv
 rw [show y - 2 + 1 = y - 1 by omega, show y - 1 + 1 = y by omega]
 cases (jD r (ja s) (y + 1) (jD r (ja s) y (jD r (ja s) (y - 1) (jD r (ja s) (y - 2) (false, 0, false))))).2.2 <;> rfl
theorem Yw (n : Nat) (r : RuleV) (s : Int) (hn : 200 < n) (h : dB r = true) (hd : r.dst = []) :
 qP n r.std r.dst r.off r.doff r.a.k r.a.m r.a.w r.a.d r.a.t r.b.k r.b.m r.b.w r.b.d r.b.t s = some (r.off, false) := by
 obtain ⟨h1, _⟩ := Bw h
 have l1 : r.std.length ≤ 10 := by unfold rU at h1; simp only [Bool.and_eq_true, decide_eq_true_eq] at h1; exact h1.1.2
 unfold qP yZ
 rw [right_val n _ _ _ _ _ _ _ _ _ _ _ _ _ _ (by omega) (by omega) (by rw [hd]; simp) (by rw [hd]; simp; omega)]
 rw [show dB ⟨r.std, r.dst, r.off, r.doff, ⟨r.a.k, r.a.m, r.a.w, r.a.d, r.a.t⟩, ⟨r.b.k, r.b.m, r.b.w, r.b.d, r.b.t⟩⟩ = true from h, hd]
 rfl
theorem aaC (n : Nat) (r : RuleV) (s : Int) (h : dB r = false) (hs : r.std.length < 9223372036854775808) (hn : r.std.length < n) (hs' : r.dst.length < 9223372036854775808) (hn' : r.dst.length < n) :
 qP n r.std r.dst r.off r.doff r.a.k r.a.m r.a.w r.a.d r.a.t r.b.k r.b.m r.b.w r.b.d r.b.t s = some (0, false) := by
 unfold qP yZ
 rw [right_val n _ _ _ _ _ _ _ _ _ _ _ _ _ _ hs hn hs' hn']
 rw [show dB ⟨r.std, r.dst, r.off, r.doff, ⟨r.a.k, r.a.m, r.a.w, r.a.d, r.a.t⟩, ⟨r.b.k, r.b.m, r.b.w, r.b.d, r.b.t⟩⟩ = false from h]
 rfl
end Go.Proofs.YtiegmpnagcdgoaaGreatDoor.H
namespace Go.Proofs.YtiegmpnagcdgoaaGreatDoor.H
open Go.Sh Go.RowKit
set_option linter.unusedSimpArgs false
set_option linter.unusedVariables false
theorem Uw (n : Nat) (a : Int) (h : -1000000000000 ≤ a ∧ a ≤ 1000000000000) : oF n a 86400 = some (a / 86400) := by
 unfold oF Ap
 rw [show ((86400 : Int) == 0) = false from rfl]
 simp only [cond_false]
 by_cases ha : 0 ≤ a
 ·rw [tm0 ha, td0 ha, ah (by omega), wi _ (by omega) (by omega)]
 ·obtain ⟨b, rfl⟩ : ∃ b : Int, a = -b := ⟨-a, by omega⟩
  rw [Int.neg_tmod, Int.neg_tdiv, tm0 (by omega), td0 (by omega)]
  by_cases hz : b % 86400 = 0
  ·rw [ah (by omega), wi _ (by omega) (by omega)]
   congr 1
   omega
  ·rw [aa (by omega)]
   simp (disch := omega) only [wi]
   congr 1
   omega
theorem Qz (n : Nat) (hn : 10000 < n) (d : Int) (hd : -130000 ≤ d ∧ d ≤ 1170000) : ∀ (m : Nat) (y : Int), y.toNat < m → 1600 ≤ y ∧ y ≤ 1970 → ∃ y', lZ n m d y = some y' ∧ mO y' ≤ d ∧ 1600 ≤ y' ∧ y' ≤ 1970
 | 0, y, h, _ => by omega
 | m + 1, y, h, hy => by
  have hb := JK y (by omega)
  rw [lZ, wy, KP n y hn (by omega)]
  simp only [Option.bind_some]
  by_cases hlt : d < mO y
  ·rw [aa hlt]
   simp (disch := omega) only [wi, td0]
   have e1 := Qy
   have h0 := Hz (a := y) (b := 1970) (by omega) (by omega)
   rw [MP] at h0
   obtain ⟨k, hk⟩ : ∃ k : Nat, (mO y - d) / 366 = (k : Int) := ⟨((mO y - d) / 366).toNat, by omega⟩
   rw [hk]
   have hm := (GI (k + 1) (y - 1 - k) (by omega)).2
   rw [show y - 1 - (k : Int) + ((k + 1 : Nat) : Int) = y by omega] at hm
   have hlow : 1600 ≤ y - 1 - (k : Int) := by
    by_cases hq : y - 1 - (k : Int) < 1600
    ·have hm2 := (GI (1600 - (y - 1 - (k : Int))).toNat (y - 1 - k) (by omega)).1
     rw [show y - 1 - (k : Int) + (((1600 - (y - 1 - (k : Int))).toNat : Nat) : Int) = 1600 by omega] at hm2
     omega
    ·omega
   exact Qz n hn d hd m (y - 1 - k) (by omega) (by omega)
  ·rw [ah hlt]
   exact ⟨y, rfl, by omega, hy.1, hy.2⟩
theorem Vn (n : Nat) (hn : 10000 < n) (d : Int) (hd : -130000 ≤ d ∧ d ≤ 1170000) : ∀ (m : Nat) (y : Int), (6000 - y).toNat < m → 1600 ≤ y → mO y ≤ d → ∃ y', l5 n m d y = some y' ∧ InYear y' d ∧ 1600 ≤ y'
 | 0, y, h, hy, hb => by
  have h1 := MQ
  by_cases hq : 5200 < y
  ·have := Hz (a := 5200) (b := y) (by omega) (by omega)
   omega
  ·omega
 | m + 1, y, h, hy, hb => by
  have h1 := MQ
  have hyu : y ≤ 5200 := by
   by_cases hq : 5200 < y
   ·have := Hz (a := 5200) (b := y) (by omega) (by omega)
    omega
   ·omega
  have hbb := JK (y + 1) (by omega)
  rw [l5, wz, wi (y + 1) (by omega) (by omega), KP n (y + 1) hn (by omega)]
  simp only [Option.bind_some]
  by_cases hge : d ≥ mO (y + 1)
  ·rw [aa hge]
   simp (disch := omega) only [wi, td0]
   obtain ⟨k, hk⟩ : ∃ k : Nat, (d - mO (y + 1)) / 366 = (k : Int) := ⟨((d - mO (y + 1)) / 366).toNat, by omega⟩
   rw [hk]
   have hm := (GI k (y + 1) (by omega)).2
   exact Vn n hn d hd m (y + 1 + k) (by omega) (by omega) (by omega)
  ·rw [ah hge]
   exact ⟨y, rfl, ⟨hb, by omega⟩, hy⟩
theorem Ux (n : Nat) (hn : 20000 < n) (d : Int) (hd : -130000 ≤ d ∧ d ≤ 1170000) : ∃ y, ny n d = some y ∧ InYear y d ∧ 1600 ≤ y := by
 obtain ⟨y1, h1, h2, h3, _⟩ := Qz n (by omega) d hd n 1970 (by omega) (by omega)
 obtain ⟨y2, h4, h5, h6⟩ := Vn n (by omega) d hd n y1 (by omega) h3 h2
 refine ⟨y2, ?_, h5, h6⟩
 unfold ny y9
 rw [h1]
 simp only [Option.bind_some]
 rw [h4]
 rfl
theorem Yx (n m : Nat) (hn : 10000 < n) (r : RuleV) (ha : oZ r.a = true) (hb : oZ r.b = true) (h1 : -89999 ≤ r.off ∧ r.off ≤ 89999) (h2 : -89999 ≤ r.doff ∧ r.doff ≤ 89999)
 (t y Y : Int) (hy : 2 ≤ y ∧ y ≤ 9998) (hY : 2 ≤ Y ∧ Y ≤ 9996) (hle : y ≤ Y + 1) (s : Bool × Int × Bool) :
 gI n (m + 1) t Y s.2.1 s.2.2 s.1 y r.std r.dst r.off r.doff r.a.k r.a.m r.a.w r.a.d r.a.t r.b.k r.b.m r.b.w r.b.d r.b.t
 = gI n m t Y (jD r t y s).2.1 (jD r t y s).2.2 (jD r t y s).1 (y + 1) r.std r.dst r.off r.doff r.a.k r.a.m r.a.w r.a.d r.a.t r.b.k r.b.m r.b.w r.b.d r.b.t := by
 have b1 := HV r.a y ha (by omega)
 have b2 := HV r.b y hb (by omega)
 obtain ⟨met, latest, summer⟩ := s
 rw [gI, uz, wi (Y + 1) (by omega) (by omega), aa hle, Cw, Av, Nq n r.a y hn ha (by omega), Nq n r.b y hn hb (by omega)]
 simp only [Option.bind_some]
 rw [wi (l9 r.a y - r.off) (by omega) (by omega), wi (l9 r.b y - r.doff) (by omega) (by omega)]
 have hj2 : wG n t latest summer met (l9 r.a y - r.off) = some ((O5 t (l9 r.a y - r.off) true (met, latest, summer)).2.1, (O5 t (l9 r.a y - r.off) true (met, latest, summer)).2.2, (O5 t (l9 r.a y - r.off) true (met, latest, summer)).1) := by
  rw [wG, Ar, Cu, Aq]
  unfold O5
  dsimp only
  generalize l9 r.a y - r.off = u
  by_cases q1 : u ≤ t
  ·rw [aa q1]
   cases met with
   | false => simp [q1]
   | true =>
    by_cases q2 : latest < u
    ·simp [q1, q2]
    ·simp [q1, q2]
  ·rw [ah q1]
   simp [q1]
 rw [hj2]
 simp only [Option.bind_some]
 generalize hs2 : O5 t (l9 r.a y - r.off) true (met, latest, summer) = s2
 obtain ⟨met2, latest2, summer2⟩ := s2
 have hstep : jD r t y (met, latest, summer) = O5 t (l9 r.b y - r.doff) false (met2, latest2, summer2) := by unfold jD; rw [hs2]
 rw [hstep]
 rw [Cv, Au]
 unfold O5
 dsimp only
 rw [wi (y + 1) (by omega) (by omega)]
 generalize l9 r.b y - r.doff = u
 by_cases q1 : u ≤ t
 ·rw [aa q1]
  cases met2 with
  | false => simp [q1]
  | true =>
   by_cases q2 : latest2 ≤ u
   ·have q3 : latest2 < u ∨ u = latest2 := by omega
    simp [q1, q2, q3]
   ·have q3 : ¬ (latest2 < u ∨ u = latest2) := by omega
    simp [q1, q2, q3]
 ·rw [ah q1]
  simp [q1]
theorem rat_val (n : Nat) (r : RuleV) (s : Int) (hn : 20000 < n) (h : dB r = true) (hd : r.dst ≠ []) :
 ∃ y, InYear y ((ja s + r.off) / 86400) ∧ 1600 ≤ y ∧ y ≤ 5200 ∧ dQ n r.std r.dst r.off r.doff r.a.k r.a.m r.a.w r.a.d r.a.t r.b.k r.b.m r.b.w r.b.d r.b.t s = some (Jk r (ja s) y) := by
 obtain ⟨h1, h2, h3, h4⟩ := Bw h
 obtain ⟨h4, _, h5, h6, h7, h8⟩ := h4.resolve_left (fun q => hd q.1)
 have l1 : r.std.length ≤ 10 := by unfold rU at h1; simp only [Bool.and_eq_true, decide_eq_true_eq] at h1; exact h1.1.2
 have l2 : r.dst.length ≤ 10 := by unfold rU at h4; simp only [Bool.and_eq_true, decide_eq_true_eq] at h4; exact h4.1.2
 have hc := Qx s
 obtain ⟨y, k1, k2, k3⟩ := Ux n hn ((ja s + r.off) / 86400) (by omega)
 have hy := Vm (by omega) k2 (by omega)
 refine ⟨y, k2, hy.1, hy.2, ?_⟩
 unfold dQ sJ
 rw [rright_val n _ _ _ _ _ _ _ _ _ _ _ _ _ _ (by omega) (by omega) (by omega) (by omega)]
 rw [show dB ⟨r.std, r.dst, r.off, r.doff, ⟨r.a.k, r.a.m, r.a.w, r.a.d, r.a.t⟩, ⟨r.b.k, r.b.m, r.b.w, r.b.d, r.b.t⟩⟩ = true from h]
 simp only [Option.bind_some, Bool.not_true, cond_false]
 rw [show (r.dst == ([] : Str)) = false by simpa using hd, cond_false]
 change ((oF n (IntKind.i64.wrap (ja s + r.off)) 86400).bind fun o316 => (ny n o316).bind fun o329 => (gI n n (ja s) o329 0 false false (IntKind.i64.wrap (o329 - 2)) r.std r.dst r.off r.doff r.a.k r.a.m r.a.w r.a.d r.a.t r.b.k r.b.m r.b.w r.b.d r.b.t).bind _) = _
 rw [wi (ja s + r.off) (by omega) (by omega), Uw n _ (by omega)]
 simp only [Option.bind_some]
 rw [k1]
 simp only [Option.bind_some]
 rw [wi (y - 2) (by omega) (by omega)]
 obtain ⟨k, hk⟩ : ∃ k, n = k + 1 + 1 + 1 + 1 + 1 := ⟨n - 5, by omega⟩
 have st := fun m (z : Int) (hz : y - 2 ≤ z ∧ z ≤ y + 1) s' => Yx n m (by omega) r h7 h8 (by omega) (by omega) (ja s) z y (by omega) (by omega) hz.2 s'
 conv => lhs; arg 1; arg 2; rw [hk]
 rw [st _ (y - 2) (by omega) (false, 0, false), st _ (y - 2 + 1) (by omega), st _ (y - 2 + 1 + 1) (by omega), st _ (y - 2 + 1 + 1 + 1) (by omega)]
 rw [gI, uz, wi (y + 1) (by omega) (by omega), ah (by omega)]
 simp only [Option.bind_some]
 unfold Jk Uv
 rw [show y - 2 + 1 = y - 1 by omega, show y - 1 + 1 = y by omega]
 cases (jD r (ja s) (y + 1) (jD r (ja s) y (jD r (ja s) (y - 1) (jD r (ja s) (y - 2) (false, 0, false))))).2.2 <;> rfl
theorem MR (n : Nat) (r : RuleV) (s : Int) (h : dB r = true) (hd : r.dst = []) (hs : r.std.length < 9223372036854775808) (hn : r.std.length < n) :
 dQ n r.std r.dst r.off r.doff r.a.k r.a.m r.a.w r.a.d r.a.t r.b.k r.b.m r.b.w r.b.d r.b.t s = some (r.off, false) := by
 unfold dQ sJ
 rw [rright_val n _ _ _ _ _ _ _ _ _ _ _ _ _ _ hs hn (by rw [hd]; simp) (by rw [hd]; simp; omega)]
 rw [show dB ⟨r.std, r.dst, r.off, r.doff, ⟨r.a.k, r.a.m, r.a.w, r.a.d, r.a.t⟩, ⟨r.b.k, r.b.m, r.b.w, r.b.d, r.b.t⟩⟩ = true from h, hd]
 rfl
theorem ZF (n : Nat) (r : RuleV) (s : Int) (h : dB r = false) (hs : r.std.length < 9223372036854775808) (hn : r.std.length < n) (hs' : r.dst.length < 9223372036854775808) (hn' : r.dst.length < n) :
 dQ n r.std r.dst r.off r.doff r.a.k r.a.m r.a.w r.a.d r.a.t r.b.k r.b.m r.b.w r.b.d r.b.t s = some (0, false) := by
 unfold dQ sJ
 rw [rright_val n _ _ _ _ _ _ _ _ _ _ _ _ _ _ hs hn hs' hn']
 rw [show dB ⟨r.std, r.dst, r.off, r.doff, ⟨r.a.k, r.a.m, r.a.w, r.a.d, r.a.t⟩, ⟨r.b.k, r.b.m, r.b.w, r.b.d, r.b.t⟩⟩ = false from h]
 rfl
theorem ZG (n : Nat) (r : RuleV) (s : Int) (hn : 20000 < n) (hs : r.std.length < 9223372036854775808) (h1 : r.std.length < n) (hs' : r.dst.length < 9223372036854775808) (h1' : r.dst.length < n) :
 ∃ o, qP n r.std r.dst r.off r.doff r.a.k r.a.m r.a.w r.a.d r.a.t r.b.k r.b.m r.b.w r.b.d r.b.t s = some o ∧ dQ n r.std r.dst r.off r.doff r.a.k r.a.m r.a.w r.a.d r.a.t r.b.k r.b.m r.b.w r.b.d r.b.t s = some o := by
 cases h : dB r with
 | false => exact ⟨_, aaC n r s h hs h1 hs' h1', ZF n r s h hs h1 hs' h1'⟩
 | true =>
  by_cases hd : r.dst = []
  ·exact ⟨_, Yw n r s (by omega) h hd, MR n r s h hd hs h1⟩
  ·obtain ⟨y, a1, a2, a3, a4⟩ := at_val n r s (by omega) h hd
   obtain ⟨z, b1, b2, b3, b4⟩ := rat_val n r s hn h hd
   have := InYear.one (by omega) (by omega) a1 b1
   subst this
   exact ⟨_, a4, b4⟩
end Go.Proofs.YtiegmpnagcdgoaaGreatDoor.H
namespace Go.Proofs.YtiegmpnagcdgoaaGreatDoor.H.Z
open Go.Sh Go.RowKit
set_option linter.unusedSimpArgs false
set_option linter.unusedVariables false
abbrev Ty := Int × Bool × Str
def cT (t : Ty) : List AV := [.int .i64 t.1, .bool t.2.1, .str t.2.2]
theorem wi (x : Int) (h : -9223372036854775808 ≤ x) (h2 : x ≤ 9223372036854775807) : IntKind.i64.wrap x = x := IntWalk.i64_in _ (by omega)
def okC (low : Int) (c : UInt8) : Bool := !decide ((c.toNat : Int) < low) && !decide ((c.toNat : Int) > 126)
def textS (s : Str) (many low : Int) : Bool := decide ((s.length : Int) ≤ many) && s.all (okC low)
theorem Yy (s : Str) (i : Nat) : (nD s)[i]? = (s[i]?).map fun c => (c.toNat : Int) := by simp [nD]
theorem O6 (n : Nat) (low : Int) (s : Str) (hs : s.length < 4000000000000000000) : ∀ (r : Str) (i m : Nat), s.drop i = r → r.length < m →
 (r.all (okC low) = true → aJ n m (nD s) (s.length : Int) (i : Int) low = some (Sum.inr low)) ∧
 (r.all (okC low) = false → ∃ j : Int, 0 ≤ j ∧ aJ n m (nD s) (s.length : Int) (i : Int) low = some (Sum.inl (j, low)))
 | [], i, m + 1, h, _ => by
  have hi := drop_nil h
  refine ⟨fun _ => ?_, fun h => by simp at h⟩
  simp only [aJ, dN]
  rw [ah (by omega)]
 | c :: r, i, m + 1, h, hm => by
  obtain ⟨h1, h2, h3⟩ := nA h
  obtain ⟨ih1, ih2⟩ := O6 n low s hs r (i + 1) m h2 (by simpa using hm)
  have e : aJ n (m + 1) (nD s) (s.length : Int) (i : Int) low = cond (!okC low c) (some (Sum.inl ((i : Int), low))) (aJ n m (nD s) (s.length : Int) ((i + 1 : Nat) : Int) low) := by
   simp only [aJ, dN]
   rw [aa (by omega), aa (by omega), Int.toNat_natCast, Yy, h1, wY _ (by omega)]
   simp only [Option.map_some, Option.bind_some, FY, BL, okC]
   by_cases hl : (c.toNat : Int) < low
   ·simp [hl]
   ·by_cases hh : (c.toNat : Int) > 126 <;> simp [hl, hh]
  rw [e]
  cases hc : okC low c with
  | true =>
   simp only [List.all_cons, hc, Bool.true_and, Bool.not_true, cond_false]
   exact ⟨ih1, ih2⟩
  | false => simp [hc]
theorem Td (n : Nat) (s : Str) (many low : Int) (hm : many < 4000000000000000000) (hn : (s.length : Int) ≤ many → s.length < n) : Cf n s many low = some (textS s many low) := by
 unfold Cf FK textS
 by_cases h : (s.length : Int) ≤ many
 ·rw [aa h, decide_eq_true h, Bool.true_and]
  have hn' := hn h
  obtain ⟨h1, h2⟩ := O6 n low s (by omega) s 0 n (by simp) hn'
  simp only [kJ, gm, nG, jc, Kg]
  cases hc : s.all (okC low) with
  | true =>
   have := h1 hc
   simp only [Int.natCast_zero] at this
   rw [this]
   simp
  | false =>
   obtain ⟨j, hj, this⟩ := h2 hc
   simp only [Int.natCast_zero] at this
   rw [this]
   simp [hj]
 ·rw [ah h, decide_eq_false h, Bool.false_and]
def okT (t : Ty) : Bool := !decide (t.1 < -89999) && !decide (t.1 > 93599) && !(t.2.2 == []) && textS t.2.2 15 33
def O7 : List Ty → Nat
 | [] => 0
 | t :: r => t.2.2.length + 1 + O7 r
theorem Yz (n : Nat) (hn : 16 ≤ n) (h0 : List (List AV)) (h1 h2 : List Int) (h3 : Str) (t : Ty) : xz n h0 h1 h2 h3 t.1 t.2.1 t.2.2 = some (!okT t, h0, h1, h2, h3, t.1, t.2.1, t.2.2) := by
 unfold xz xY okT
 rw [Td n t.2.2 15 33 (by omega) (fun h => by omega)]
 by_cases c1 : t.1 < -89999
 ·simp [c1]
 ·by_cases c2 : t.1 > 93599
  ·simp [c1, c2]
  ·cases c3 : t.2.2 == [] <;> simp [c1, c2, c3]
theorem okT_len {t : Ty} (h : okT t = true) : t.2.2.length ≤ 15 := by
 simp only [okT, textS, Bool.and_eq_true, decide_eq_true_eq] at h
 omega
theorem Te (n : Nat) (hn : 16 ≤ n) (ts : List Ty) (h0 : List (List AV)) (h1 h2 : List Int) (h3 : Str) (hts : ts.length ≤ 255) : ∀ (r : List Ty) (i m x : Nat), ts.drop i = r → r.length < m → x ≤ 16 * i →
 oG n m (x : Int) (ts.map cT) (ts.length : Int) (i : Int) h0 h1 h2 h3 = some (if r.all okT then Sum.inr (((x + O7 r : Nat) : Int), h0, h1, h2, h3) else Sum.inl ())
 | [], i, m + 1, x, h, _, _ => by
  have hi := drop_nil h
  simp only [oG, uF]
  rw [ah (by omega)]
  simp [O7]
 | t :: r, i, m + 1, x, h, hm, hx => by
  obtain ⟨k1, k2, k3⟩ := nA h
  simp only [oG, uF]
  rw [aa (by omega), aa (by omega), Int.toNat_natCast, List.getElem?_map, k1, wY _ (by omega)]
  simp only [Option.map_some, Option.bind_some, cT, unc, xn, zf, zg, unn, Yz n hn]
  cases hc : okT t with
  | false => simp [hc]
  | true =>
   have hl := okT_len hc
   simp only [hc, Bool.not_true, cond_false]
   have e : IntKind.i64.wrap ((x : Int) + IntKind.i64.wrap ((t.2.2.length : Int) + 1)) = ((x + (t.2.2.length + 1) : Nat) : Int) := by
    rw [wi ((t.2.2.length : Int) + 1) (by omega) (by omega), wi _ (by omega) (by omega)]; omega
   rw [e, Te n hn ts h0 h1 h2 h3 hts r (i + 1) m _ k2 (by simpa using hm) (by omega)]
   simp only [List.all_cons, hc, Bool.true_and, O7, Nat.add_assoc, decide_true, cond_true]
def okAt (ti ix : List Int) (len k : Nat) : Bool := decide (0 ≤ ix.getD k 0) && decide (ix.getD k 0 < len) && (k == 0 || decide (ti.getD (k - 1) 0 < ti.getD k 0))
theorem ZH {l : List Int} {i : Nat} {v : Int} (h : l[i]? = some v) : l.getD i 0 = v := by rw [List.getD_eq_getElem?_getD, h]; rfl
theorem get_of {l : List Int} {i : Nat} (h : i < l.length) : l[i]? = some (l.getD i 0) := by rw [List.getD_eq_getElem?_getD, List.getElem?_eq_getElem h]; rfl
theorem YA (n : Nat) (h0 : List (List AV)) (ti ix : List Int) (h3 : Str) (i : Nat) (v : Int) (hv : ix[i]? = some v) (hi : i < ti.length) (hb : ti.length ≤ 4000) : xA n (i : Int) v h0 ti ix h3 = some (!okAt ti ix h0.length i, h0, ti, ix, h3) := by
 unfold xA xZ okAt
 rw [ZH hv]
 by_cases c1 : v < 0
 ·rw [aa c1]; simp [show ¬ (0 ≤ v) by omega]
 ·rw [ah c1, decide_eq_true (show 0 ≤ v by omega)]
  by_cases c2 : v ≥ (h0.length : Int)
  ·rw [aa c2]; simp [show ¬ (v < (h0.length : Int)) by omega]
  ·rw [ah c2, decide_eq_true (show v < (h0.length : Int) by omega)]
   by_cases c3 : (i : Int) > 0
   ·rw [aa c3, aa (by omega), Int.toNat_natCast, get_of hi, Option.bind_some, wi _ (by omega) (by omega), aa (by omega), show ((i : Int) - 1).toNat = i - 1 by omega, get_of (show i - 1 < ti.length by omega), Option.bind_some]
    have : (i == 0) = false := by simp; omega
    rw [this]
    by_cases c4 : ti.getD i 0 ≤ ti.getD (i - 1) 0
    ·rw [decide_eq_true c4, decide_eq_false (show ¬ (ti.getD (i - 1) 0 < ti.getD i 0) by omega)]; rfl
    ·rw [decide_eq_false c4, decide_eq_true (show ti.getD (i - 1) 0 < ti.getD i 0 by omega)]; rfl
   ·rw [ah c3]
    have : i = 0 := by omega
    subst this
    simp
theorem Tf (n : Nat) (h0 : List (List AV)) (ti ix : List Int) (h3 : Str) (hl : ti.length = ix.length) (hb : ti.length ≤ 4000) : ∀ (k i m : Nat), i + k = ix.length → k < m →
 oH n m ix (ix.length : Int) (i : Int) h0 ti ix h3 = some (if (List.range' i k).all (okAt ti ix h0.length) then Sum.inr (h0, ti, ix, h3) else Sum.inl (h0, ti, ix, h3))
 | 0, i, m + 1, h, _ => by
  simp only [oH, uG]
  rw [ah (by omega)]
  simp
 | k + 1, i, m + 1, h, hm => by
  simp only [oH, uG]
  have hi : i < ix.length := by omega
  rw [aa (by omega), aa (by omega), Int.toNat_natCast, get_of hi, wY _ (by omega)]
  simp only [Option.bind_some, YA n h0 ti ix h3 i _ (get_of hi) (by omega) hb, List.range'_succ, List.all_cons]
  cases hc : okAt ti ix h0.length i with
  | false => simp
  | true =>
   simp only [Bool.not_true, cond_false, Bool.true_and]
   exact Tf n h0 ti ix h3 hl hb k (i + 1) m (by omega) (by omega)
def RightS (ts : List Ty) (ti ix : List Int) (foot : Str) : Bool :=
 decide (1 ≤ ts.length) && decide (ts.length ≤ 255) && decide (ti.length ≤ 4000) && decide (ti.length = ix.length) && textS foot 100 32 && ts.all okT && (List.range' 0 ix.length).all (okAt ti ix ts.length) && decide (O7 ts ≤ 256)
theorem right_val (n : Nat) (hn : 4001 ≤ n) (ts : List Ty) (ti ix : List Int) (foot : Str) : zF n (ts.map cT) ti ix foot = some (RightS ts ti ix foot) := by
 unfold zF Dl BM xX RightS
 simp only [List.length_map]
 by_cases c1 : (ts.length : Int) < 1
 ·rw [aa c1]; simp [show ¬ (1 ≤ ts.length) by omega]
 rw [ah c1, decide_eq_true (show 1 ≤ ts.length by omega)]
 by_cases c2 : (ts.length : Int) > 255
 ·rw [aa c2]; simp [show ¬ (ts.length ≤ 255) by omega]
 rw [ah c2, decide_eq_true (show ts.length ≤ 255 by omega)]
 by_cases c3 : (ti.length : Int) > 4000
 ·rw [aa c3]; simp [show ¬ (ti.length ≤ 4000) by omega]
 rw [ah c3, decide_eq_true (show ti.length ≤ 4000 by omega)]
 by_cases c4 : ti.length = ix.length
 case neg =>
  have : ((ti.length : Int) != (ix.length : Int)) = true := by simp; omega
  rw [this]; simp [c4]
 have : ((ti.length : Int) != (ix.length : Int)) = false := by simp; omega
 rw [this, decide_eq_true c4, Td n foot 100 32 (by omega) (fun h => by omega)]
 simp only [cond_false, Option.bind_some, Bool.true_and]
 cases c5 : textS foot 100 32 with
 | false => simp
 | true =>
  have e1 := Te n (by omega) ts (ts.map cT) ti ix foot (by omega) ts 0 n 0 (by simp) (by omega) (by omega)
  simp only [Int.natCast_zero, Nat.zero_add] at e1
  simp only [Bool.not_true, cond_false, List.length_map, e1, Option.bind_some]
  cases c6 : ts.all okT with
  | false => simp
  | true =>
   have e2 := Tf n (ts.map cT) ti ix foot c4 (by omega) ix.length 0 n (by omega) (by omega)
   simp only [Int.natCast_zero, List.length_map] at e2
   simp only [if_true, Sum.elim_inr, e2, Option.bind_some]
   cases c7 : (List.range' 0 ix.length).all (okAt ti ix ts.length) with
   | false => simp
   | true =>
    simp only [if_true, Sum.elim_inr, Bool.true_and]
    congr 1
    rw [decide_eq_decide]; omega
end Go.Proofs.YtiegmpnagcdgoaaGreatDoor.H.Z
namespace Go.Sh
open Go.RowKit
set_option linter.unusedSimpArgs false
set_option linter.unusedVariables false
def KR (W : World) (b : Nat) : Nat := match W.heap[b]? with
 | some (.cells c _ _) => c.size
 | _ => 0
def gW (W : World) : Gh := ⟨[], KR W⟩
theorem QA {W : World} {a : Addr} {v : Value} (h : W.cell? a = some v) : a.spot = none ∧ a.off < KR W a.block := by
 unfold World.cell? at h
 unfold KR
 split at h
 ·rename_i c t f hb
  simp only [hb]
  split at h
  ·cases h
  ·rename_i hs
   refine ⟨by simpa using hs, ?_⟩
   obtain ⟨h1, _⟩ := Array.getElem?_eq_some_iff.1 h
   exact h1
 ·cases h
theorem WF {W : World} {b : Nat} (h : 0 < KR W b) : b < W.heap.size := by
 unfold KR at h
 split at h
 ·rename_i hb
  obtain ⟨h1, _⟩ := Array.getElem?_eq_some_iff.1 hb
  exact h1
 ·omega
inductive LD where
 | int (k : IntKind)
 | bool
 | str
 | ints (k : IntKind)
 | strs
 | sl (es : List LD)
mutual
def LD.sat : LD → AV → Prop
 | .int k, a => ∃ n, a = .int k n ∧ (Lit.int k n).wf = true
 | .bool, a => ∃ b, a = .bool b
 | .str, a => ∃ s, a = .str s ∧ s.length ≤ 9223372036854775807
 | .ints k, a => ∃ l, a = .ints false k l ∧ ∀ n ∈ l, (Lit.int k n).wf = true
 | .strs, a => ∃ l, a = .strs false l
 | .sl es, a => ∃ els, a = .sl false es.length els ∧ ∀ e ∈ els, LD.qy es e
def LD.qy : List LD → List AV → Prop
 | [], az => az = []
 | d :: ds, az => ∃ a bs, az = a :: bs ∧ LD.sat d a ∧ LD.qy ds bs
end
theorem Jl : ∀ {ds es : List LD} {az bs : List AV}, LD.qy ds az → LD.qy es bs → LD.qy (ds ++ es) (az ++ bs)
 | [], _, _, _, h, k => by simp only [LD.qy] at h; subst h; exact k
 | d :: ds, _, _, _, h, k => by
  simp only [LD.qy] at h
  obtain ⟨a, bs, rfl, h1, h2⟩ := h
  simp only [List.cons_append, LD.qy]
  exact ⟨a, _, rfl, h1, Jl h2 k⟩
theorem Nr : ∀ {ds : List LD} {az : List AV}, LD.qy ds az → az.length = ds.length
 | [], _, h => by simp only [LD.qy] at h; subst h; rfl
 | d :: ds, _, h => by
  simp only [LD.qy] at h
  obtain ⟨a, bs, rfl, h1, h2⟩ := h
  simp [Nr h2]
theorem KS {g : Gh} {w : World} : ∀ {az bs : List AV} {vs us : List Value}, VRs g w az vs → VRs g w bs us → VRs g w (az ++ bs) (vs ++ us)
 | [], _, _, _, h, k => by simp only [VRs] at h; subst h; exact k
 | a :: az, _, _, _, h, k => by
  simp only [VRs] at h
  obtain ⟨v, us, rfl, h1, h2⟩ := h
  simp only [List.cons_append, VRs]
  exact ⟨v, _, rfl, h1, KS h2 k⟩
theorem Mf {d : LD} {a : AV} {v : Value} (h : LD.sat d a) : owns a v = [] := by
 cases d <;> simp only [LD.sat] at h
 ·obtain ⟨n, rfl, _⟩ := h; cases v <;> rfl
 ·obtain ⟨n, rfl⟩ := h; cases v <;> rfl
 ·obtain ⟨n, rfl, _⟩ := h; cases v <;> rfl
 ·obtain ⟨n, rfl, _⟩ := h; cases v <;> rfl
 ·obtain ⟨n, rfl⟩ := h; cases v <;> rfl
 ·obtain ⟨n, rfl, _⟩ := h; cases v <;> rfl
theorem QB : ∀ {ds : List LD} {az : List AV} (vs : List Value), LD.qy ds az → aC az vs = []
 | [], _, vs, h => by simp only [LD.qy] at h; subst h; cases vs <;> rfl
 | d :: ds, _, vs, h => by
  simp only [LD.qy] at h
  obtain ⟨a, bs, rfl, h1, h2⟩ := h
  cases vs with
  | nil => rfl
  | cons v vs => simp only [aC, Mf h1, QB vs h2, List.nil_append]
theorem WG {d : LD} {a : AV} (h : LD.sat d a) : vG a = true := by
 cases d <;> simp only [LD.sat] at h
 ·obtain ⟨n, rfl, _⟩ := h; rfl
 ·obtain ⟨n, rfl⟩ := h; rfl
 ·obtain ⟨n, rfl, _⟩ := h; rfl
 ·obtain ⟨n, rfl, _⟩ := h; rfl
 ·obtain ⟨n, rfl⟩ := h; rfl
 ·obtain ⟨n, rfl, _⟩ := h; rfl
theorem O8 : ∀ {ds : List LD} {az : List AV}, LD.qy ds az → lq az = true
 | [], _, h => by simp only [LD.qy] at h; subst h; rfl
 | d :: ds, _, h => by
  simp only [LD.qy] at h
  obtain ⟨a, bs, rfl, h1, h2⟩ := h
  simp only [lq, WG h1, O8 h2, Bool.and_self]
theorem Tg {g : Gh} {w : World} {d : LD} {a : AV} {v : Value} (h : LD.sat d a) (hv : VR g w a v) : v.oneCell' = true := by
 cases d <;> simp only [LD.sat] at h
 ·obtain ⟨n, rfl, _⟩ := h; simp only [VR] at hv; subst hv; rfl
 ·obtain ⟨n, rfl⟩ := h; simp only [VR] at hv; subst hv; rfl
 ·obtain ⟨n, rfl, _⟩ := h; simp only [VR] at hv; obtain ⟨s, rfl, _⟩ := hv; rfl
 ·obtain ⟨n, rfl, _⟩ := h; simp only [VR] at hv; obtain ⟨a, n, c, rfl, _⟩ := hv; rfl
 ·obtain ⟨n, rfl⟩ := h; simp only [VR] at hv; obtain ⟨a, n, c, rfl, _⟩ := hv; rfl
 ·obtain ⟨n, rfl, _⟩ := h; simp only [VR] at hv; obtain ⟨a, n, c, vs, rfl, _⟩ := hv; rfl
theorem Mg {g : Gh} {w : World} : ∀ {ds : List LD} {az : List AV} {vs : List Value}, LD.qy ds az → VRs g w az vs → ∀ u ∈ vs, u.oneCell' = true
 | [], _, _, h, k => by simp only [LD.qy] at h; subst h; simp only [VRs] at k; subst k; intro u hu; cases hu
 | d :: ds, _, _, h, k => by
  simp only [LD.qy] at h
  obtain ⟨a, bs, rfl, h1, h2⟩ := h
  simp only [VRs] at k
  obtain ⟨v, us, rfl, k1, k2⟩ := k
  intro u hu
  rcases List.mem_cons.1 hu with rfl | hu
  ·exact Tg h1 k1
  ·exact Mg h2 k2 u hu
def Rm : List LD → LD
 | [.int k] => .ints k
 | [.str] => .strs
 | es => .sl es
def YB (P : Program) (g : TypeId → Option (List LD)) : Nat → List Field → Option (List LD)
 | _, [] => some []
 | off, f :: fs => match g f.type with
  | some l => if f.offset = off ∧ l.length = P.cellsOf f.type then (YB P g (off + l.length) fs).map (l ++ ·) else none
  | none => none
def Ti (P : Program) : Nat → TypeId → Option (List LD)
 | 0, _ => none
 | n + 1, t => match P.underlying t with
  | some .bool => some [.bool]
  | some (.int k) => some [.int k]
  | some .string => some [.str]
  | some (.slice e) => match Ti P n e with
   | some es => if es.length = P.cellsOf e ∧ 0 < es.length then some [Rm es] else none
   | none => none
  | some (.struct fs) => match YB P (Ti P n) 0 fs.toList with
   | some l => if l.length = P.cellsOf t then some l else none
   | none => none
  | some (.array k e) => match Ti P n e with
   | some es => if es.length = P.cellsOf e ∧ k * es.length = P.cellsOf t then some (List.replicate k es).flatten else none
   | none => none
  | _ => none
variable {H : Type} {enc : TypeId × Value → H} {P : Program} {W : World}
theorem WH {a : Addr} {n : Nat} {cs : List Value} (h : W.cells? 0 a n = some cs) : cs.length = n ∧ ∀ i, i < n → W.cell? (a.add i) = cs[i]? := by
 unfold World.cells? at h
 rw [if_pos (Nat.zero_le _)] at h
 have h1 := mapM_some_length h
 simp only [List.length_range] at h1
 exact ⟨h1, fun i hi => mapM_some_get h i i (by simp [hi])⟩
theorem add_add (a : Addr) (i j : Nat) : (a.add i).add j = a.add (i + j) := by
 unfold Addr.add
 by_cases hi : i = 0
 ·subst hi; simp
 ·by_cases hj : j = 0
  ·subst hj; simp [hi]
  ·simp only [if_neg hi, if_neg hj, if_neg (show ¬ i + j = 0 by omega)]
   simp [Nat.add_assoc]
theorem Tj {a : Addr} {q : Nat} {v : Value} (h : W.cell? (a.add q) = some v) (hs : a.spot = none) : a.off + q < KR W a.block ∧ W.cell? ⟨a.block, a.off + q, none⟩ = some v := by
 have h2 : a.add q = ⟨a.block, a.off + q, none⟩ := by
  unfold Addr.add
  split
  ·rename_i h0
   subst h0
   cases a
   simp only at hs
   subst hs
   simp
  ·rfl
 rw [h2] at h
 exact ⟨(QA h).2, h⟩
theorem elems {n : Nat} {e : TypeId} {es : List LD} (hsz : es.length = P.cellsOf e) (hpos : 0 < es.length) (a : Addr) (len : Nat)
 (hel : ∀ i, i < len → ∃ az cs', W.cells? 0 (a.add (i * P.cellsOf e)) (P.cellsOf e) = some cs' ∧ VRs (gW W) W az cs' ∧ LD.qy es az) :
 ∃ els vs, els.length = len ∧ vs.length = len * es.length ∧ VRss (gW W) W els vs ∧ (∀ x ∈ els, LD.qy es x) ∧ (∀ q, q < vs.length → W.cell? (a.add q) = vs[q]?) ∧ ∀ u ∈ vs, u.oneCell' = true := by
 induction len with
 | zero => exact ⟨[], [], rfl, by simp, by simp [VRss], by simp, by simp, by simp⟩
 | succ len ih =>
  obtain ⟨els, vs, h1, h2, h3, h4, h5, h6⟩ := ih fun i hi => hel i (by omega)
  obtain ⟨az, cs', k1, k2, k3⟩ := hel len (by omega)
  obtain ⟨c1, c2⟩ := WH k1
  refine ⟨els ++ [az], vs ++ cs', by simp [h1], by simp [h2, c1, hsz, Nat.add_mul], VRss.append h3 (by simp only [VRss]; exact ⟨cs', [], by simp, k2, rfl⟩), ?_, ?_, ?_⟩
  ·intro x hx
   rcases List.mem_append.1 hx with hx | hx
   ·exact h4 x hx
   ·simp at hx; subst hx; exact k3
  ·intro q hq
   by_cases hlt : q < vs.length
   ·rw [List.getElem?_append_left hlt]; exact h5 q hlt
   ·rw [List.getElem?_append_right (by omega)]
    have hq' : q - vs.length < P.cellsOf e := by simp only [List.length_append] at hq; omega
    have := c2 (q - vs.length) hq'
    rw [add_add] at this
    rw [← this, ← hsz, ← h2]
    congr 2
    omega
  ·intro u hu
   rcases List.mem_append.1 hu with hu | hu
   ·exact h6 u hu
   ·exact Mg k3 k2 u hu
theorem Vo {k : IntKind} : ∀ {els : List (List AV)} {vs : List Value}, VRss (gW W) W els vs → (∀ x ∈ els, LD.qy [.int k] x) → ∃ l : List Int, vs = l.map (Value.int k) ∧ l.length = els.length ∧ ∀ n ∈ l, (Lit.int k n).wf = true
 | [], vs, h, _ => by simp only [VRss] at h; subst h; exact ⟨[], rfl, rfl, by simp⟩
 | e :: els, vs, h, hs => by
  simp only [VRss] at h
  obtain ⟨p, q, rfl, h1, h2⟩ := h
  obtain ⟨l, rfl, hl, hw⟩ := Vo h2 fun x hx => hs x (by simp [hx])
  have he := hs e (by simp)
  simp only [LD.qy] at he
  obtain ⟨a, bs, rfl, ha, rfl⟩ := he
  simp only [LD.sat] at ha
  obtain ⟨n, rfl, hn⟩ := ha
  simp only [VRs, VR] at h1
  obtain ⟨v, us, rfl, rfl, rfl⟩ := h1
  exact ⟨n :: l, rfl, by simp [hl], by intro m hm; rcases List.mem_cons.1 hm with rfl | hm; exact hn; exact hw m hm⟩
theorem Vp : ∀ {els : List (List AV)} {vs : List Value}, VRss (gW W) W els vs → (∀ x ∈ els, LD.qy [.str] x) → ∃ l : List Str, vs = l.map (fun s => Value.string ⟨s.toArray⟩) ∧ l.length = els.length
 | [], vs, h, _ => by simp only [VRss] at h; subst h; exact ⟨[], rfl, rfl⟩
 | e :: els, vs, h, hs => by
  simp only [VRss] at h
  obtain ⟨p, q, rfl, h1, h2⟩ := h
  obtain ⟨l, rfl, hl⟩ := Vp h2 fun x hx => hs x (by simp [hx])
  have he := hs e (by simp)
  simp only [LD.qy] at he
  obtain ⟨a, bs, rfl, ha, rfl⟩ := he
  simp only [LD.sat] at ha
  obtain ⟨s, rfl, _⟩ := ha
  simp only [VRs, VR] at h1
  obtain ⟨v, us, rfl, ⟨z, rfl, rfl⟩, rfl⟩ := h1
  exact ⟨z.data.toList :: l, by simp, by simp [hl]⟩
theorem QC {es : List LD} (hpos : 0 < es.length) {a : Option Addr} {len cap : Nat} {els : List (List AV)} {vs : List Value} (hlc : len ≤ cap) (h1 : els.length = len) (h2 : vs.length = len * es.length) (h3 : VRss (gW W) W els vs) (h4 : ∀ x ∈ els, LD.qy es x)
 (h5 : 0 < vs.length → ∃ ad, a = some ad ∧ ∀ q, q < vs.length → W.cell? (ad.add q) = vs[q]?) (h6 : ∀ u ∈ vs, u.oneCell' = true) (h7 : a = none → len = 0 ∧ cap = 0) :
 ∃ av, VR (gW W) W av (.slice a len cap) ∧ LD.sat (Rm es) av := by
 have hrow : Row (gW W) W false a len cap es.length vs := by
  refine ⟨h2, hlc, Nat.zero_le _, fun hp => ?_, (fun h => by cases h), h7, h6⟩
  obtain ⟨ad, rfl, k5⟩ := h5 hp
  refine ⟨ad, rfl, ?_⟩
  have hs : ad.spot = none := by
   have h0 := k5 0 hp
   rw [List.getElem?_eq_getElem hp] at h0
   exact (QA (a := ad.add 0) h0).1
  have hl := k5 (vs.length - 1) (by omega)
  rw [List.getElem?_eq_getElem (by omega)] at hl
  refine ⟨hs, ?_, fun j hj => ?_⟩
  ·have := (Tj hl hs).1
   show ad.off + vs.length ≤ KR W ad.block
   omega
  ·have hj' := k5 j hj
   rw [List.getElem?_eq_getElem hj] at hj' ⊢
   exact (Tj hj' hs).2
 have gen : ∃ av, VR (gW W) W av (.slice a len cap) ∧ LD.sat (.sl es) av := by
  refine ⟨.sl false es.length els, ?_, ?_⟩
  ·simp only [VR]
   exact ⟨a, len, cap, vs, rfl, hrow, h1, fun e he => ⟨Nr (h4 e he), O8 (h4 e he)⟩, h3⟩
  ·simp only [LD.sat]
   exact ⟨els, rfl, h4⟩
 unfold Rm
 split
 ·rename_i k
  obtain ⟨l, rfl, hl, hw⟩ := Vo h3 h4
  refine ⟨.ints false k l, ?_, ?_⟩
  ·simp only [VR]
   exact ⟨a, len, cap, rfl, hrow⟩
  ·simp only [LD.sat]
   exact ⟨l, rfl, hw⟩
 ·obtain ⟨l, rfl, hl⟩ := Vp h3 h4
  refine ⟨.strs false l, ?_, ?_⟩
  ·simp only [VR]
   exact ⟨a, len, cap, rfl, hrow⟩
  ·simp only [LD.sat]
   exact ⟨l, rfl⟩
 ·exact gen
theorem Ns {sp : Nat → Bool} {held : Bool} {g : TypeId → Option (List LD)} {m : Nat} (hg : ∀ t lds, g t = some lds → ∀ (cs : List Value) x, DataW.trod enc P W 0 sp held m t cs = some x → ∃ az, VRs (gW W) W az cs ∧ LD.qy lds az) :
 ∀ (fs : List Field) (off : Nat) (l : List LD) (cs : List Value), YB P g off fs = some l → off + l.length = cs.length → (∀ f ∈ fs, ∃ x, DataW.trod enc P W 0 sp held m f.type ((cs.drop f.offset).take (P.cellsOf f.type)) = some x) → ∃ az, VRs (gW W) W az (cs.drop off) ∧ LD.qy l az
 | [], off, l, cs, h, hl, _ => by
  simp only [YB, Option.some.injEq] at h
  subst h
  simp only [List.length_nil, Nat.add_zero] at hl
  exact ⟨[], by simp [VRs]; omega, by simp [LD.qy]⟩
 | f :: fs, off, l, cs, h, hl, hf => by
  simp only [YB] at h
  split at h
  ·rename_i d hd
   split at h
   ·rename_i hc
    obtain ⟨h1, h2⟩ := hc
    obtain ⟨l', h3, rfl⟩ := Option.map_eq_some_iff.1 h
    simp only [List.length_append] at hl
    obtain ⟨az', k1, k2⟩ := Ns hg fs _ l' cs h3 (by omega) fun f' hf' => hf f' (by simp [hf'])
    obtain ⟨x, hx⟩ := hf f (by simp)
    obtain ⟨az, k3, k4⟩ := hg _ _ hd _ x hx
    refine ⟨az ++ az', ?_, Jl k4 k2⟩
    have e : cs.drop off = (cs.drop off).take d.length ++ cs.drop (off + d.length) := by
     rw [← List.drop_drop, List.take_append_drop]
    rw [e]
    rw [h1, ← h2] at k3
    exact KS k3 k1
   ·cases h
  ·cases h
theorem opened {sp : Nat → Bool} {held : Bool} : ∀ (n : Nat) (t : TypeId) (lds : List LD), Ti P n t = some lds → ∀ (m : Nat) (cs : List Value) (x : DataW H × List MemPlace), DataW.trod enc P W 0 sp held m t cs = some x → ∃ az, VRs (gW W) W az cs ∧ LD.qy lds az := by
 intro n
 induction n with
 | zero => intro t lds h; cases h
 | succ n ih =>
  intro t lds h m cs x hx
  unfold Ti at h
  split at h
  ·rename_i hu
   injection h with h; subst h
   obtain ⟨b, rfl, _⟩ := DataW.trod_bool hu hx
   exact ⟨[.bool b], by simp [VRs, VR], by simp [LD.qy, LD.sat]⟩
  ·rename_i k hu
   injection h with h; subst h
   obtain ⟨b, rfl, _, hw⟩ := DataW.trod_int hu hx
   exact ⟨[.int k b], by simp [VRs, VR], by simp [LD.qy, LD.sat, hw]⟩
  ·rename_i hu
   injection h with h; subst h
   obtain ⟨s, rfl, _, hsz⟩ := DataW.trod_string hu hx
   exact ⟨[.str s.data.toList], by simp only [VRs, VR]; exact ⟨_, _, rfl, ⟨s, rfl, rfl⟩, rfl⟩, by simp only [LD.qy, LD.sat]; exact ⟨_, _, rfl, ⟨_, rfl, by simpa [maxLen] using hsz⟩, rfl⟩⟩
  ·rename_i e hu
   split at h
   ·rename_i es hes
    split at h
    ·rename_i hc
     injection h with h; subst h
     rcases Deep.open_slice hu hx with ⟨rfl, _⟩ | ⟨a, len, cap, m', n', D, Pl, rfl, _, hl, _, hm, _, hel⟩
     ·obtain ⟨av, h1, h2⟩ := QC (W := W) (es := es) hc.2 (a := none) (len := 0) (cap := 0) (els := []) (vs := []) (Nat.le_refl _) rfl (by simp) (by simp [VRss]) (by simp) (by simp) (by simp) (fun _ => ⟨rfl, rfl⟩)
      exact ⟨[av], by simp only [VRs]; exact ⟨_, _, rfl, h1, rfl⟩, by simp [LD.qy, h2]⟩
     ·have hlm : len ≤ m' := by rw [hm]; split <;> omega
      obtain ⟨els, vs, h1, h2, h3, h4, h5, h6⟩ := elems (n := n') (W := W) hc.1 hc.2 a len (fun i hi => by
       obtain ⟨cs', k1, k2⟩ := hel i (by omega)
       obtain ⟨az, k3, k4⟩ := ih e es hes _ _ _ k2
       exact ⟨az, cs', k1, k3, k4⟩)
      obtain ⟨av, k1, k2⟩ := QC (W := W) (es := es) hc.2 (a := some a) (cap := cap) hl h1 h2 h3 h4 (fun _ => ⟨a, rfl, h5⟩) h6 (fun h => by cases h)
      exact ⟨[av], by simp only [VRs]; exact ⟨_, _, rfl, k1, rfl⟩, by simp [LD.qy, k2]⟩
    ·cases h
   ·cases h
  ·rename_i fs hu
   split at h
   ·rename_i l hl
    split at h
    ·rename_i hc
     injection h with h; subst h
     obtain ⟨xs, m', rfl, _, hlen, hxl, hf⟩ := DataW.trod_struct hu hx
     obtain ⟨az, h1, h2⟩ := Ns (sp := sp) (held := held) (enc := enc) (g := Ti P n) (m := m') (fun t lds h cs x hx => ih t lds h m' cs x hx) fs.toList 0 l cs hl (by omega) (fun f hfm => by
      obtain ⟨i, hi, he⟩ := List.mem_iff_getElem.1 hfm
      have hi' : i < fs.size := by simpa using hi
      have := hf i f (by rw [Array.getElem?_eq_getElem hi']; congr)
      rw [this, List.getElem?_eq_getElem (by omega)]
      exact ⟨_, rfl⟩)
     exact ⟨az, by simpa using h1, h2⟩
    ·cases h
   ·cases h
  ·rename_i k e hu
   split at h
   ·rename_i es hes
    split at h
    ·rename_i hc
     injection h with h; subst h
     obtain ⟨xs, m', rfl, _, hlen, hxl, hf⟩ := DataW.trod_array hu hx
     have hk : ∀ j, j ≤ k → ∃ az, VRs (gW W) W az (cs.take (j * es.length)) ∧ LD.qy (List.replicate j es).flatten az := by
      intro j
      induction j with
      | zero => intro _; exact ⟨[], by simp [VRs], by simp [LD.qy]⟩
      | succ j ihj =>
       intro hj
       obtain ⟨az, h1, h2⟩ := ihj (by omega)
       have h3 := hf j (by omega)
       rw [List.getElem?_eq_getElem (by omega)] at h3
       obtain ⟨bs, h4, h5⟩ := ih e es hes _ _ _ h3
       refine ⟨az ++ bs, ?_, ?_⟩
       ·have e1 : cs.take ((j + 1) * es.length) = cs.take (j * es.length) ++ (cs.drop (j * es.length)).take es.length := by
         rw [Nat.add_mul, Nat.one_mul, List.take_add]
        rw [e1]
        rw [← hc.1] at h4
        exact KS h1 h4
       ·rw [List.replicate_succ', List.flatten_append]
        simpa using Jl h2 h5
     obtain ⟨az, h1, h2⟩ := hk k (Nat.le_refl _)
     rw [List.take_of_length_le (by omega)] at h1
     exact ⟨az, h1, h2⟩
    ·cases h
   ·cases h
  ·cases h
theorem O9 {sp : Nat → Bool} {held : Bool} {n : Nat} {t : TypeId} {d : LD} {v : Value} {x : DataW H} {ps : List MemPlace} (hl : Ti P n t = some [d]) (hv : v.cells = #[v]) (h : DataW.Trod enc P W 0 sp held t v x ps) : ∃ a, VR (gW W) W a v ∧ LD.sat d a := by
 obtain ⟨fuel, hf⟩ := h
 obtain ⟨az, h1, h2⟩ := opened n t _ hl _ _ _ hf
 simp only [LD.qy] at h2
 obtain ⟨a, bs, rfl, h3, rfl⟩ := h2
 rw [hv] at h1
 simp only [VRs] at h1
 obtain ⟨u, us, he, h4, h5⟩ := h1
 simp only [List.cons.injEq] at he
 obtain ⟨rfl, rfl⟩ := he
 exact ⟨a, h4, h3⟩
theorem YC {sp : Nat → Bool} {held : Bool} {n : Nat} {t : TypeId} {ds : List LD} {vs : Array Value} {x : DataW H} {ps : List MemPlace} (hl : Ti P n t = some ds) (h : DataW.Trod enc P W 0 sp held t (.agg vs) x ps) : ∃ az, VR (gW W) W (.agg az) (.agg vs) ∧ LD.qy ds az := by
 obtain ⟨fuel, hf⟩ := h
 obtain ⟨az, h1, h2⟩ := opened n t _ hl _ _ _ hf
 refine ⟨az, ?_, h2⟩
 simp only [VR]
 exact ⟨vs, rfl, h1⟩
theorem YD {ds : List LD} {az : List AV} {vs : Array Value} (h : LD.qy ds az) : owns (.agg az) (.agg vs) = [] := by simp only [owns, QB _ h]
theorem YE {f : FuncId} {sp : FSpec} (h : FSound P f sp) {args : List AV} {H0 : List AObj} (vs : List Value) (hvs : VRs (gW W) W args vs) (hown : aC args vs = []) (hgood : GdH W.heap)
 (hsp : sp args [] (AV × List AObj) (fun v H => some (v, H)) = some (.bool true, H0)) : Calls P f vs.toArray W fun e W' => e = .returned (.bool true) ∧ Below W.heap.size W W' :=
 Uh h W vs (gW W) rfl hvs hown (fun b hb => WF hb) hgood hsp
theorem wf_i64 {n : Int} (h : (Lit.int .i64 n).wf = true) : -9223372036854775808 ≤ n ∧ n ≤ 9223372036854775807 := by
 simp only [Lit.wf, Bool.and_eq_true, decide_eq_true_eq] at h
 exact h
theorem wf_u32 {n : Int} (h : (Lit.int .u32 n).wf = true) : 0 ≤ n ∧ n ≤ 4294967295 := by
 simp only [Lit.wf, Bool.and_eq_true, decide_eq_true_eq] at h
 exact h
end Go.Sh
namespace Go.Proofs.YtiegmpnagcdgoaaGreatDoor.H.Z
open Go.Sh Go.RowKit
set_option linter.unusedSimpArgs false
set_option linter.unusedVariables false
def come (ti : List Int) (sec : Int) : Nat := ti.countP fun x => decide (x ≤ sec)
theorem ZI (i j : Nat) (hj : i + j ≤ 8000) : IntKind.i64.wrap (Int.fdiv (IntKind.u64.wrap (IntKind.i64.wrap ((i : Int) + (j : Int)))) (2 ^ 1)) = (((i + j) / 2 : Nat) : Int) := by
 rw [wi ((i : Int) + (j : Int)) (by omega) (by omega), IntWalk.u64_in _ (by omega), show ((2 : Int) ^ 1) = 2 from rfl, Int.fdiv_eq_ediv_of_nonneg _ (by omega), wi _ (by omega) (by omega)]
 omega
theorem Jm (n : Nat) (h0 : List (List AV)) (ti ix : List Int) (h3 : Str) (sec : Int) (hb : ti.length ≤ 4000) : ∀ (d i j m : Nat), j - i ≤ d → i ≤ j → j ≤ ti.length → d < m → (0 < i → ti.getD (i - 1) 0 ≤ sec) → (j < ti.length → sec < ti.getD j 0) →
 ∃ k : Nat, jY n m (i : Int) (j : Int) h0 ti ix h3 sec = some ((k : Int), h0, ti, ix, h3, sec) ∧ k ≤ ti.length ∧ (0 < k → ti.getD (k - 1) 0 ≤ sec) ∧ (k < ti.length → sec < ti.getD k 0)
 | d, i, j, 0, _, _, _, hm, _, _ => absurd hm (by omega)
 | 0, i, j, m + 1, hd, hij, hj, hm, h1, h2 => by
  refine ⟨i, ?_, by omega, h1, (show j = i by omega) ▸ h2⟩
  simp only [jY, oL]
  rw [ah (by omega)]
 | d + 1, i, j, m + 1, hd, hij, hj, hm, h1, h2 => by
  by_cases hlt : i < j
  ·have hh : (i + j) / 2 < ti.length := by omega
   simp only [jY, oL]
   rw [aa (by omega), ZI i j (by omega)]
   simp only [Jb, FP]
   rw [aa (by omega), Int.toNat_natCast, get_of hh]
   simp only [Option.bind_some]
   by_cases hc : ti.getD ((i + j) / 2) 0 > sec
   ·rw [decide_eq_true hc]
    simp only [Bool.not_true, cond_false]
    exact Jm n h0 ti ix h3 sec hb d i ((i + j) / 2) m (by omega) (by omega) (by omega) (by omega) h1 (fun _ => hc)
   ·rw [decide_eq_false hc]
    simp only [Bool.not_false, cond_true]
    rw [wY _ (by omega)]
    exact Jm n h0 ti ix h3 sec hb d ((i + j) / 2 + 1) j m (by omega) (by omega) (by omega) (by omega) (fun _ => by simp only [Nat.add_sub_cancel]; omega) h2
  ·refine ⟨i, ?_, by omega, h1, (show j = i by omega) ▸ h2⟩
   simp only [jY, oL]
   rw [ah (by omega)]
theorem Rn {ti ix : List Int} {len : Nat} (hl : ti.length = ix.length) (h : (List.range' 0 ix.length).all (okAt ti ix len) = true) : ∀ (b a : Nat), a < b → b < ti.length → ti.getD a 0 < ti.getD b 0
 | 0, a, h1, _ => absurd h1 (by omega)
 | b + 1, a, h1, h2 => by
  have h3 := List.all_eq_true.1 h (b + 1) (by rw [List.mem_range'_1]; omega)
  simp only [okAt, Bool.and_eq_true, Bool.or_eq_true, decide_eq_true_eq, beq_iff_eq] at h3
  have h4 : ti.getD b 0 < ti.getD (b + 1) 0 := by
   rcases h3.2 with h | h
   ·omega
   ·simpa using h
  rcases Nat.lt_or_ge a b with h5 | h5
  ·have := Rn hl h b a h5 (by omega)
   omega
  ·have : a = b := by omega
   subst this; exact h4
theorem Ro {ti : List Int} {sec : Int} {k : Nat} (hm : ∀ (b a : Nat), a < b → b < ti.length → ti.getD a 0 < ti.getD b 0) (hk : k ≤ ti.length) (h1 : 0 < k → ti.getD (k - 1) 0 ≤ sec) (h2 : k < ti.length → sec < ti.getD k 0) : come ti sec = k := by
 have e : come ti sec = (ti.take k).countP (fun x => decide (x ≤ sec)) + (ti.drop k).countP (fun x => decide (x ≤ sec)) := by
  unfold come
  conv => lhs; rw [← List.take_append_drop k ti]
  rw [List.countP_append]
 have e1 : (ti.take k).countP (fun x => decide (x ≤ sec)) = (ti.take k).length := by
  rw [List.countP_eq_length]
  intro x hx
  obtain ⟨i, hi, rfl⟩ := List.mem_iff_getElem.1 hx
  rw [List.length_take] at hi
  rw [List.getElem_take]
  have h3 : ti[i] = ti.getD i 0 := by rw [List.getD_eq_getElem?_getD, List.getElem?_eq_getElem (by omega)]; rfl
  rw [h3, decide_eq_true_eq]
  have h4 := h1 (by omega)
  rcases Nat.lt_or_ge i (k - 1) with h5 | h5
  ·have := hm (k - 1) i h5 (by omega)
   omega
  ·have : i = k - 1 := by omega
   subst this; exact h4
 have e2 : (ti.drop k).countP (fun x => decide (x ≤ sec)) = 0 := by
  rw [List.countP_eq_zero]
  intro x hx
  obtain ⟨i, hi, rfl⟩ := List.mem_iff_getElem.1 hx
  rw [List.length_drop] at hi
  rw [List.getElem_drop]
  have h3 : ti[k + i] = ti.getD (k + i) 0 := by rw [List.getD_eq_getElem?_getD, List.getElem?_eq_getElem (by omega)]; rfl
  rw [h3, decide_eq_true_eq]
  have h4 := h2 (by omega)
  rcases Nat.eq_zero_or_pos i with h5 | h5
  ·subst h5; simp only [Nat.add_zero]; omega
  ·have := hm (k + i) k (by omega) (by omega)
   omega
 rw [e, e1, e2, List.length_take]
 omega
def stdS (ts : List Ty) : Int := match ts.findIdx? fun t => !t.2.1 with
 | some j => j
 | none => 0
theorem Vq (n : Nat) (ts : List Ty) (hts : ts.length ≤ 255) : ∀ (r : List Ty) (i m : Nat), ts.drop i = r → r.length < m →
 qQ n m (ts.map cT) (ts.length : Int) (i : Int) = some (match r.findIdx? fun t => !t.2.1 with | some j => Sum.inl ((i + j : Nat) : Int) | none => Sum.inr ())
 | [], i, m + 1, h, _ => by
  have hi := drop_nil h
  simp only [qQ, vY]
  rw [ah (by omega)]
  simp
 | t :: r, i, m + 1, h, hm => by
  obtain ⟨k1, k2, k3⟩ := nA h
  simp only [qQ, vY]
  rw [aa (by omega), aa (by omega), Int.toNat_natCast, List.getElem?_map, k1, wY _ (by omega)]
  simp only [Option.map_some, Option.bind_some, cT, unc, xn, zf, zg, unn, Jd, FQ, List.findIdx?_cons]
  cases hd : t.2.1 with
  | false => simp
  | true =>
   simp only [Bool.not_true, cond_false, decide_true, cond_true, Bool.false_eq_true, if_false]
   rw [Vq n ts hts r (i + 1) m k2 (by simpa using hm)]
   cases r.findIdx? (fun t => !t.2.1) with
   | none => rfl
   | some j => simp only [Option.map_some]; congr 2; omega
def AtS (ts : List Ty) (ti ix : List Int) (foot : Str) (sec : Int) : Int :=
 if RightS ts ti ix foot then (if 0 < come ti sec then ix.getD (come ti sec - 1) 0 else stdS ts) else 0
theorem right_parts {ts : List Ty} {ti ix : List Int} {foot : Str} (h : RightS ts ti ix foot = true) : 1 ≤ ts.length ∧ ts.length ≤ 255 ∧ ti.length ≤ 4000 ∧ ti.length = ix.length ∧ textS foot 100 32 = true ∧ ts.all okT = true ∧ (List.range' 0 ix.length).all (okAt ti ix ts.length) = true ∧ O7 ts ≤ 256 := by
 simp only [RightS, Bool.and_eq_true, decide_eq_true_eq] at h
 obtain ⟨⟨⟨⟨⟨⟨⟨h1, h2⟩, h3⟩, h4⟩, h5⟩, h6⟩, h7⟩, h8⟩ := h
 exact ⟨h1, h2, h3, h4, h5, h6, h7, h8⟩
theorem come_le (ti : List Int) (sec : Int) : come ti sec ≤ ti.length := List.countP_le_length
theorem at_val (n : Nat) (hn : 4001 ≤ n) (ts : List Ty) (ti ix : List Int) (foot : Str) (sec : Int) : GD n (ts.map cT) ti ix foot sec = some (AtS ts ti ix foot sec) := by
 unfold GD JD AtS
 rw [right_val n hn]
 simp only [Option.bind_some]
 cases hR : RightS ts ti ix foot with
 | false => rfl
 | true =>
  obtain ⟨h1, h2, h3, h4, h5, h6, h7, h8⟩ := right_parts hR
  obtain ⟨k, e1, e2, e3, e4⟩ := Jm n (ts.map cT) ti ix foot sec h3 ti.length 0 ti.length n (by omega) (by omega) (by omega) (by omega) (fun h => absurd h (by omega)) (fun h => absurd h (by omega))
  have hk := Ro (Rn h4 h7) e2 e3 e4
  simp only [Int.natCast_zero] at e1
  simp only [Bool.not_true, cond_false, Gc, BU, e1, Option.bind_some, if_true, hk]
  by_cases hp : 0 < k
  ·rw [aa (by omega), wi _ (by omega) (by omega), aa (by omega), if_pos hp, show ((k : Int) - 1).toNat = k - 1 by omega, get_of (show k - 1 < ix.length by omega)]
   rfl
  ·rw [ah (by omega), if_neg hp]
   have e5 := Vq n ts h2 ts 0 n (by simp) (by omega)
   simp only [Int.natCast_zero] at e5
   simp only [Je, FR, List.length_map, e5, Option.bind_some, stdS]
   cases ts.findIdx? (fun t => !t.2.1) with
   | none => rfl
   | some j =>
    simp only [Sum.elim_inl, Option.bind_some, Nat.zero_add]
    congr 1
    split <;> omega
theorem open_types : ∀ {els : List (List AV)}, (∀ e ∈ els, LD.qy [.int .i64, .bool, .str] e) → ∃ ts : List Ty, els = ts.map cT ∧ ∀ t ∈ ts, -9223372036854775808 ≤ t.1 ∧ t.1 ≤ 9223372036854775807 ∧ t.2.2.length ≤ 9223372036854775807
 | [], _ => ⟨[], rfl, by simp⟩
 | e :: els, h => by
  obtain ⟨ts, rfl, h1⟩ := open_types (els := els) fun e he => h e (by simp [he])
  have h2 := h e (by simp)
  simp only [LD.qy, LD.sat] at h2
  obtain ⟨a, l1, rfl, ⟨n, rfl, hn⟩, b, l2, rfl, ⟨d, rfl⟩, c, l3, rfl, ⟨s, rfl, hs⟩, rfl⟩ := h2
  refine ⟨(n, d, s) :: ts, rfl, fun t ht => ?_⟩
  rcases List.mem_cons.1 ht with rfl | ht
  ·have := wf_i64 hn
   exact ⟨this.1, this.2, hs⟩
  ·exact h1 t ht
end Go.Proofs.YtiegmpnagcdgoaaGreatDoor.H.Z
namespace Go.Proofs.YtiegmpnagcdgoaaGreatDoor.H.Z
open Go.Sh Go.RowKit
set_option linter.unusedSimpArgs false
set_option linter.unusedVariables false
theorem WI (n : Nat) (s : Str) (lo : Int) (i : Nat) (c : UInt8) (h : s[i]? = some c) : iU n s lo 126 (i : Int) = some (!okC lo c) := by
 unfold iU jP okC
 rw [aa (by omega), Int.toNat_natCast, h]
 simp only [Option.bind_some]
 by_cases hl : (c.toNat : Int) < lo
 ·rw [aa hl]; simp [hl]
 ·rw [ah hl, aa (by omega)]
  simp [hl]
theorem QD (n : Nat) (s : Str) (lo : Int) (hs : s.length ≤ 9223372036854775807) : ∀ (r : Str) (i m : Nat), s.drop i = r → r.length < m →
 bX n m s lo 126 (i : Int) = some (if r.all (okC lo) then Sum.inr () else Sum.inl ())
 | [], i, m + 1, hd, _ => by
  have hi := drop_nil hd
  simp only [bX, gF]
  rw [ah (by omega)]
  rfl
 | c :: r, i, m + 1, hd, hm => by
  obtain ⟨k1, k2, k3⟩ := nA hd
  simp only [List.length_cons] at hm
  simp only [bX, gF]
  rw [aa (by omega), WI n s lo i c k1, wY _ (by omega)]
  simp only [Option.bind_some, List.all_cons]
  by_cases hc : okC lo c = true
  ·simp only [hc, Bool.not_true, cond_false, Bool.true_and]
   exact QD n s lo hs r (i + 1) m k2 (by omega)
  ·simp [hc]
theorem Bv (n : Nat) (s : Str) (a b lo : Int) (hs : s.length ≤ 9223372036854775807) (hn : s.length < n) : jv n s a b lo 126 = some (s.all (okC lo) && (decide ((s.length : Int) ≥ a) && decide ((s.length : Int) ≤ b))) := by
 unfold jv mV
 have e := QD n s lo hs s 0 n (by simp) hn
 simp only [Int.natCast_zero] at e
 rw [e]
 simp only [Option.bind_some]
 cases hc : s.all (okC lo) with
 | false => rfl
 | true =>
  simp only [if_true, Sum.elim_inr, Bool.true_and]
  by_cases h : (s.length : Int) ≥ a
  ·rw [aa h, decide_eq_true h, Bool.true_and]
  ·rw [ah h, decide_eq_false h, Bool.false_and]
theorem aaD (t : Ty) : okT t = (!decide (t.1 < -89999) && !decide (t.1 > 93599) && (t.2.2.all (okC 33) && (decide ((t.2.2.length : Int) ≥ 1) && decide ((t.2.2.length : Int) ≤ 15)))) := by
 unfold okT textS
 have e : (!(t.2.2 == [])) = decide ((t.2.2.length : Int) ≥ 1) := by
  cases t.2.2 with
  | nil => rfl
  | cons c s => simp; omega
 rw [e]
 cases decide (t.1 < -89999) <;> cases decide (t.1 > 93599) <;> cases decide ((t.2.2.length : Int) ≥ 1) <;> cases decide ((t.2.2.length : Int) ≤ 15) <;> cases t.2.2.all (okC 33) <;> rfl
theorem WJ (n : Nat) (ts : List Ty) (h1 h2 : List Int) (h3 : Str) (i : Nat) (t : Ty) (ht : ts[i]? = some t) (hl : t.2.2.length ≤ 9223372036854775807) (hn : t.2.2.length < n) : jy n (i : Int) (ts.map cT) h1 h2 h3 = some (!okT t, ts.map cT, h1, h2, h3) := by
 unfold jy kR
 rw [aaD, aa (by omega), Int.toNat_natCast, List.getElem?_map, ht]
 simp only [Option.map_some, Option.bind_some, cT, unc, xn, zf, zg, unn, decide_true, cond_true]
 by_cases c1 : t.1 < -89999
 ·rw [aa c1]; simp [c1]
 rw [ah c1, aa (by omega)]
 by_cases c2 : t.1 > 93599
 ·rw [aa c2]; simp [c1, c2]
 rw [ah c2, aa (by omega), Bv n _ _ _ _ hl hn, decide_eq_false c1, decide_eq_false c2]
 rfl
theorem QE (n : Nat) (ts : List Ty) (h1 h2 : List Int) (h3 : Str) (hts : ts.length ≤ 255) (hall : ∀ t ∈ ts, t.2.2.length ≤ 9223372036854775807 ∧ t.2.2.length < n) : ∀ (r : List Ty) (i m x : Nat), ts.drop i = r → r.length < m → x ≤ 16 * i →
 di n m (x : Int) (i : Int) (ts.map cT) h1 h2 h3 = some (if r.all okT then Sum.inr (((x + O7 r : Nat) : Int), ts.map cT, h1, h2, h3) else Sum.inl (ts.map cT, h1, h2, h3))
 | [], i, m + 1, x, h, _, _ => by
  have hi := drop_nil h
  simp only [di, ik]
  rw [ah (by rw [List.length_map]; omega)]
  simp [O7]
 | t :: r, i, m + 1, x, h, hm, hx => by
  obtain ⟨k1, k2, k3⟩ := nA h
  obtain ⟨q1, q2⟩ := hall t (List.mem_of_getElem? k1)
  simp only [List.length_cons] at hm
  simp only [di, ik]
  rw [aa (by rw [List.length_map]; omega), aa (by omega), WJ n ts h1 h2 h3 i t k1 q1 q2, Int.toNat_natCast, List.getElem?_map, k1, wY _ (by omega)]
  simp only [Option.map_some, Option.bind_some, cT, unc, xn, zf, zg, unn, decide_true, cond_true]
  cases hc : okT t with
  | false => simp [hc]
  | true =>
   have hl := okT_len hc
   simp only [hc, Bool.not_true, cond_false]
   have e : IntKind.i64.wrap (IntKind.i64.wrap ((x : Int) + (t.2.2.length : Int)) + 1) = ((x + (t.2.2.length + 1) : Nat) : Int) := by
    rw [wi ((x : Int) + (t.2.2.length : Int)) (by omega) (by omega), wi _ (by omega) (by omega)]; omega
   rw [e]
   have := QE n ts h1 h2 h3 hts hall r (i + 1) m _ k2 (by omega) (show x + (t.2.2.length + 1) ≤ 16 * (i + 1) by omega)
   refine this.trans ?_
   simp only [List.all_cons, hc, Bool.true_and, O7, Nat.add_assoc]
theorem WK (n : Nat) (x : Int) (hx : ¬ x > 256) (h0 : List (List AV)) (ti ix : List Int) (h3 : Str) (i : Nat) (hi : i < ti.length) (hl : ti.length = ix.length) (hb : ti.length ≤ 4000) : fV n x (i : Int) h0 ti ix h3 = some (!okAt ti ix h0.length i, h0, ti, ix, h3) := by
 unfold fV il okAt
 rw [ah hx, aa (by omega), Int.toNat_natCast, get_of (show i < ix.length by omega), Option.bind_some]
 by_cases c1 : ix.getD i 0 < 0
 ·rw [aa c1]; simp only [decide_eq_false (show ¬ (0 ≤ ix.getD i 0) by omega)]; rfl
 ·rw [ah c1, decide_eq_true (show 0 ≤ ix.getD i 0 by omega), aa (by omega), Option.bind_some]
  by_cases c2 : ix.getD i 0 ≥ (h0.length : Int)
  ·rw [aa c2]; simp only [decide_eq_false (show ¬ (ix.getD i 0 < (h0.length : Int)) by omega)]; rfl
  ·rw [ah c2, decide_eq_true (show ix.getD i 0 < (h0.length : Int) by omega)]
   by_cases c3 : (i : Int) > 0
   ·rw [aa c3, aa (by omega), get_of hi, Option.bind_some, wi _ (by omega) (by omega), aa (by omega), show ((i : Int) - 1).toNat = i - 1 by omega, get_of (show i - 1 < ti.length by omega), Option.bind_some]
    have : (i == 0) = false := by simp; omega
    rw [this]
    by_cases c4 : ti.getD i 0 ≤ ti.getD (i - 1) 0
    ·rw [decide_eq_true c4, decide_eq_false (show ¬ (ti.getD (i - 1) 0 < ti.getD i 0) by omega)]; rfl
    ·rw [decide_eq_false c4, decide_eq_true (show ti.getD (i - 1) 0 < ti.getD i 0 by omega)]; rfl
   ·rw [ah c3]
    have : i = 0 := by omega
    subst this
    rfl
theorem QF (n : Nat) (x : Int) (hx : ¬ x > 256) (h0 : List (List AV)) (ti ix : List Int) (h3 : Str) (hl : ti.length = ix.length) (hb : ti.length ≤ 4000) : ∀ (k i m : Nat), i + k = ix.length → k < m →
 bL n m x (i : Int) h0 ti ix h3 = some (if (List.range' i k).all (okAt ti ix h0.length) then Sum.inr (h0, ti, ix, h3) else Sum.inl (h0, ti, ix, h3))
 | 0, i, m + 1, h, _ => by
  simp only [bL, eH]
  rw [ah (by omega)]
  simp
 | k + 1, i, m + 1, h, hm => by
  simp only [bL, eH]
  have hi : i < ix.length := by omega
  rw [aa (by omega), wY _ (by omega)]
  simp only [WK n x hx h0 ti ix h3 i (by omega) hl hb, Option.bind_some, List.range'_succ, List.all_cons]
  cases hc : okAt ti ix h0.length i with
  | false => simp
  | true =>
   simp only [Bool.not_true, cond_false, Bool.true_and]
   exact QF n x hx h0 ti ix h3 hl hb k (i + 1) m (by omega) (by omega)
theorem rright_val (n : Nat) (hn : 4001 ≤ n) (ts : List Ty) (ti ix : List Int) (foot : Str) (hall : ∀ t ∈ ts, t.2.2.length ≤ 9223372036854775807 ∧ t.2.2.length < n) (hf : foot.length ≤ 9223372036854775807 ∧ foot.length < n) : jQ n (ts.map cT) ti ix foot = some (RightS ts ti ix foot) := by
 unfold jQ nZ mW kQ RightS
 simp only [List.length_map]
 by_cases c1 : (ts.length : Int) < 1
 ·rw [aa c1]; simp [show ¬ (1 ≤ ts.length) by omega]
 rw [ah c1, decide_eq_true (show 1 ≤ ts.length by omega)]
 by_cases c2 : (ts.length : Int) > 255
 ·rw [aa c2]; simp [show ¬ (ts.length ≤ 255) by omega]
 rw [ah c2, decide_eq_true (show ts.length ≤ 255 by omega)]
 by_cases c3 : (ti.length : Int) > 4000
 ·rw [aa c3]; simp [show ¬ (ti.length ≤ 4000) by omega]
 rw [ah c3, decide_eq_true (show ti.length ≤ 4000 by omega)]
 by_cases c4 : ti.length = ix.length
 case neg =>
  have : ((ti.length : Int) != (ix.length : Int)) = true := by simp; omega
  rw [this]; simp [c4]
 have : ((ti.length : Int) != (ix.length : Int)) = false := by simp; omega
 rw [this, decide_eq_true c4, Bv n foot 0 100 32 (by omega) (by omega)]
 have e0 : (foot.all (okC 32) && (decide ((foot.length : Int) ≥ 0) && decide ((foot.length : Int) ≤ 100))) = textS foot 100 32 := by
  unfold textS
  rw [decide_eq_true (show (foot.length : Int) ≥ 0 by omega), Bool.true_and, Bool.and_comm]
 simp only [e0, cond_false, Option.bind_some, Bool.true_and]
 cases c5 : textS foot 100 32 with
 | false => simp
 | true =>
  have e1 := QE n ts ti ix foot (by omega) hall ts 0 n 0 (by simp) (by omega) (by omega)
  simp only [Int.natCast_zero, Nat.zero_add] at e1
  simp only [Bool.not_true, cond_false, e1, Option.bind_some]
  cases c6 : ts.all okT with
  | false => simp
  | true =>
   simp only [if_true, Sum.elim_inr]
   by_cases c8 : O7 ts ≤ 256
   ·have e2 := QF n (O7 ts : Int) (by omega) (ts.map cT) ti ix foot c4 (by omega) ix.length 0 n (by omega) (by omega)
    simp only [Int.natCast_zero, List.length_map] at e2
    simp only [e2, Option.bind_some]
    cases c7 : (List.range' 0 ix.length).all (okAt ti ix ts.length) with
    | false => simp
    | true =>
     simp only [if_true, Sum.elim_inr, Bool.true_and]
     congr 1
     rw [decide_eq_decide]; omega
   ·rw [decide_eq_false c8, Bool.and_false]
    obtain ⟨m, rfl⟩ : ∃ m, n = m + 1 := ⟨n - 1, by omega⟩
    simp only [bL, eH, fV, il]
    by_cases c9 : (0 : Int) < (ti.length : Int)
    ·rw [aa c9, aa (by omega)]
     rfl
    ·rw [ah c9]
     simp only [Option.bind_some, Sum.elim_inr]
     rw [decide_eq_false (by omega)]
end Go.Proofs.YtiegmpnagcdgoaaGreatDoor.H.Z
namespace Go.Proofs.YtiegmpnagcdgoaaGreatDoor.H.Z
open Go.Sh Go.RowKit
set_option linter.unusedSimpArgs false
set_option linter.unusedVariables false
theorem YF (n : Nat) (h0 : List (List AV)) (ti ix : List Int) (h3 : Str) (sec : Int) (hb : ti.length ≤ 4000) (hl : ti.length = ix.length) (hm0 : ∀ (b a : Nat), a < b → b < ti.length → ti.getD a 0 < ti.getD b 0) : ∀ (k m : Nat), k ≤ ti.length → k < m → (k < ti.length → sec < ti.getD k 0) →
 mK n m sec ((k : Int) - 1) h0 ti ix h3 = some (if 0 < come ti sec then Sum.inl (ix.getD (come ti sec - 1) 0, h0, ti, ix, h3) else Sum.inr (h0, ti, ix, h3))
 | 0, m + 1, _, _, h2 => by
  simp only [mK, uA]
  have hc : come ti sec = 0 := Ro hm0 (by omega) (fun h => absurd h (by omega)) h2
  rw [ah (by omega), if_neg (by omega)]
 | k + 1, m + 1, hk, hm, h2 => by
  simp only [mK, uA]
  rw [show (((k + 1 : Nat) : Int) - 1) = (k : Int) by omega, aa (by omega), aa (by omega), Int.toNat_natCast, get_of (show k < ti.length by omega), Option.bind_some]
  by_cases hc : ti.getD k 0 ≤ sec
  ·have he : come ti sec = k + 1 := Ro hm0 hk (fun _ => by simpa using hc) h2
   rw [aa hc, aa (by omega), get_of (show k < ix.length by omega), Option.bind_some, he, if_pos (by omega), Nat.add_sub_cancel]
  ·rw [ah hc, wi _ (by omega) (by omega)]
   exact YF n h0 ti ix h3 sec hb hl hm0 k m (by omega) (by omega) (fun _ => by omega)
theorem YG (n : Nat) (ts : List Ty) (h1 h2 : List Int) (h3 : Str) (hts : ts.length ≤ 255) : ∀ (r : List Ty) (i m : Nat), ts.drop i = r → r.length < m →
 mM n m (i : Int) (ts.map cT) h1 h2 h3 = some (match r.findIdx? fun t => !t.2.1 with | some j => Sum.inl (((i + j : Nat) : Int), ts.map cT, h1, h2, h3) | none => Sum.inr (ts.map cT, h1, h2, h3))
 | [], i, m + 1, h, _ => by
  have hi := drop_nil h
  simp only [mM, uB]
  rw [ah (by rw [List.length_map]; omega)]
  simp
 | t :: r, i, m + 1, h, hm => by
  obtain ⟨k1, k2, k3⟩ := nA h
  simp only [List.length_cons] at hm
  simp only [mM, uB]
  rw [aa (by rw [List.length_map]; omega), aa (by omega), Int.toNat_natCast, List.getElem?_map, k1, wY _ (by omega)]
  simp only [Option.map_some, Option.bind_some, cT, unc, xn, zf, zg, unn, List.findIdx?_cons, decide_true, cond_true]
  cases hd : t.2.1 with
  | false => simp
  | true =>
   simp only [Bool.not_true, cond_false, Bool.false_eq_true, if_false]
   refine (YG n ts h1 h2 h3 hts r (i + 1) m k2 (by omega)).trans ?_
   cases r.findIdx? (fun t => !t.2.1) with
   | none => rfl
   | some j => simp only [Option.map_some]; congr 3; omega
theorem rat_val (n : Nat) (hn : 4001 ≤ n) (ts : List Ty) (ti ix : List Int) (foot : Str) (sec : Int) (hall : ∀ t ∈ ts, t.2.2.length ≤ 9223372036854775807 ∧ t.2.2.length < n) (hf : foot.length ≤ 9223372036854775807 ∧ foot.length < n) : xh n (ts.map cT) ti ix foot sec = some (AtS ts ti ix foot sec) := by
 unfold xh Dh AtS
 rw [rright_val n hn ts ti ix foot hall hf]
 simp only [Option.bind_some]
 cases hR : RightS ts ti ix foot with
 | false => rfl
 | true =>
  obtain ⟨h1, h2, h3, h4, h5, h6, h7, h8⟩ := right_parts hR
  have e1 := YF n (ts.map cT) ti ix foot sec h3 h4 (Rn h4 h7) ti.length n (by omega) (by omega) (fun h => absurd h (by omega))
  simp only [Bool.not_true, cond_false, if_true]
  rw [wi _ (by omega) (by omega), e1]
  by_cases hp : 0 < come ti sec
  ·rw [if_pos hp, if_pos hp]; rfl
  ·rw [if_neg hp, if_neg hp]
   have e5 := YG n ts ti ix foot h2 ts 0 n (by simp) (by omega)
   simp only [Int.natCast_zero] at e5
   simp only [Option.bind_some, Sum.elim_inr, e5, stdS]
   cases ts.findIdx? (fun t => !t.2.1) with
   | none => rfl
   | some j => simp only [Sum.elim_inl, Option.bind_some, Nat.zero_add]
theorem Tk (n : Nat) (ts : List Ty) (ti ix : List Int) (foot : Str) (g0 : List (List AV)) (g1 g2 : List Int) (g3 : Str) (hts : ts.length ≤ 300) : ∀ (r : List Ty) (i m : Nat) (acc : List (List AV)) (h1 h2 : List Int) (h3 : Str), ts.drop i = r → r.length < m → acc.length + r.length ≤ 300 →
 dh n m (i : Int) (ts.map cT) ti ix foot g0 g1 g2 g3 acc h1 h2 h3 = some (ts.map cT, ti, ix, foot, g0, g1, g2, g3, acc ++ r.map cT, h1, h2, h3)
 | [], i, m + 1, acc, h1, h2, h3, h, _, _ => by
  have hi := drop_nil h
  simp only [dh, ig]
  rw [ah (by rw [List.length_map]; omega)]
  simp
 | t :: r, i, m + 1, acc, h1, h2, h3, h, hm, ha => by
  obtain ⟨k1, k2, k3⟩ := nA h
  simp only [List.length_cons] at hm ha
  simp only [dh, ig]
  rw [aa (by rw [List.length_map]; omega), aa (by omega), Int.toNat_natCast, List.getElem?_map, k1, wY _ (by omega)]
  simp only [Option.map_some, Option.bind_some, cT, unc, xn, zf, zg, unn, decide_true, cond_true]
  rw [aa (by simp only [List.length_cons, List.length_nil]; omega)]
  refine (Tk n ts ti ix foot g0 g1 g2 g3 hts r (i + 1) m _ h1 h2 h3 k2 (by omega) (by simp only [List.length_append, List.length_cons, List.length_nil]; omega)).trans ?_
  simp [cT]
theorem plain_val (n : Nat) (hn : 301 ≤ n) (ts : List Ty) (ti ix : List Int) (foot : Str) (hts : ts.length ≤ 300) : gM n (ts.map cT) ti ix foot = some (ts.map cT, ti, ix, foot) := by
 unfold gM nY
 have e := Tk n ts ti ix foot [] [] [] [] hts ts 0 n [] ti ix foot (by simp) (by omega) (by simp; omega)
 simp only [Int.natCast_zero] at e
 rw [e]
 rfl
theorem lens_bound : ∀ (ts : List Ty), ∃ n, ∀ t ∈ ts, t.2.2.length < n
 | [] => ⟨0, by simp⟩
 | t :: r => by
  obtain ⟨n, h⟩ := lens_bound r
  refine ⟨n + (t.2.2.length + 1), fun u hu => ?_⟩
  rcases List.mem_cons.1 hu with rfl | hu
  ·omega
  ·have := h u hu; omega
end Go.Proofs.YtiegmpnagcdgoaaGreatDoor.H.Z
namespace Go.Proofs.YtiegmpnagcdgoaaGreatDoor.H
open Go.Sh Go.RowKit
set_option linter.unusedSimpArgs false
set_option linter.unusedVariables false
def KT : List Int → Int → List Int
 | [], a => [a]
 | b :: l, a => if a < b then a :: b :: l else if a = b then b :: l else b :: KT l a
def NC (l : List Int) : Prop := l.Pairwise (· < ·)
theorem Pb : ∀ (l : List Int) (a x : Int), x ∈ KT l a ↔ x = a ∨ x ∈ l
 | [], a, x => by simp [KT]
 | b :: l, a, x => by
  unfold KT
  split
  ·simp
  ·split
   ·rename_i h
    subst h
    simp
   ·rw [List.mem_cons, Pb l a x, List.mem_cons]
    constructor
    ·rintro (h | h | h) <;> simp [h]
    ·rintro (h | h | h) <;> simp [h]
theorem QG : ∀ (l : List Int) (a : Int), NC l → NC (KT l a)
 | [], a, _ => by simp [KT, NC]
 | b :: l, a, h => by
  obtain ⟨h1, h2⟩ := List.pairwise_cons.1 h
  unfold KT
  split
  ·rename_i hab
   refine List.pairwise_cons.2 ⟨fun x hx => ?_, h⟩
   rcases List.mem_cons.1 hx with rfl | hx
   ·exact hab
   ·exact Int.lt_trans hab (h1 x hx)
  ·split
   ·exact h
   ·rename_i h3 h4
    refine List.pairwise_cons.2 ⟨fun x hx => ?_, QG l a h2⟩
    rcases (Pb l a x).1 hx with rfl | hx
    ·omega
    ·exact h1 x hx
def qV (l all : List Int) : List Int := all.foldl KT l
theorem HY : ∀ (all l : List Int), NC l → NC (qV l all)
 | [], l, h => h
 | a :: all, l, h => HY all (KT l a) (QG l a h)
theorem D6 : ∀ (all l : List Int) (x : Int), x ∈ qV l all ↔ x ∈ l ∨ x ∈ all
 | [], l, x => by simp [qV]
 | a :: all, l, x => by
  have := D6 all (KT l a) x
  unfold qV at this ⊢
  rw [List.foldl_cons, this, Pb]
  simp only [List.mem_cons]
  constructor
  ·rintro ((h | h) | h) <;> simp [h]
  ·rintro (h | h | h) <;> simp [h]
theorem Pd {l : List Int} (h : NC l) : l.Nodup := h.imp fun {a b} h e => by omega
theorem YH {l l' : List Int} (h : NC l) (h' : NC l') (hm : ∀ x, x ∈ l ↔ x ∈ l') : l = l' := by
 refine List.Perm.eq_of_pairwise (le := fun a b => a < b) (fun a b _ _ h1 h2 => by omega) h h' ?_
 exact (List.perm_ext_iff_of_nodup (Pd h) (Pd h')).2 hm
theorem Mh : ∀ (es : List (Int × Int)) (a b : Int), (yo es a b).map (·.1) = if a ∈ es.map (·.1) then es.map (·.1) else es.map (·.1) ++ [a]
 | [], a, b => by simp [yo]
 | (x, y) :: es, a, b => by
  unfold yo
  by_cases h : x = a
  ·subst h
   simp
  ·have hb : (x == a) = false := by simpa using h
   rw [hb, cond_false, List.map_cons, Mh es a b]
   simp only [List.map_cons, List.mem_cons]
   by_cases h2 : a ∈ es.map (·.1)
   ·rw [if_pos h2, if_pos (.inr h2)]
   ·rw [if_neg h2, if_neg (fun h3 => h3.elim (fun h3 => h h3.symm) h2)]
    rfl
theorem YI (es : List (Int × Int)) (a b x : Int) : x ∈ (yo es a b).map (·.1) ↔ x = a ∨ x ∈ es.map (·.1) := by
 rw [Mh]
 split
 ·rename_i h
  constructor
  ·exact .inr
  ·rintro (rfl | h2)
   ·exact h
   ·exact h2
 ·simp [or_comm]
theorem Uy {es : List (Int × Int)} (a b : Int) (h : (es.map (·.1)).Nodup) : ((yo es a b).map (·.1)).Nodup := by
 rw [Mh]
 split
 ·exact h
 ·rename_i h2
  refine List.nodup_append.2 ⟨h, by simp, fun x hx y hy e => ?_⟩
  simp at hy
  subst hy; subst e
  exact h2 hx
def GJ (es : List (Int × Int)) (all : List Int) : List (Int × Int) := all.foldl (fun es a => yo es a 1) es
theorem Pe : ∀ (all : List Int) (es : List (Int × Int)) (x : Int), x ∈ (GJ es all).map (·.1) ↔ x ∈ es.map (·.1) ∨ x ∈ all
 | [], es, x => by simp [GJ]
 | a :: all, es, x => by
  have := Pe all (yo es a 1) x
  unfold GJ at this ⊢
  rw [List.foldl_cons, this, YI]
  simp only [List.mem_cons]
  constructor
  ·rintro ((h | h) | h)
   ·exact .inr (.inl h)
   ·exact .inl h
   ·exact .inr (.inr h)
  ·rintro (h | h | h)
   ·exact .inl (.inr h)
   ·exact .inl (.inl h)
   ·exact .inr h
theorem Pf : ∀ (all : List Int) (es : List (Int × Int)), (es.map (·.1)).Nodup → ((GJ es all).map (·.1)).Nodup
 | [], es, h => h
 | a :: all, es, h => Pf all (yo es a 1) (Uy a 1 h)
theorem Tm {l : List Int} (h : l.Nodup) : NC (l.mergeSort leI) := by
 have tr : ∀ a b c : Int, leI a b = true → leI b c = true → leI a c = true := fun a b c h1 h2 => by simp only [leI, decide_eq_true_eq] at *; exact Int.le_trans h1 h2
 have to : ∀ a b : Int, (leI a b || leI b a) = true := fun a b => by simp only [leI, Bool.or_eq_true, decide_eq_true_eq]; exact Int.le_total a b
 have h1 := List.pairwise_mergeSort tr to l
 have h2 : (l.mergeSort leI).Nodup := (List.mergeSort_perm l leI).nodup_iff.2 h
 have h3 := List.Pairwise.and h1 h2
 exact h3.imp fun {a b} hh => by
  have h4 := hh.1
  have h5 := hh.2
  simp only [leI, decide_eq_true_eq] at h4
  omega
theorem Jn (all : List Int) : ((GJ [] all).map (·.1)).mergeSort leI = qV [] all := by
 refine YH (Tm (Pf all [] (by simp))) (HY all [] List.Pairwise.nil) fun x => ?_
 rw [(List.mergeSort_perm _ leI).mem_iff, Pe, D6]
 simp
theorem Mi : ∀ (all : List Int) (es : List (Int × Int)), (GJ es all).length ≤ es.length + all.length
 | [], es => by simp [GJ]
 | a :: all, es => by
  have h1 := Mi all (yo es a 1)
  have h2 : (yo es a 1).length ≤ es.length + 1 := by
   have := congrArg List.length (Mh es a 1)
   split at this <;> simp at this <;> omega
  unfold GJ at h1 ⊢
  rw [List.foldl_cons, List.length_cons]
  omega
end Go.Proofs.YtiegmpnagcdgoaaGreatDoor.H
namespace Go.Proofs.YtiegmpnagcdgoaaGreatDoor.H
open Go.Sh Go.RowKit
set_option linter.unusedSimpArgs false
set_option linter.unusedVariables false
theorem Bz (n : Nat) (a : Int) (h : -9223372036854775808 ≤ a ∧ a ≤ 9223372036854775807) : oq n a 1000000 = some (a / 1000000) := by
 unfold oq DF
 rw [show ((1000000 : Int) == 0) = false from rfl]
 simp only [cond_false]
 by_cases ha : 0 ≤ a
 ·rw [tm0 ha, td0 ha, ah (by omega), wi _ (by omega) (by omega)]
 ·obtain ⟨b, rfl⟩ : ∃ b : Int, a = -b := ⟨-a, by omega⟩
  rw [Int.neg_tmod, Int.neg_tdiv, tm0 (by omega), td0 (by omega)]
  by_cases hz : b % 1000000 = 0
  ·rw [ah (by omega), wi _ (by omega) (by omega)]
   congr 1
   omega
  ·rw [aa (by omega)]
   simp (disch := omega) only [wi]
   congr 1
   omega
theorem iA (n : Nat) (a : Int) (h : -9223372036854775808 ≤ a ∧ a ≤ 9223372036854775807) : aF n a 1000000 = some (a / 1000000) := by
 unfold aF oD
 rw [show ((1000000 : Int) == 0) = false from rfl]
 simp only [cond_false]
 by_cases ha : 0 ≤ a
 ·rw [tm0 ha, td0 ha, ah (by omega), wi _ (by omega) (by omega)]
 ·obtain ⟨b, rfl⟩ : ∃ b : Int, a = -b := ⟨-a, by omega⟩
  rw [Int.neg_tmod, Int.neg_tdiv, tm0 (by omega), td0 (by omega)]
  by_cases hz : b % 1000000 = 0
  ·rw [ah (by omega), wi _ (by omega) (by omega)]
   congr 1
   omega
  ·rw [aa (by omega)]
   simp (disch := omega) only [wi]
   congr 1
   omega
theorem MS {ts : List Z.Ty} {ti ix : List Int} {foot : Str} (h : Z.RightS ts ti ix foot = true) (t : Int) : 0 ≤ Z.AtS ts ti ix foot t ∧ Z.AtS ts ti ix foot t < ts.length := by
 obtain ⟨h1, h2, h3, h4, h5, h6, h7, h8⟩ := Z.right_parts h
 unfold Z.AtS
 rw [if_pos h]
 by_cases hc : 0 < Z.come ti t
 ·rw [if_pos hc]
  have hle := Z.come_le ti t
  have hk := List.all_eq_true.1 h7 (Z.come ti t - 1) (List.mem_range'_1.2 ⟨by omega, by omega⟩)
  unfold Z.okAt at hk
  simp only [Bool.and_eq_true, decide_eq_true_eq] at hk
  exact hk.1
 ·rw [if_neg hc]
  unfold Z.stdS
  cases hf : ts.findIdx? fun t => !t.2.1 with
  | none => simp only; omega
  | some j =>
   obtain ⟨hj, _⟩ := List.findIdx?_eq_some_iff_getElem.1 hf
   simp only
   omega
def Nt (ti : List Int) (t : Int) : Bool := ti.length == 0 || decide (ti.getD (ti.length - 1) 0 ≤ t)
theorem Tn {ti : List Int} (hz : ti.length ≠ 0) (hb : ti.length ≤ 4000) : ti[(IntKind.i64.wrap ((ti.length : Int) - 1)).toNat]? = some (ti.getD (ti.length - 1) 0) := by
 rw [wi _ (by omega) (by omega), show ((ti.length : Int) - 1).toNat = ti.length - 1 by omega]
 exact Z.get_of (by omega)
theorem YJ (n : Nat) (t : Int) (h1 : List (List AV)) (ti h3 : List Int) (h4 h5 h6 : Str) (h7 h8 h9 h10 h11 h12 h13 h14 h15 h16 h17 h18 : Int) (hb : ti.length ≤ 4000) :
 oz n t h1 ti h3 h4 h5 h6 h7 h8 h9 h10 h11 h12 h13 h14 h15 h16 h17 h18 = some (Nt ti t) := by
 unfold oz ow Nt
 by_cases hz : ti.length = 0
 ·rw [hz]; rfl
 ·rw [show ((ti.length : Int) == (0 : Int)) = false by simpa using hz, cond_false, aa (by rw [wi _ (by omega) (by omega)]; omega), Tn hz hb, show (ti.length == 0) = false by simpa using hz]
  simp only [Option.bind_some, Bool.false_or]
theorem Cy {ts : List Z.Ty} {a : Int} (h0 : 0 ≤ a) (h1 : a < ts.length) {R : Type} (K : Int → Option R) :
 ((ts.map Z.cT)[a.toNat]?).bind (fun e => unc e fun c r => xn .i64 c fun x => unc r fun c r => zf c fun y => unc r fun c r => zg c fun z => unn r (K x)) = K (ts.getD a.toNat (0, false, [])).1 := by
 have h2 : a.toNat < ts.length := by omega
 rw [List.getElem?_map, List.getElem?_eq_getElem h2, List.getD_eq_getElem?_getD, List.getElem?_eq_getElem h2]
 rfl
end Go.Proofs.YtiegmpnagcdgoaaGreatDoor.H
namespace Go.Proofs.YtiegmpnagcdgoaaGreatDoor.H
open Go.Sh Go.RowKit
set_option linter.unusedSimpArgs false
set_option linter.unusedVariables false
theorem BA {ts : List Z.Ty} {ti ix : List Int} {foot : Str} (h : Z.RightS ts ti ix foot = true) {n : Nat} (hn : 4001 ≤ n) : ∀ t ∈ ts, t.2.2.length ≤ 9223372036854775807 ∧ t.2.2.length < n := by
 obtain ⟨_, _, _, _, _, h6, _, _⟩ := Z.right_parts h
 intro t ht
 have := Z.okT_len (List.all_eq_true.1 h6 t ht)
 omega
theorem BB {ts : List Z.Ty} {ti ix : List Int} {foot : Str} (h : Z.RightS ts ti ix foot = true) : foot.length ≤ 100 := by
 obtain ⟨_, _, _, _, h5, _, _, _⟩ := Z.right_parts h
 unfold Z.textS at h5
 simp only [Bool.and_eq_true, decide_eq_true_eq] at h5
 omega
theorem JM (n : Nat) (t : Int) (h0 : List (List AV)) (ti h2 : List Int) (h3 h4 h5 : Str) (h6 h7 h8 h9 h10 h11 h12 h13 h14 h15 h16 h17 : Int) (b : Bool) (hb : ti.length ≤ 4000) :
 dw n t (ti.length : Int) h0 ti h2 h3 h4 h5 h6 h7 h8 h9 h10 h11 h12 h13 h14 h15 h16 h17 true b = some (Nt ti t) := by
 unfold dw dP Nt
 by_cases hz : ti.length = 0
 ·rw [hz]; rfl
 ·rw [cond_true, show ((ti.length : Int) == (0 : Int)) = false by simpa using hz, cond_false, aa (by rw [wi _ (by omega) (by omega)]; omega), Tn hz hb, show (ti.length == 0) = false by simpa using hz]
  simp only [Option.bind_some, Bool.false_or]
theorem AA (n : Nat) (hn : 20000 < n) (ts : List Z.Ty) (ti ix : List Int) (foot : Str) (r : RuleV) (hR : Z.RightS ts ti ix foot = true) (hs : r.std.length ≤ 200) (hd : r.dst.length ≤ 200) (sec : Int) :
 ∃ o, bY n sec (ts.map Z.cT) ti ix foot r.std r.dst r.off r.doff r.a.k r.a.m r.a.w r.a.d r.a.t r.b.k r.b.m r.b.w r.b.d r.b.t = some (o) ∧
  au n (ts.map Z.cT) ti ix foot r.std r.dst r.off r.doff r.a.k r.a.m r.a.w r.a.d r.a.t r.b.k r.b.m r.b.w r.b.d r.b.t true false sec = some o := by
 obtain ⟨_, _, hb, _, _, _, _, _⟩ := Z.right_parts hR
 unfold bY qR pU nk au aT
 rw [YJ n _ _ ti _ _ _ _ _ _ _ _ _ _ _ _ _ _ _ _ hb, cond_false, JM n _ _ ti _ _ _ _ _ _ _ _ _ _ _ _ _ _ _ _ _ hb]
 simp only [Option.bind_some]
 cases Nt ti (if (-10000000000 : Int) < (if sec < (100000000000 : Int) then sec else (100000000000 : Int)) then (if sec < (100000000000 : Int) then sec else (100000000000 : Int)) else (-10000000000 : Int)) with
 | true =>
  obtain ⟨o, h1, h2⟩ := ZG n r (if (-10000000000 : Int) < (if sec < (100000000000 : Int) then sec else (100000000000 : Int)) then (if sec < (100000000000 : Int) then sec else (100000000000 : Int)) else (-10000000000 : Int)) hn (by omega) (by omega) (by omega) (by omega)
  simp only [cond_true]
  rw [h1, h2]
  exact ⟨o.1, rfl, rfl⟩
 | false =>
  simp only [cond_false]
  rw [Z.at_val n (by omega), Z.rat_val n (by omega) ts ti ix foot _ (BA hR (by omega)) (by have := BB hR; omega)]
  obtain ⟨k1, k2⟩ := MS hR (if (-10000000000 : Int) < (if sec < (100000000000 : Int) then sec else (100000000000 : Int)) then (if sec < (100000000000 : Int) then sec else (100000000000 : Int)) else (-10000000000 : Int))
  simp only [Option.bind_some]
  rw [aa k1, Cy k1 k2]
  try rw [aa k1, Cy k1 k2]
  exact ⟨_, rfl, rfl⟩
theorem AB (n : Nat) (hn : 20000 < n) (ts : List Z.Ty) (ti ix : List Int) (foot : Str) (a4 a5 : Str) (a6 a7 a8 a9 a10 a11 a12 a13 a14 a15 a16 a17 : Int) (hR : Z.RightS ts ti ix foot = true) (sec : Int) :
 ∃ o, bZ n sec (ts.map Z.cT) ti ix foot = some (o) ∧
  au n (ts.map Z.cT) ti ix foot a4 a5 a6 a7 a8 a9 a10 a11 a12 a13 a14 a15 a16 a17 false false sec = some o := by
 unfold bZ qU pX nu au aT dw dP
 simp only [Option.bind_some, cond_false]
 rw [Z.at_val n (by omega), Z.rat_val n (by omega) ts ti ix foot _ (BA hR (by omega)) (by have := BB hR; omega)]
 obtain ⟨k1, k2⟩ := MS hR (if (-10000000000 : Int) < (if sec < (100000000000 : Int) then sec else (100000000000 : Int)) then (if sec < (100000000000 : Int) then sec else (100000000000 : Int)) else (-10000000000 : Int))
 simp only [Option.bind_some]
 rw [aa k1, Cy k1 k2]
 try rw [aa k1, Cy k1 k2]
 exact ⟨_, rfl, rfl⟩
end Go.Proofs.YtiegmpnagcdgoaaGreatDoor.H
namespace Go.Proofs.YtiegmpnagcdgoaaGreatDoor.H
open Go.Sh Go.RowKit
set_option linter.unusedSimpArgs false
set_option linter.unusedVariables false
theorem Pg (n : Nat) (a : Int) (h : -9223372036854775808 ≤ a ∧ a ≤ 9223372036854775807) : yE n a 86400000000 = some (a / 86400000000, a % 86400000000, true) := by
 unfold yE EP
 rw [Cn, xH]
 rw [show ((86400000000 : Int) == 0) = false from rfl, show ((86400000000 : Int) == -1) = false from rfl]
 simp only [cond_false, Option.bind_some]
 have htm : -86400000000 < Int.tmod a 86400000000 ∧ Int.tmod a 86400000000 < 86400000000 := by
  by_cases ha : 0 ≤ a
  ·rw [tm0 ha]; omega
  ·obtain ⟨b, rfl⟩ : ∃ b : Int, a = -b := ⟨-a, by omega⟩
   rw [Int.neg_tmod, tm0 (by omega)]; omega
 rw [Co, xI, JI n _ (by omega), JI n 86400000000 (by omega)]
 simp only [Option.bind_some]
 by_cases ha : 0 ≤ a
 ·rw [tm0 ha, td0 ha]
  rw [if_neg (by omega), if_neg (by omega)]
  simp (disch := omega) only [wi]
  rw [show ((0 : Int) != 0) = false from rfl]
  cases (a % 86400000000 != 0) <;> rfl
 ·obtain ⟨b, rfl⟩ : ∃ b : Int, a = -b := ⟨-a, by omega⟩
  rw [Int.neg_tmod, Int.neg_tdiv, tm0 (by omega), td0 (by omega)]
  by_cases hz : b % 86400000000 = 0
  ·rw [show (-(b % 86400000000) != 0) = false by simp [hz]]
   simp only [cond_false, Option.bind_some]
   simp (disch := omega) only [wi]
   congr 2
   ·omega
   ·congr 1
    omega
  ·rw [show (-(b % 86400000000) != 0) = true by simp [hz]]
   rw [if_pos (by omega), if_neg (by omega)]
   rw [show ((1 : Int) != 0) = true from rfl]
   simp only [cond_true, Option.bind_some]
   simp (disch := omega) only [wi]
   congr 2
   ·omega
   ·congr 1
    omega
theorem YK (n : Nat) (a : Int) : ∃ o, rQ n a = some o ∧ ((a < -719162 ∨ 2932896 < a) → o.2.2.2 = 6) := by
 unfold rQ Bo yU uS
 rw [Ay n 1 1 1 (by omega) (by omega) (by omega), Ay n 9999 12 31 (by omega) (by omega) (by omega), Jj, KQ]
 simp only [Option.bind_some]
 by_cases h1 : a < -719162
 ·rw [aa h1]
  exact ⟨_, rfl, fun _ => rfl⟩
 ·rw [ah h1]
  simp only [Option.bind_some]
  by_cases h2 : a > 2932896
  ·rw [decide_eq_true h2]
   exact ⟨_, rfl, fun _ => rfl⟩
  ·rw [decide_eq_false h2, cond_false]
   have hx : ∀ (c : Bool) (x y : Int × Int × Int × Int), ∃ o, cond c (some x) (some y) = some o := fun c x y => by cases c <;> exact ⟨_, rfl⟩
   obtain ⟨o, ho⟩ := hx _ _ _
   exact ⟨o, ho, fun h => by omega⟩
theorem Tp (n : Nat) (x : Int) (h : -9223372036854775808 ≤ x ∧ x ≤ 9223372036854775807) : ∃ o, aK n x = some o ∧ ((x < -1000000000000000000 ∨ 1000000000000000000 < x) → o.2.2.2.2.2.2.2 = 6) := by
 unfold aK qM
 rw [Pg n x h]
 obtain ⟨o, h1, h2⟩ := YK n (x / 86400000000)
 simp only [Option.bind_some, h1]
 by_cases he : o.2.2.2 = 0
 ·rw [he]
  refine ⟨_, rfl, fun hx => ?_⟩
  have := h2 (by omega)
  omega
 ·rw [show (o.2.2.2 != (0 : Int)) = true by simpa using he]
  exact ⟨_, rfl, fun hx => h2 (by omega)⟩
end Go.Proofs.YtiegmpnagcdgoaaGreatDoor.H
namespace Go.Proofs.YtiegmpnagcdgoaaGreatDoor.H
open Go.Sh Go.RowKit
set_option linter.unusedSimpArgs false
set_option linter.unusedVariables false
theorem Uz {s : Str} {r : RuleV} (h : Il s = some r) : dB r = true := by
 unfold Il at h
 split at h
 ·cases h
 ·dsimp only at h
  split at h
  ·rename_i hh
   injection h with h
   subst h
   exact hh.2.2
  ·cases h
theorem Tq {s : Str} (h : rU s = true) : s.length ≤ 10 := by
 unfold rU at h
 simp only [Bool.and_eq_true, decide_eq_true_eq] at h
 exact h.1.2
theorem qW {r : RuleV} (h : dB r = true) : r.std.length ≤ 200 ∧ r.dst.length ≤ 200 := by
 obtain ⟨h1, _, _, h2⟩ := Bw h
 have := Tq h1
 rcases h2 with ⟨h2, _⟩ | ⟨h2, _⟩
 ·rw [h2]; simp; omega
 ·have := Tq h2; omega
theorem Vr (n : Nat) (hn : 4001 ≤ n) (ts : List Z.Ty) (ti ix : List Int) (foot : Str) :
 Bn n (ts.map Z.cT) ti ix foot = some (if Z.RightS ts ti ix foot = true then (if foot = [] then Sum.inr (Sum.inr (ts.map Z.cT, ti, ix, foot)) else match Il foot with
  | some r => Sum.inr (Sum.inl (ts.map Z.cT, ti, ix, foot, r.std, r.dst, r.off, r.doff, r.a.k, r.a.m, r.a.w, r.a.d, r.a.t, r.b.k, r.b.m, r.b.w, r.b.d, r.b.t))
  | none => Sum.inl (70 : Int)) else Sum.inl (2 : Int)) := by
 unfold Bn Hl
 rw [Z.right_val n hn]
 simp only [Option.bind_some]
 by_cases hR : Z.RightS ts ti ix foot = true
 ·obtain ⟨_, h2, h3, h4, _, _, _, _⟩ := Z.right_parts hR
  rw [hR, if_pos rfl, Bool.not_true, cond_false, aa (by rw [List.length_map]; omega), aa (by omega), aa (by omega)]
  by_cases hf : foot = []
  ·subst hf; rfl
  ·rw [show (foot == ([] : Str)) = false by simpa using hf, Bool.not_false, cond_true, Wz n foot (by omega), if_neg hf]
   simp only [Option.bind_some]
   cases Il foot with
   | none => rfl
   | some r => rfl
 ·rw [if_neg hR]
  rw [Bool.not_eq_true] at hR
  rw [hR]; rfl
theorem Mj (n : Nat) (hn : 4001 ≤ n) (ts : List Z.Ty) (ti ix : List Int) (foot : Str) (hall : ∀ t ∈ ts, t.2.2.length ≤ 9223372036854775807 ∧ t.2.2.length < n) (hf : foot.length ≤ 9223372036854775807 ∧ foot.length < n) (hR : Z.RightS ts ti ix foot = true) :
 eF n (ts.map Z.cT) ti ix foot = some (if foot = [] then (ts.map Z.cT, ti, ix, foot, [], [], (0 : Int), (0 : Int), (0 : Int), (0 : Int), (0 : Int), (0 : Int), (0 : Int), (0 : Int), (0 : Int), (0 : Int), (0 : Int), (0 : Int), false, (0 : Int)) else match Il foot with
  | some r => (ts.map Z.cT, ti, ix, foot, r.std, r.dst, r.off, r.doff, r.a.k, r.a.m, r.a.w, r.a.d, r.a.t, r.b.k, r.b.m, r.b.w, r.b.d, r.b.t, true, (0 : Int))
  | none => ([], [], [], [], [], [], (0 : Int), (0 : Int), (0 : Int), (0 : Int), (0 : Int), (0 : Int), (0 : Int), (0 : Int), (0 : Int), (0 : Int), (0 : Int), (0 : Int), false, (70 : Int))) := by
 unfold eF mr
 rw [Z.rright_val n hn ts ti ix foot hall hf, hR]
 simp only [Option.bind_some, Bool.not_true, cond_false]
 by_cases hf : foot = []
 ·subst hf; rfl
 ·rw [show (foot == ([] : Str)) = false by simpa using hf, cond_false, Us n foot (by omega), if_neg hf]
  simp only [Option.bind_some]
  cases Il foot with
  | none => rfl
  | some r => rfl
theorem UA (n : Nat) (hn : 4001 ≤ n) (ts : List Z.Ty) (ti ix : List Int) (foot : Str) (hall : ∀ t ∈ ts, t.2.2.length ≤ 9223372036854775807 ∧ t.2.2.length < n) (hf : foot.length ≤ 9223372036854775807 ∧ foot.length < n) : ∃ o, eF n (ts.map Z.cT) ti ix foot = some o := by
 by_cases hR : Z.RightS ts ti ix foot = true
 ·exact ⟨_, Mj n hn ts ti ix foot hall hf hR⟩
 ·unfold eF mr
  rw [Bool.not_eq_true] at hR
  rw [Z.rright_val n hn ts ti ix foot hall hf, hR]
  exact ⟨_, rfl⟩
theorem UB (n : Nat) (hn : 4001 ≤ n) (ts : List Z.Ty) (ti ix : List Int) (foot : Str) (utc : Bool) (hall : ∀ t ∈ ts, t.2.2.length ≤ 9223372036854775807 ∧ t.2.2.length < n) (hf : foot.length ≤ 9223372036854775807 ∧ foot.length < n) :
 utc = true ∧ fI n (ts.map Z.cT) ti ix foot utc = some (Sum.inl ([], [], [], [], [], [], (0 : Int), (0 : Int), (0 : Int), (0 : Int), (0 : Int), (0 : Int), (0 : Int), (0 : Int), (0 : Int), (0 : Int), (0 : Int), (0 : Int), false, true, true)) ∨
 (∃ x, fI n (ts.map Z.cT) ti ix foot utc = some (Sum.inl x) ∧ x.2.2.2.2.2.2.2.2.2.2.2.2.2.2.2.2.2.2.2.2 = false) ∨
 Z.RightS ts ti ix foot = true ∧ ts.length ≤ 40 ∧ ti.length ≤ 300 ∧ (
  (∃ r : RuleV, dB r = true ∧ fI n (ts.map Z.cT) ti ix foot utc = some (Sum.inr (Sum.inl (ts.map Z.cT, ti, ix, foot, r.std, r.dst, r.off, r.doff, r.a.k, r.a.m, r.a.w, r.a.d, r.a.t, r.b.k, r.b.m, r.b.w, r.b.d, r.b.t, true, true, ts.map Z.cT, ti, ix, foot, r.std, r.dst, r.off, r.doff, r.a.k, r.a.m, r.a.w, r.a.d, r.a.t, r.b.k, r.b.m, r.b.w, r.b.d, r.b.t)))) ∨
  fI n (ts.map Z.cT) ti ix foot utc = some (Sum.inr (Sum.inr (ts.map Z.cT, ti, ix, foot, [], [], (0 : Int), (0 : Int), (0 : Int), (0 : Int), (0 : Int), (0 : Int), (0 : Int), (0 : Int), (0 : Int), (0 : Int), (0 : Int), (0 : Int), false, true, ts.map Z.cT, ti, ix, foot)))) := by
 unfold fI pO
 cases utc with
 | true => exact .inl ⟨rfl, rfl⟩
 | false =>
  refine .inr ?_
  rw [cond_false, oo, lX]
  by_cases c1 : ((ts.map Z.cT).length : Int) > 40
  ·rw [aa c1]
   exact .inl ⟨_, rfl, rfl⟩
  rw [ah c1]
  simp only [Option.bind_some]
  by_cases c2 : (ti.length : Int) > 300
  ·rw [decide_eq_true c2]
   exact .inl ⟨_, rfl, rfl⟩
  rw [decide_eq_false c2, cond_false, Vr n hn]
  rw [List.length_map] at c1
  have hp := Z.plain_val n (by omega) ts ti ix foot (by omega)
  simp only [Option.bind_some]
  by_cases hR : Z.RightS ts ti ix foot = true
  ·rw [if_pos hR]
   by_cases hz : foot = []
   ·rw [if_pos hz]
    simp only [Sum.elim_inr]
    rw [hp]
    simp only [Option.bind_some]
    rw [Mj n hn ts ti ix foot hall hf hR, if_pos hz]
    exact .inr ⟨hR, by omega, by omega, .inr rfl⟩
   ·rw [if_neg hz]
    cases hr : Il foot with
    | none =>
     simp only [Sum.elim_inl]
     rw [hp]
     simp only [Option.bind_some]
     rw [Mj n hn ts ti ix foot hall hf hR, if_neg hz, hr]
     exact .inl ⟨_, rfl, rfl⟩
    | some r =>
     simp only [Sum.elim_inr, Sum.elim_inl]
     rw [hp]
     simp only [Option.bind_some]
     rw [Mj n hn ts ti ix foot hall hf hR, if_neg hz, hr]
     exact .inr ⟨hR, by omega, by omega, .inl ⟨r, Uz hr, rfl⟩⟩
  ·rw [if_neg hR]
   obtain ⟨o, ho⟩ := UA n hn ts ti ix foot hall hf
   simp only [Sum.elim_inl]
   rw [hp]
   simp only [Option.bind_some]
   rw [ho]
   exact .inl ⟨_, rfl, rfl⟩
end Go.Proofs.YtiegmpnagcdgoaaGreatDoor.H
namespace Go.Proofs.YtiegmpnagcdgoaaGreatDoor.H
open Go.Sh Go.RowKit
set_option linter.unusedSimpArgs false
set_option linter.unusedVariables false
theorem Tt : ∀ (es : List (Int × Int)) (a : Int), (∀ p ∈ es, p.2 = 1) → ∀ p ∈ yo es a 1, p.2 = 1
 | [], a, _, p, hp => by
  simp [yo] at hp
  rw [hp]
 | (x, y) :: es, a, h, p, hp => by
  unfold yo at hp
  by_cases hx : (x == a) = true
  ·rw [hx, cond_true] at hp
   rcases List.mem_cons.1 hp with rfl | hp
   ·rfl
   ·exact h p (List.mem_cons_of_mem _ hp)
  ·rw [Bool.not_eq_true] at hx
   rw [hx, cond_false] at hp
   rcases List.mem_cons.1 hp with rfl | hp
   ·exact h _ (List.mem_cons_self ..)
   ·exact Tt es a (fun q hq => h q (List.mem_cons_of_mem _ hq)) p hp
theorem QH : ∀ (all : List Int) (es : List (Int × Int)), (∀ p ∈ es, p.2 = 1) → ∀ p ∈ GJ es all, p.2 = 1
 | [], es, h => h
 | a :: all, es, h => QH all (yo es a 1) (Tt es a h)
theorem Rp (all : List Int) (h : ∀ a ∈ all, qB a = true) : ((GJ [] all).all fun p => qB p.1 && qB p.2) = true := by
 rw [List.all_eq_true]
 intro p hp
 have h1 : p.1 ∈ (GJ [] all).map (·.1) := List.mem_map_of_mem hp
 rw [Pe] at h1
 have h2 := QH all [] (by simp) p hp
 rw [h2, h p.1 (by simpa using h1)]
 rfl
theorem QI (n : Nat) (ts : List Z.Ty) (hts : ts.length ≤ 255) (h64 : ∀ t ∈ ts, qB t.1 = true) (h0 : List (List AV)) (h1 h2 : List Int) (h3 s1 s2 : Str) (b2 b3 b4 b5 b6 b7 b8 b9 b10 b11 b12 b13 : Int) : ∀ (q : List Z.Ty) (i m : Nat) (es : List (Int × Int)), ts.drop i = q → q.length < m →
 dF n m (ts.map Z.cT) ((ts.map Z.cT).length : Int) (i : Int) h0 h1 h2 h3 s1 s2 b2 b3 b4 b5 b6 b7 b8 b9 b10 b11 b12 b13 es = some (GJ es (q.map (·.1)))
 | [], i, m + 1, es, h, _ => by
  have hi := drop_nil h
  simp only [dF, iV]
  rw [ah (by rw [List.length_map]; omega)]
  rfl
 | t :: q, i, m + 1, es, h, hm => by
  obtain ⟨k1, k2, k3⟩ := nA h
  simp only [List.length_cons] at hm
  have ht : t ∈ ts := List.mem_of_getElem? k1
  simp only [dF, iV]
  rw [aa (by rw [List.length_map]; omega), aa (by omega), Int.toNat_natCast, List.getElem?_map, k1, wY _ (by omega)]
  simp only [Option.map_some, Option.bind_some, Z.cT, unc, xn, zf, zg, unn, decide_true, cond_true]
  rw [h64 t ht, show qB 1 = true from rfl]
  simp only [Bool.and_self, cond_true]
  exact QI n ts hts h64 h0 h1 h2 h3 s1 s2 b2 b3 b4 b5 b6 b7 b8 b9 b10 b11 b12 b13 q (i + 1) m _ k2 (by omega)
theorem QJ (n : Nat) (ts : List Z.Ty) (hts : ts.length ≤ 255) (h64 : ∀ t ∈ ts, qB t.1 = true) (h0 : List (List AV)) (h1 h2 : List Int) (h3 : Str) : ∀ (q : List Z.Ty) (i m : Nat) (es : List (Int × Int)), ts.drop i = q → q.length < m →
 dI n m (ts.map Z.cT) ((ts.map Z.cT).length : Int) (i : Int) h0 h1 h2 h3 es = some (GJ es (q.map (·.1)))
 | [], i, m + 1, es, h, _ => by
  have hi := drop_nil h
  simp only [dI, iX]
  rw [ah (by rw [List.length_map]; omega)]
  rfl
 | t :: q, i, m + 1, es, h, hm => by
  obtain ⟨k1, k2, k3⟩ := nA h
  simp only [List.length_cons] at hm
  have ht : t ∈ ts := List.mem_of_getElem? k1
  simp only [dI, iX]
  rw [aa (by rw [List.length_map]; omega), aa (by omega), Int.toNat_natCast, List.getElem?_map, k1, wY _ (by omega)]
  simp only [Option.map_some, Option.bind_some, Z.cT, unc, xn, zf, zg, unn, decide_true, cond_true]
  rw [h64 t ht, show qB 1 = true from rfl]
  simp only [Bool.and_self, cond_true]
  exact QJ n ts hts h64 h0 h1 h2 h3 q (i + 1) m _ k2 (by omega)
def qX (ts : List Z.Ty) (o : Option RuleV) : List Int := ts.map (·.1) ++ (match o with
 | some r => r.off :: (if r.dst = [] then [] else [r.doff])
 | none => [])
theorem YL {t : Z.Ty} (h : Z.okT t = true) : qB t.1 = true := by
 unfold Z.okT at h
 simp only [Bool.and_eq_true, Bool.not_eq_true', decide_eq_false_iff_not] at h
 simp only [qB, Bool.and_eq_true, decide_eq_true_eq]
 omega
theorem UC (n : Nat) (hn : 4001 ≤ n) (ts : List Z.Ty) (ti ix : List Int) (foot : Str) (hR : Z.RightS ts ti ix foot = true) :
 pW n (ts.map Z.cT) ti ix foot = some (qV [] (qX ts none)) := by
 obtain ⟨_, h2, _, _, _, h6, _, _⟩ := Z.right_parts hR
 have h64 : ∀ t ∈ ts, qB t.1 = true := fun t ht => YL (List.all_eq_true.1 h6 t ht)
 unfold pW pV
 have e := QJ n ts h2 h64 (ts.map Z.cT) ti ix foot ts 0 n [] (by simp) (by omega)
 simp only [Int.natCast_zero] at e
 rw [e]
 simp only [Option.bind_some, bU, dO]
 have hl := Mi (ts.map (·.1)) []
 simp only [List.length_nil, List.length_map] at hl
 rw [Rp _ (by intro a ha; obtain ⟨t, ht, rfl⟩ := List.mem_map.1 ha; exact h64 t ht), Bool.and_true, aa (by omega), Jn]
 simp [qX]
theorem ZJ {r : RuleV} (h : dB r = true) : qB r.off = true ∧ (r.dst ≠ [] → qB r.doff = true) := by
 obtain ⟨_, h1, h2, h3⟩ := Bw h
 simp only [qB, Bool.and_eq_true, decide_eq_true_eq]
 refine ⟨by omega, fun hd => ?_⟩
 rcases h3 with ⟨h3, _⟩ | ⟨_, _, h4, h5, _⟩
 ·exact absurd h3 hd
 ·omega
theorem Tu (es : List (Int × Int)) (l l' : List Int) : GJ es (l ++ l') = GJ (GJ es l) l' := List.foldl_append
theorem UD (n : Nat) (hn : 4001 ≤ n) (ts : List Z.Ty) (ti ix : List Int) (foot : Str) (r : RuleV) (hR : Z.RightS ts ti ix foot = true) (hr : dB r = true) :
 pR n (ts.map Z.cT) ti ix foot r.std r.dst r.off r.doff r.a.k r.a.m r.a.w r.a.d r.a.t r.b.k r.b.m r.b.w r.b.d r.b.t = some (qV [] (qX ts (some r))) := by
 obtain ⟨_, h2, _, _, _, h6, _, _⟩ := Z.right_parts hR
 obtain ⟨i1, i2⟩ := ZJ hr
 have h64 : ∀ t ∈ ts, qB t.1 = true := fun t ht => YL (List.all_eq_true.1 h6 t ht)
 have hts : ∀ a ∈ ts.map (·.1), qB a = true := by intro a ha; obtain ⟨t, ht, rfl⟩ := List.mem_map.1 ha; exact h64 t ht
 unfold pR pQ
 have e := QI n ts h2 h64 (ts.map Z.cT) ti ix foot r.std r.dst r.off r.doff r.a.k r.a.m r.a.w r.a.d r.a.t r.b.k r.b.m r.b.w r.b.d r.b.t ts 0 n [] (by simp) (by omega)
 simp only [Int.natCast_zero] at e
 rw [e]
 simp only [Option.bind_some, bU, dO]
 rw [i1, show qB 1 = true from rfl, Bool.and_self, cond_true]
 by_cases hd : r.dst = []
 ·rw [show (r.dst == ([] : Str)) = true by simpa using hd, Bool.not_true, cond_false]
  have ea : yo (GJ [] (ts.map (·.1))) r.off 1 = GJ [] (qX ts (some r)) := by
   simp only [qX, if_pos hd]
   rw [Tu]
   rfl
  have hl := Mi (qX ts (some r)) []
  have hl2 : (qX ts (some r)).length = ts.length + 1 := by simp [qX, hd]
  simp only [List.length_nil] at hl
  rw [ea, Rp _ (by
   intro a ha
   simp only [qX, if_pos hd] at ha
   rcases List.mem_append.1 ha with ha | ha
   ·exact hts a ha
   ·rw [List.mem_singleton.1 ha]; exact i1), Bool.and_true, aa (by omega), Jn]
 ·rw [show (r.dst == ([] : Str)) = false by simpa using hd, Bool.not_false, cond_true, i2 hd, Bool.and_true, cond_true]
  have ea : yo (yo (GJ [] (ts.map (·.1))) r.off 1) r.doff 1 = GJ [] (qX ts (some r)) := by
   simp only [qX, if_neg hd]
   rw [Tu]
   rfl
  have hl := Mi (qX ts (some r)) []
  have hl2 : (qX ts (some r)).length = ts.length + 2 := by simp [qX, hd]
  simp only [List.length_nil] at hl
  rw [ea, Rp _ (by
   intro a ha
   simp only [qX, if_neg hd] at ha
   rcases List.mem_append.1 ha with ha | ha
   ·exact hts a ha
   ·rcases List.mem_cons.1 ha with rfl | ha
    ·exact i1
    ·rw [List.mem_singleton.1 ha]; exact i2 hd), Bool.and_true, aa (by omega), Jn]
end Go.Proofs.YtiegmpnagcdgoaaGreatDoor.H
namespace Go.Proofs.YtiegmpnagcdgoaaGreatDoor.H
open Go.Sh Go.RowKit
set_option linter.unusedSimpArgs false
set_option linter.unusedVariables false
def upto (l : List Int) (v : Int) : List Int := l.takeWhile fun x => decide (x ≤ v)
theorem YM : ∀ (l : List Int) (v : Int), KT l v = if v ∈ upto l v then l else upto l v ++ v :: l.drop (upto l v).length
 | [], v => by simp [upto, KT]
 | b :: l, v => by
  unfold KT upto
  by_cases h1 : b ≤ v
  ·rw [List.takeWhile_cons_of_pos (by simpa using h1), if_neg (by omega)]
   by_cases h2 : v = b
   ·subst h2
    simp
   ·rw [if_neg h2, YM l v]
    unfold upto
    by_cases h3 : v ∈ l.takeWhile fun x => decide (x ≤ v)
    ·rw [if_pos h3, if_pos (List.mem_cons_of_mem _ h3)]
    ·rw [if_neg h3, if_neg (by rw [List.mem_cons]; exact fun h => h.elim h2 h3)]
     simp
  ·rw [List.takeWhile_cons_of_neg (by simpa using h1), if_pos (by omega)]
   simp
theorem ZK (l : List Int) (v : Int) : (upto l v).length ≤ l.length := (List.takeWhile_prefix _).length_le
theorem ZL (l : List Int) (v : Int) : (KT l v).length ≤ l.length + 1 := by
 have hp := ZK l v
 rw [YM]
 split
 ·omega
 ·simp only [List.length_append, List.length_cons, List.length_drop]
  omega
end Go.Proofs.YtiegmpnagcdgoaaGreatDoor.H
namespace Go.Proofs.YtiegmpnagcdgoaaGreatDoor.H
open Go.Sh Go.RowKit
set_option linter.unusedVariables false
set_option linter.unusedSimpArgs false
set_option maxHeartbeats 4000000
set_option maxRecDepth 100000
def sK (n : Nat) (a0 : Int) (h0 : List (List AV)) (h1 h2 : List Int) (h3 h4 h5 : Str) (h6 h7 h8 h9 h10 h11 h12 h13 h14 h15 h16 h17 : Int) (R : Type) (K : W9 → Option R) : Option R := (oq n a0 (1000000 : Int)).bind fun o648 => ((bY n o648 h0 h1 h2 h3 h4 h5 h6 h7 h8 h9 h10 h11 h12 h13 h14 h15 h16 h17).bind fun o649 => (cond ((decide ((IntKind.i64.wrap (a0 + (IntKind.i64.wrap (o649 * (1000000 : Int))))) < a0)) == (decide ((IntKind.i64.wrap (o649 * (1000000 : Int))) < (0 : Int)))) ((aK n (IntKind.i64.wrap (a0 + (IntKind.i64.wrap (o649 * (1000000 : Int)))))).bind fun o650 => (K (o650.1, o650.2.1, o650.2.2.1, o650.2.2.2.1, o650.2.2.2.2.1, o650.2.2.2.2.2.1, o650.2.2.2.2.2.2.1, o650.2.2.2.2.2.2.2))) (K ((0 : Int), (0 : Int), (0 : Int), (0 : Int), (0 : Int), (0 : Int), (0 : Int), (6 : Int)))))
def iB n a0 h0 h1 h2 h3 h4 h5 h6 h7 h8 h9 h10 h11 h12 h13 h14 h15 h16 h17 := sK n a0 h0 h1 h2 h3 h4 h5 h6 h7 h8 h9 h10 h11 h12 h13 h14 h15 h16 h17 _ some
abbrev xm : FS := ⟨[.q 0 0, .n], [.c 82 [.L false 3, .l .i64, .l .i64, .s, .q 1 0], .c 87 [.s, .s, .n, .n, .c, .n, .n, .n, .n, .c, .n, .n, .n, .n]], [([.a [.n, .n, .n, .n, .n, .n, .n], .n], [.k 0, .k 1])]⟩
def wI (n : Nat) : FSpec := xm.sp (iB n)
theorem zb (n : Nat) : FSound Tryz.prog 17 (wI n) := fs2 (S := xm) (b := sK n) Tryz.func17 rfl rfl [.cell 4 47 7 true, .tmp 5] (.s .a (.s (.r [(2, .cl 39 (rP n)), (3, .cl 12 (iL n))]) (.s (.s .a (.s .a (.s (.s (.r [(1, .cl 18 (uo n)), (3, .tk [23])]) .a) .a))) .a))) (by (repeat intro _); unfold sK; simp only [aD]) (ai (oK n) (ai (iW n) (ai (uZ n) trivial)))
def sM (n : Nat) (a0 : Int) (h0 : List (List AV)) (h1 h2 : List Int) (h3 : Str) (R : Type) (K : W9 → Option R) : Option R := (oq n a0 (1000000 : Int)).bind fun o707 => ((bZ n o707 h0 h1 h2 h3).bind fun o708 => (cond ((decide ((IntKind.i64.wrap (a0 + (IntKind.i64.wrap (o708 * (1000000 : Int))))) < a0)) == (decide ((IntKind.i64.wrap (o708 * (1000000 : Int))) < (0 : Int)))) ((aK n (IntKind.i64.wrap (a0 + (IntKind.i64.wrap (o708 * (1000000 : Int)))))).bind fun o709 => (K (o709.1, o709.2.1, o709.2.2.1, o709.2.2.2.1, o709.2.2.2.2.1, o709.2.2.2.2.2.1, o709.2.2.2.2.2.2.1, o709.2.2.2.2.2.2.2))) (K ((0 : Int), (0 : Int), (0 : Int), (0 : Int), (0 : Int), (0 : Int), (0 : Int), (6 : Int)))))
def iC n a0 h0 h1 h2 h3 := sM n a0 h0 h1 h2 h3 _ some
abbrev Di : FS := ⟨[.q 0 0, .n], [.c 82 [.L false 3, .l .i64, .l .i64, .s, .x (.ptr none)]], [([.a [.n, .n, .n, .n, .n, .n, .n], .n], [.k 0])]⟩
def wJ (n : Nat) : FSpec := Di.sp (iC n)
theorem ze (n : Nat) : FSound Tryz.prog 17 (wJ n) := fs2 (S := Di) (b := sM n) Tryz.func17 rfl rfl [.cell 4 47 7 true, .tmp 5] (.s .a (.s (.r [(2, .cl 39 (rP n)), (3, .cl 12 (iM n))]) (.s (.s .a (.s .a (.s (.s (.r [(1, .cl 18 (uo n)), (3, .tk [23])]) .a) .a))) .a))) (by (repeat intro _); unfold sM; simp only [aD]) (ai (oK n) (ai (iY n) (ai (uZ n) trivial)))
def tK (n : Nat) : FSpec := Nc Ad.p (uq n) (Nc xm.p (wI n) (wJ n))
theorem wK (n : Nat) : FSound Tryz.prog 17 (tK n) := yL (u6 n) (yL (zb n) (ze n))
end Go.Proofs.YtiegmpnagcdgoaaGreatDoor.H
namespace Go.Proofs.YtiegmpnagcdgoaaGreatDoor.H
open Go.Sh Go.RowKit
set_option linter.unusedVariables false
set_option linter.unusedSimpArgs false
set_option maxHeartbeats 4000000
set_option maxRecDepth 100000
end Go.Proofs.YtiegmpnagcdgoaaGreatDoor.H
namespace Go.Proofs.YtiegmpnagcdgoaaGreatDoor.H
open Go.Sh Go.RowKit
set_option linter.unusedSimpArgs false
set_option linter.unusedVariables false
theorem MU : ∀ (all l : List Int), (qV l all).length ≤ l.length + all.length
 | [], l => by simp [qV]
 | a :: all, l => by
  have h1 := MU all (KT l a)
  have h2 := ZL l a
  unfold qV at h1 ⊢
  rw [List.foldl_cons, List.length_cons]
  omega
end Go.Proofs.YtiegmpnagcdgoaaGreatDoor.H
namespace Go.Proofs.YtiegmpnagcdgoaaGreatDoor.H
open Go.Sh Go.RowKit
set_option linter.unusedSimpArgs false
set_option linter.unusedVariables false
theorem Rq (n : Nat) (hn : 20000 < n) (ts : List Z.Ty) (ti ix : List Int) (foot : Str) (r : RuleV) (hR : Z.RightS ts ti ix foot = true) (hr : dB r = true) (sec : Int) {o : Int}
 (h : au n (ts.map Z.cT) ti ix foot r.std r.dst r.off r.doff r.a.k r.a.m r.a.w r.a.d r.a.t r.b.k r.b.m r.b.w r.b.d r.b.t true false sec = some o) : -93599 ≤ o ∧ o ≤ 93599 := by
 obtain ⟨_, _, hb, _, _, h6, _, _⟩ := Z.right_parts hR
 obtain ⟨g1, g2, g3, g4⟩ := Bw hr
 unfold au aT at h
 rw [cond_false, JM n _ _ ti _ _ _ _ _ _ _ _ _ _ _ _ _ _ _ _ _ hb] at h
 simp only [Option.bind_some] at h
 revert h
 generalize (if (-10000000000 : Int) < (if sec < (100000000000 : Int) then sec else (100000000000 : Int)) then (if sec < (100000000000 : Int) then sec else (100000000000 : Int)) else (-10000000000 : Int)) = t
 intro h
 cases hov : Nt ti t with
 | true =>
  rw [hov, cond_true] at h
  by_cases hd : r.dst = []
  ·rw [MR n r t hr hd (by have := (qW hr).1; omega) (by have := (qW hr).1; omega)] at h
   simp only [Option.bind_some, Option.some.injEq] at h
   omega
  ·obtain ⟨y, _, _, _, hv⟩ := rat_val n r t hn hr hd
   rw [hv] at h
   simp only [Option.bind_some, Option.some.injEq] at h
   rcases g4 with ⟨g4, _⟩ | ⟨_, _, g5, g6, _⟩
   ·exact absurd g4 hd
   ·unfold Jk at h
    split at h <;> simp only at h <;> omega
 | false =>
  rw [hov, cond_false, Z.rat_val n (by omega) ts ti ix foot _ (BA hR (by omega)) (by have := BB hR; omega)] at h
  obtain ⟨k1, k2⟩ := MS hR t
  simp only [Option.bind_some] at h
  rw [aa k1, Cy k1 k2] at h
  injection h with h
  have h3 : (Z.AtS ts ti ix foot t).toNat < ts.length := by omega
  rw [List.getD_eq_getElem?_getD, List.getElem?_eq_getElem h3] at h
  have h4 := List.all_eq_true.1 h6 _ (List.getElem_mem h3)
  unfold Z.okT at h4
  simp only [Bool.and_eq_true, Bool.not_eq_true', decide_eq_false_iff_not] at h4
  simp only [Option.getD_some] at h
  omega
theorem Rs (n : Nat) (hn : 20000 < n) (ts : List Z.Ty) (ti ix : List Int) (foot : Str) (a4 a5 : Str) (a6 a7 a8 a9 a10 a11 a12 a13 a14 a15 a16 a17 : Int) (hR : Z.RightS ts ti ix foot = true) (sec : Int) {o : Int}
 (h : au n (ts.map Z.cT) ti ix foot a4 a5 a6 a7 a8 a9 a10 a11 a12 a13 a14 a15 a16 a17 false false sec = some o) : -93599 ≤ o ∧ o ≤ 93599 := by
 obtain ⟨_, _, hb, _, _, h6, _, _⟩ := Z.right_parts hR
 unfold au aT dw dP at h
 simp only [Option.bind_some, cond_false] at h
 revert h
 generalize (if (-10000000000 : Int) < (if sec < (100000000000 : Int) then sec else (100000000000 : Int)) then (if sec < (100000000000 : Int) then sec else (100000000000 : Int)) else (-10000000000 : Int)) = t
 intro h
 rw [Z.rat_val n (by omega) ts ti ix foot _ (BA hR (by omega)) (by have := BB hR; omega)] at h
 obtain ⟨k1, k2⟩ := MS hR t
 simp only [Option.bind_some] at h
 rw [aa k1, Cy k1 k2] at h
 injection h with h
 have h3 : (Z.AtS ts ti ix foot t).toNat < ts.length := by omega
 rw [List.getD_eq_getElem?_getD, List.getElem?_eq_getElem h3] at h
 have h4 := List.all_eq_true.1 h6 _ (List.getElem_mem h3)
 unfold Z.okT at h4
 simp only [Bool.and_eq_true, Bool.not_eq_true', decide_eq_false_iff_not] at h4
 simp only [Option.getD_some] at h
 omega
end Go.Proofs.YtiegmpnagcdgoaaGreatDoor.H
namespace Go.Proofs.YtiegmpnagcdgoaaGreatDoor.H
open Go.Sh Go.RowKit
set_option linter.unusedSimpArgs false
set_option linter.unusedVariables false
def kw (f : Int → Int) (loc : Int) (acc : List Int) (v : Int) : List Int := if -10000000000000000 ≤ loc - v * 1000000 ∧ loc - v * 1000000 ≤ 100000000000000000 ∧ f ((loc - v * 1000000) / 1000000) = v then acc ++ [loc - v * 1000000] else acc
def jq (n : Nat) (ts : List Z.Ty) (ti ix : List Int) (foot : Str) (r : RuleV) (sec : Int) : Int := (au n (ts.map Z.cT) ti ix foot r.std r.dst r.off r.doff r.a.k r.a.m r.a.w r.a.d r.a.t r.b.k r.b.m r.b.w r.b.d r.b.t true false sec).getD 0
theorem GK (n : Nat) (hn : 20000 < n) (ts : List Z.Ty) (ti ix : List Int) (foot : Str) (r : RuleV) (hR : Z.RightS ts ti ix foot = true) (hr : dB r = true) (sec : Int) :
 bY n sec (ts.map Z.cT) ti ix foot r.std r.dst r.off r.doff r.a.k r.a.m r.a.w r.a.d r.a.t r.b.k r.b.m r.b.w r.b.d r.b.t = some (jq n ts ti ix foot r sec) := by
 obtain ⟨l1, l2⟩ := qW hr
 obtain ⟨d, e1, e2⟩ := AA n hn ts ti ix foot r hR l1 l2 sec
 rw [e1, jq, e2]
 rfl
theorem Ph (f : Int → Int) (loc : Int) (acc : List Int) (v : Int) : (kw f loc acc v).length ≤ acc.length + 1 := by
 unfold kw
 split <;> simp
theorem WL (n : Nat) (hn : 20000 < n) (ts : List Z.Ty) (ti ix : List Int) (foot : Str) (r : RuleV) (hR : Z.RightS ts ti ix foot = true) (hr : dB r = true) (i v loc : Int) (acc : List Int) (hv : -93599 ≤ v ∧ v ≤ 93599) (hl : -1000000000000000000 ≤ loc ∧ loc ≤ 1000000000000000000) (ha : acc.length ≤ 5000) :
 kY n i v loc acc (ts.map Z.cT) ti ix foot r.std r.dst r.off r.doff r.a.k r.a.m r.a.w r.a.d r.a.t r.b.k r.b.m r.b.w r.b.d r.b.t = some (kw (jq n ts ti ix foot r) loc acc v) := by
 unfold kY kX kw
 rw [wi (v * 1000000) (by omega) (by omega), wi (loc - v * 1000000) (by omega) (by omega)]
 by_cases c1 : loc - v * 1000000 ≥ -10000000000000000
 ·rw [aa c1]
  by_cases c2 : loc - v * 1000000 ≤ 100000000000000000
  ·rw [aa c2, Bz n _ (by omega)]
   simp only [Option.bind_some]
   rw [GK n hn ts ti ix foot r hR hr]
   simp only [Option.bind_some]
   by_cases c3 : jq n ts ti ix foot r ((loc - v * 1000000) / 1000000) = v
   ·rw [show (jq n ts ti ix foot r ((loc - v * 1000000) / 1000000) == v) = true by simpa using c3, cond_true, aa (by simp only [List.length_cons, List.length_nil]; omega), if_pos ⟨c1, c2, c3⟩]
   ·rw [show (jq n ts ti ix foot r ((loc - v * 1000000) / 1000000) == v) = false by simpa using c3, cond_false, if_neg (fun h => c3 h.2.2)]
  ·rw [ah c2, if_neg (fun h => c2 h.2.1)]
 ·rw [ah c1, if_neg (fun h => c1 h.1)]
theorem QK (n : Nat) (hn : 20000 < n) (ts : List Z.Ty) (ti ix : List Int) (foot : Str) (r : RuleV) (hR : Z.RightS ts ti ix foot = true) (hr : dB r = true) (L : List Int) (loc : Int) (hv : ∀ v ∈ L, -93599 ≤ v ∧ v ≤ 93599) (hL : L.length ≤ 2000) (hl : -1000000000000000000 ≤ loc ∧ loc ≤ 1000000000000000000) : ∀ (k m : Nat) (acc : List Int), k ≤ L.length → k < m → acc.length + k ≤ 4000 →
 aV n m ((k : Int) - 1) L loc acc (ts.map Z.cT) ti ix foot r.std r.dst r.off r.doff r.a.k r.a.m r.a.w r.a.d r.a.t r.b.k r.b.m r.b.w r.b.d r.b.t = some ((L.take k).reverse.foldl (kw (jq n ts ti ix foot r) loc) acc)
 | 0, m + 1, acc, _, _, _ => by
  simp only [aV, dG]
  rw [ah (by omega)]
  simp
 | k + 1, m + 1, acc, hk, hm, ha => by
  have hk2 : k < L.length := by omega
  simp only [aV, dG]
  rw [aa (by omega), aa (by omega), show (((k + 1 : Nat) : Int) - 1).toNat = k by omega, List.getElem?_eq_getElem hk2]
  simp only [Option.bind_some]
  rw [WL n hn ts ti ix foot r hR hr _ _ loc acc (hv _ (List.getElem_mem hk2)) hl (by omega)]
  simp only [Option.bind_some]
  rw [wi _ (by omega) (by omega), show (((k + 1 : Nat) : Int) - 1 - 1) = (k : Int) - 1 by omega]
  have := Ph (jq n ts ti ix foot r) loc acc L[k]
  rw [QK n hn ts ti ix foot r hR hr L loc hv hL hl k m _ (by omega) (by omega) (by omega), List.take_succ_eq_append_getElem hk2, List.reverse_append]
  rfl
end Go.Proofs.YtiegmpnagcdgoaaGreatDoor.H
namespace Go.Proofs.YtiegmpnagcdgoaaGreatDoor.H
open Go.Sh Go.RowKit
set_option linter.unusedSimpArgs false
set_option linter.unusedVariables false
theorem ZM {ts : List Z.Ty} {ti ix : List Int} {foot : Str} {r : RuleV} (hR : Z.RightS ts ti ix foot = true) (hr : dB r = true) : ∀ v ∈ qV [] (qX ts (some r)), -93599 ≤ v ∧ v ≤ 93599 := by
 obtain ⟨_, _, _, _, _, h6, _, _⟩ := Z.right_parts hR
 obtain ⟨_, g2, g3, g4⟩ := Bw hr
 intro v hv
 rw [D6] at hv
 rcases hv with hv | hv
 ·simp at hv
 ·unfold qX at hv
  rcases List.mem_append.1 hv with hv | hv
  ·obtain ⟨t, ht, rfl⟩ := List.mem_map.1 hv
   have h4 := List.all_eq_true.1 h6 t ht
   unfold Z.okT at h4
   simp only [Bool.and_eq_true, Bool.not_eq_true', decide_eq_false_iff_not] at h4
   omega
  ·simp only at hv
   rcases List.mem_cons.1 hv with rfl | hv
   ·omega
   ·split at hv
    ·simp at hv
    ·rename_i hd
     rw [List.mem_singleton.1 hv]
     rcases g4 with ⟨g4, _⟩ | ⟨_, _, g5, g6, _⟩
     ·exact absurd g4 hd
     ·omega
theorem Tv (ts : List Z.Ty) (r : RuleV) (h : ts.length ≤ 255) : (qV [] (qX ts (some r))).length ≤ 2000 := by
 have h1 := MU (qX ts (some r)) []
 have h2 : (qX ts (some r)).length ≤ ts.length + 2 := by
  unfold qX
  simp only
  split <;> simp
 simp only [List.length_nil] at h1
 omega
theorem MV (n : Nat) (hn : 20000 < n) (ts : List Z.Ty) (ti ix : List Int) (foot : Str) (r : RuleV) (hR : Z.RightS ts ti ix foot = true) (hr : dB r = true) (a0 a1 a2 a3 a4 a5 a6 loc : Int) (hm : bq n a0 a1 a2 a3 a4 a5 a6 = some (loc, 0)) (hl : -1000000000000000000 ≤ loc ∧ loc ≤ 1000000000000000000) :
 dH n a0 a1 a2 a3 a4 a5 a6 (ts.map Z.cT) ti ix foot r.std r.dst r.off r.doff r.a.k r.a.m r.a.w r.a.d r.a.t r.b.k r.b.m r.b.w r.b.d r.b.t = some ((qV [] (qX ts (some r))).reverse.foldl (kw (jq n ts ti ix foot r) loc) [], 0) := by
 obtain ⟨_, h2, _, _, _, _, _, _⟩ := Z.right_parts hR
 have hlen := Tv ts r h2
 unfold dH kg
 rw [hm]
 simp only [Option.bind_some, bne_self_eq_false, cond_false]
 rw [UD n (by omega) ts ti ix foot r hR hr]
 simp only [Option.bind_some, dz, eO, mG, iH]
 rw [wi _ (by omega) (by omega), QK n hn ts ti ix foot r hR hr _ loc (ZM hR hr) hlen hl (qV [] (qX ts (some r))).length n [] (Nat.le_refl _) (by omega) (by simp only [List.length_nil]; omega)]
 simp only [Option.bind_some, List.take_length]
end Go.Proofs.YtiegmpnagcdgoaaGreatDoor.H
namespace Go.Proofs.YtiegmpnagcdgoaaGreatDoor.H
open Go.Sh Go.RowKit
set_option linter.unusedSimpArgs false
set_option linter.unusedVariables false
theorem Tw (ts : List Z.Ty) (h : ts.length ≤ 255) : (qV [] (qX ts none)).length ≤ 2000 := by
 have h1 := MU (qX ts none) []
 have h2 : (qX ts none).length = ts.length := by simp [qX]
 simp only [List.length_nil] at h1
 omega
end Go.Proofs.YtiegmpnagcdgoaaGreatDoor.H
namespace Go.Proofs.YtiegmpnagcdgoaaGreatDoor.H
open Go.Sh Go.RowKit
set_option linter.unusedSimpArgs false
set_option linter.unusedVariables false
def nC (n : Nat) (ts : List Z.Ty) (ti ix : List Int) (foot : Str) (sec : Int) : Int := (au n (ts.map Z.cT) ti ix foot [] [] 0 0 0 0 0 0 0 0 0 0 0 0 false false sec).getD 0
theorem GL (n : Nat) (hn : 20000 < n) (ts : List Z.Ty) (ti ix : List Int) (foot : Str) (hR : Z.RightS ts ti ix foot = true) (sec : Int) :
 bZ n sec (ts.map Z.cT) ti ix foot = some (nC n ts ti ix foot sec) := by
 obtain ⟨d, e1, e2⟩ := AB n hn ts ti ix foot [] [] 0 0 0 0 0 0 0 0 0 0 0 0 hR sec
 rw [e1, nC, e2]
 rfl
theorem WM (n : Nat) (hn : 20000 < n) (ts : List Z.Ty) (ti ix : List Int) (foot : Str) (hR : Z.RightS ts ti ix foot = true) (i v loc : Int) (acc : List Int) (hv : -93599 ≤ v ∧ v ≤ 93599) (hl : -1000000000000000000 ≤ loc ∧ loc ≤ 1000000000000000000) (ha : acc.length ≤ 5000) :
 lg n i v loc acc (ts.map Z.cT) ti ix foot  = some (kw (nC n ts ti ix foot) loc acc v) := by
 unfold lg kZ kw
 rw [wi (v * 1000000) (by omega) (by omega), wi (loc - v * 1000000) (by omega) (by omega)]
 by_cases c1 : loc - v * 1000000 ≥ -10000000000000000
 ·rw [aa c1]
  by_cases c2 : loc - v * 1000000 ≤ 100000000000000000
  ·rw [aa c2, Bz n _ (by omega)]
   simp only [Option.bind_some]
   rw [GL n hn ts ti ix foot hR]
   simp only [Option.bind_some]
   by_cases c3 : nC n ts ti ix foot ((loc - v * 1000000) / 1000000) = v
   ·rw [show (nC n ts ti ix foot ((loc - v * 1000000) / 1000000) == v) = true by simpa using c3, cond_true, aa (by simp only [List.length_cons, List.length_nil]; omega), if_pos ⟨c1, c2, c3⟩]
   ·rw [show (nC n ts ti ix foot ((loc - v * 1000000) / 1000000) == v) = false by simpa using c3, cond_false, if_neg (fun h => c3 h.2.2)]
  ·rw [ah c2, if_neg (fun h => c2 h.2.1)]
 ·rw [ah c1, if_neg (fun h => c1 h.1)]
theorem QL (n : Nat) (hn : 20000 < n) (ts : List Z.Ty) (ti ix : List Int) (foot : Str) (hR : Z.RightS ts ti ix foot = true) (L : List Int) (loc : Int) (hv : ∀ v ∈ L, -93599 ≤ v ∧ v ≤ 93599) (hL : L.length ≤ 2000) (hl : -1000000000000000000 ≤ loc ∧ loc ≤ 1000000000000000000) : ∀ (k m : Nat) (acc : List Int), k ≤ L.length → k < m → acc.length + k ≤ 4000 →
 aW n m ((k : Int) - 1) L loc acc (ts.map Z.cT) ti ix foot  = some ((L.take k).reverse.foldl (kw (nC n ts ti ix foot) loc) acc)
 | 0, m + 1, acc, _, _, _ => by
  simp only [aW, dJ]
  rw [ah (by omega)]
  simp
 | k + 1, m + 1, acc, hk, hm, ha => by
  have hk2 : k < L.length := by omega
  simp only [aW, dJ]
  rw [aa (by omega), aa (by omega), show (((k + 1 : Nat) : Int) - 1).toNat = k by omega, List.getElem?_eq_getElem hk2]
  simp only [Option.bind_some]
  rw [WM n hn ts ti ix foot hR _ _ loc acc (hv _ (List.getElem_mem hk2)) hl (by omega)]
  simp only [Option.bind_some]
  rw [wi _ (by omega) (by omega), show (((k + 1 : Nat) : Int) - 1 - 1) = (k : Int) - 1 by omega]
  have := Ph (nC n ts ti ix foot) loc acc L[k]
  rw [QL n hn ts ti ix foot hR L loc hv hL hl k m _ (by omega) (by omega) (by omega), List.take_succ_eq_append_getElem hk2, List.reverse_append]
  rfl
theorem ZN {ts : List Z.Ty} {ti ix : List Int} {foot : Str} (hR : Z.RightS ts ti ix foot = true) : ∀ v ∈ qV [] (qX ts none), -93599 ≤ v ∧ v ≤ 93599 := by
 obtain ⟨_, _, _, _, _, h6, _, _⟩ := Z.right_parts hR
 intro v hv
 rw [D6] at hv
 rcases hv with hv | hv
 ·simp at hv
 ·unfold qX at hv
  rcases List.mem_append.1 hv with hv | hv
  ·obtain ⟨t, ht, rfl⟩ := List.mem_map.1 hv
   have h4 := List.all_eq_true.1 h6 t ht
   unfold Z.okT at h4
   simp only [Bool.and_eq_true, Bool.not_eq_true', decide_eq_false_iff_not] at h4
   omega
  ·simp at hv
theorem WN (n : Nat) (hn : 20000 < n) (ts : List Z.Ty) (ti ix : List Int) (foot : Str) (hR : Z.RightS ts ti ix foot = true) (a0 a1 a2 a3 a4 a5 a6 loc : Int) (hm : bq n a0 a1 a2 a3 a4 a5 a6 = some (loc, 0)) (hl : -1000000000000000000 ≤ loc ∧ loc ≤ 1000000000000000000) :
 dK n a0 a1 a2 a3 a4 a5 a6 (ts.map Z.cT) ti ix foot  = some ((qV [] (qX ts none)).reverse.foldl (kw (nC n ts ti ix foot) loc) [], 0) := by
 obtain ⟨_, h2, _, _, _, _, _, _⟩ := Z.right_parts hR
 have hlen := Tw ts h2
 unfold dK kr
 rw [hm]
 simp only [Option.bind_some, bne_self_eq_false, cond_false]
 rw [UC n (by omega) ts ti ix foot hR]
 simp only [Option.bind_some, dz, eO, mH, iI]
 rw [wi _ (by omega) (by omega), QL n hn ts ti ix foot hR _ loc (ZN hR) hlen hl (qV [] (qX ts none)).length n [] (Nat.le_refl _) (by omega) (by simp only [List.length_nil]; omega)]
 simp only [Option.bind_some, List.take_length]
theorem WO (n : Nat) (hn : 20000 < n) (a0 a1 a2 a3 a4 a5 a6 loc : Int) (hm : bq n a0 a1 a2 a3 a4 a5 a6 = some (loc, 0)) (hl : -1000000000000000000 ≤ loc ∧ loc ≤ 1000000000000000000) :
 eG n a0 a1 a2 a3 a4 a5 a6 = some (kw (fun _ => 0) loc [] 0, 0) := by
 obtain ⟨m, rfl⟩ : ∃ m, n = m + 2 := ⟨n - 2, by omega⟩
 unfold eG mE
 rw [hm]
 have hr : jC (m + 2) 0 0 loc [] = some (kw (fun _ => 0) loc [] 0) := by
  unfold jC ni kw
  rw [wi (0 * 1000000) (by omega) (by omega), wi (loc - 0 * 1000000) (by omega) (by omega)]
  by_cases c1 : loc - 0 * 1000000 ≥ -10000000000000000
  ·rw [aa c1]
   by_cases c2 : loc - 0 * 1000000 ≤ 100000000000000000
   ·rw [aa c2, Bz _ _ (by omega)]
    simp only [Option.bind_some]
    rw [show ((0 : Int) == 0) = true from rfl, cond_true, if_pos ⟨c1, c2, trivial⟩]
    rfl
   ·rw [ah c2, if_neg (fun h => c2 h.2.1)]
  ·rw [ah c1, if_neg (fun h => c1 h.1)]
 simp only [Option.bind_some, bne_self_eq_false, cond_false]
 rw [show xg (m + 2) = some [0] from by kernel_rfl]
 simp only [Option.bind_some, dz, eO, ou, jG]
 rw [show bO (m + 2) (m + 2) (IntKind.i64.wrap (([0] : List Int).length - 1)) [0] loc [] = ((jC (m + 2) 0 0 loc []).bind fun o => bO (m + 2) (m + 1) (-1) [0] loc o) from by kernel_rfl, hr]
 rfl
end Go.Proofs.YtiegmpnagcdgoaaGreatDoor.H
namespace Go.Proofs.YtiegmpnagcdgoaaGreatDoor.H
open Go.Sh Go.RowKit
set_option linter.unusedVariables false
set_option linter.unusedSimpArgs false
set_option maxHeartbeats 4000000
set_option maxRecDepth 100000
end Go.Proofs.YtiegmpnagcdgoaaGreatDoor.H
namespace Go.Proofs.YtiegmpnagcdgoaaGreatDoor.H
open Go.Sh Go.RowKit
set_option linter.unusedSimpArgs false
set_option linter.unusedVariables false
section
variable (n loc : Int) (f : Int → Int) (p0 : List (List AV)) (p1 p2 : List Int) (p3 p4 p5 : Str) (p6 p7 p8 p9 p10 p11 p12 p13 p14 p15 p16 p17 : Int) (p18 p19 : Bool)
end
theorem aa6 (n : Nat) (hn : 20000 < n) (ts : List Z.Ty) (ti ix : List Int) (foot : Str) (r : RuleV) (hR : Z.RightS ts ti ix foot = true) (hr : dB r = true) (u : Int) (hu : -1000000000000000000 ≤ u ∧ u ≤ 1000000000000000000) :
 aI n (ts.map Z.cT) ti ix foot r.std r.dst r.off r.doff r.a.k r.a.m r.a.w r.a.d r.a.t r.b.k r.b.m r.b.w r.b.d r.b.t true false u = some (u + jq n ts ti ix foot r (u / 1000000) * 1000000) := by
 obtain ⟨l1, l2⟩ := qW hr
 obtain ⟨d, e1, e2⟩ := AA n hn ts ti ix foot r hR l1 l2 (u / 1000000)
 have hd := Rq n hn ts ti ix foot r hR hr (u / 1000000) e2
 unfold aI bW jq
 rw [iA n u (by omega)]
 simp only [Option.bind_some]
 rw [e2]
 simp only [Option.bind_some, Option.getD_some]
 rw [wi (d * 1000000) (by omega) (by omega), wi (u + d * 1000000) (by omega) (by omega)]
theorem aa7 (n : Nat) (hn : 20000 < n) (ts : List Z.Ty) (ti ix : List Int) (foot : Str) (hR : Z.RightS ts ti ix foot = true) (u : Int) (hu : -1000000000000000000 ≤ u ∧ u ≤ 1000000000000000000) :
 aI n (ts.map Z.cT) ti ix foot [] [] 0 0 0 0 0 0 0 0 0 0 0 0 false false u = some (u + nC n ts ti ix foot (u / 1000000) * 1000000) := by
 obtain ⟨d, e1, e2⟩ := AB n hn ts ti ix foot [] [] 0 0 0 0 0 0 0 0 0 0 0 0 hR (u / 1000000)
 have hd := Rs n hn ts ti ix foot _ _ _ _ _ _ _ _ _ _ _ _ _ _ hR (u / 1000000) e2
 unfold aI bW nC
 rw [iA n u (by omega)]
 simp only [Option.bind_some]
 rw [e2]
 simp only [Option.bind_some, Option.getD_some]
 rw [wi (d * 1000000) (by omega) (by omega), wi (u + d * 1000000) (by omega) (by omega)]
theorem aa8 (n : Nat) (u : Int) (hu : -1000000000000000000 ≤ u ∧ u ≤ 1000000000000000000) :
 aI n [] [] [] [] [] [] 0 0 0 0 0 0 0 0 0 0 0 0 false true u = some (u + (fun _ => 0) (u / 1000000) * 1000000) := by
 unfold aI bW
 rw [iA n u (by omega)]
 simp only [Option.bind_some]
 rw [show au n [] [] [] [] [] [] 0 0 0 0 0 0 0 0 0 0 0 0 false true (u / 1000000) = some 0 from by kernel_rfl]
 simp only [Option.bind_some]
 rw [wi (0 * 1000000) (by omega) (by omega), wi (u + 0 * 1000000) (by omega) (by omega)]
end Go.Proofs.YtiegmpnagcdgoaaGreatDoor.H
namespace Go.Proofs.YtiegmpnagcdgoaaGreatDoor.H
open Go.Sh Go.RowKit
set_option linter.unusedSimpArgs false
set_option linter.unusedVariables false
def foot0 : Str := [67, 69, 84, 45, 49, 67, 69, 83, 84, 44, 77, 51, 46, 53, 46, 48, 44, 77, 49, 48, 46, 53, 46, 48, 47, 51]
def rule0 : RuleV := ⟨[67, 69, 84], [67, 69, 83, 84], 3600, 7200, ⟨3, 3, 5, 0, 7200⟩, ⟨3, 10, 5, 0, 10800⟩⟩
def ts0 : List Z.Ty := [(0, false, [88])]
theorem YN : Il foot0 = some rule0 := by kernel_rfl
theorem UE : Z.RightS ts0 [] [] foot0 = true := by decide +kernel
theorem Rt : dB rule0 = true := by decide +kernel
theorem abg (n : Nat) : fT n 0 = some (1970, 1, 1, 0, 0, 0, 0, 0) := by kernel_rfl
theorem abh (n : Nat) : bq n 2026 3 29 2 30 0 0 = some (1774751400000000, 0) := by kernel_rfl
theorem abj (n : Nat) : bq n 2026 10 25 2 30 0 0 = some (1792895400000000, 0) := by kernel_rfl
theorem WP (n : Nat) (hn : 20000 < n) (sec v : Int) (hy : InYear 2026 ((ja (ja sec) + rule0.off) / 86400)) (hv : (Jk rule0 (ja (ja sec)) 2026).1 = v) : jq n ts0 [] [] foot0 rule0 sec = v := by
 unfold jq au aT
 rw [cond_false, show ((([] : List Int).length : Int)) = ((([] : List Int).length : Nat) : Int) from rfl, JM n _ _ [] _ _ _ _ _ _ _ _ _ _ _ _ _ _ _ _ _ (by simp)]
 simp only [Option.bind_some]
 rw [show ∀ t, Nt [] t = true from fun _ => rfl, cond_true]
 obtain ⟨y, h1, h2, h3, h4⟩ := rat_val n rule0 (ja sec) hn Rt (by decide)
 have : y = 2026 := h1.one (by omega) (by omega) hy
 subst this
 have h5 : dQ n rule0.std rule0.dst rule0.off rule0.doff rule0.a.k rule0.a.m rule0.a.w rule0.a.d rule0.a.t rule0.b.k rule0.b.m rule0.b.w rule0.b.d rule0.b.t (if (-10000000000 : Int) < (if sec < (100000000000 : Int) then sec else (100000000000 : Int)) then (if sec < (100000000000 : Int) then sec else (100000000000 : Int)) else (-10000000000 : Int)) = some (Jk rule0 (ja (ja sec)) 2026) := h4
 rw [h5]
 exact hv
theorem aa9 : qV [] (qX ts0 (some rule0)) = [0, 3600, 7200] := by decide +kernel
theorem WQ (n : Nat) (hn : 20000 < n) : bE n = some true := by
 unfold bE oC
 rw [abg]
 simp only [Option.bind_some]
 have hnew := Vr n (by omega) ts0 [] [] foot0
 rw [if_pos UE, if_neg (by decide), YN] at hnew
 have h1 := MV n hn ts0 [] [] foot0 rule0 UE Rt 2026 3 29 2 30 0 0 _ (abh n) (by omega)
 have h2 := MV n hn ts0 [] [] foot0 rule0 UE Rt 2026 10 25 2 30 0 0 _ (abj n) (by omega)
 rw [aa9, show [(0 : Int), 3600, 7200].reverse = [7200, 3600, 0] from rfl] at h1 h2
 simp only [List.foldl_cons, List.foldl_nil] at h1 h2
 have a1 : kw (jq n ts0 [] [] foot0 rule0) 1774751400000000 [] 7200 = [] := by
  unfold kw
  rw [show ((1774751400000000 : Int) - 7200 * 1000000) / 1000000 = 1774744200 from by decide, WP n hn 1774744200 3600 (by unfold InYear; decide +kernel) (by decide +kernel)]
  decide
 have a2 : kw (jq n ts0 [] [] foot0 rule0) 1774751400000000 [] 3600 = [] := by
  unfold kw
  rw [show ((1774751400000000 : Int) - 3600 * 1000000) / 1000000 = 1774747800 from by decide, WP n hn 1774747800 7200 (by unfold InYear; decide +kernel) (by decide +kernel)]
  decide
 have a3 : kw (jq n ts0 [] [] foot0 rule0) 1774751400000000 [] 0 = [] := by
  unfold kw
  rw [show ((1774751400000000 : Int) - 0 * 1000000) / 1000000 = 1774751400 from by decide, WP n hn 1774751400 7200 (by unfold InYear; decide +kernel) (by decide +kernel)]
  decide
 have b1 : kw (jq n ts0 [] [] foot0 rule0) 1792895400000000 [] 7200 = [1792888200000000] := by
  unfold kw
  rw [show ((1792895400000000 : Int) - 7200 * 1000000) / 1000000 = 1792888200 from by decide, WP n hn 1792888200 7200 (by unfold InYear; decide +kernel) (by decide +kernel)]
  decide
 have b2 : kw (jq n ts0 [] [] foot0 rule0) 1792895400000000 [1792888200000000] 3600 = [1792888200000000, 1792891800000000] := by
  unfold kw
  rw [show ((1792895400000000 : Int) - 3600 * 1000000) / 1000000 = 1792891800 from by decide, WP n hn 1792891800 3600 (by unfold InYear; decide +kernel) (by decide +kernel)]
  decide
 have b3 : kw (jq n ts0 [] [] foot0 rule0) 1792895400000000 [1792888200000000, 1792891800000000] 0 = [1792888200000000, 1792891800000000] := by
  unfold kw
  rw [show ((1792895400000000 : Int) - 0 * 1000000) / 1000000 = 1792895400 from by decide, WP n hn 1792895400 3600 (by unfold InYear; decide +kernel) (by decide +kernel)]
  decide
 rw [a1, a2, a3] at h1
 rw [b1, b2, b3] at h2
 have hn2 : Bn n ([[.int .i64 (0 : Int), .bool false, .str ([88] : Str)]] : List (List AV)) ([] : List Int) ([] : List Int) foot0 = _ := hnew
 have hf : ([67, 69, 84, 45, 49, 67, 69, 83, 84, 44, 77, 51, 46, 53, 46, 48, 44, 77, 49, 48, 46, 53, 46, 48, 47, 51] : Str) = foot0 := rfl
 rw [hf, hn2]
 simp only [Option.bind_some, Sum.elim_inr, Sum.elim_inl]
 rw [h1]
 simp only [Option.bind_some]
 rw [h2]
 rfl
end Go.Proofs.YtiegmpnagcdgoaaGreatDoor.H
namespace Go.Proofs.YtiegmpnagcdgoaaGreatDoor.H
open Go.Sh Go.RowKit
set_option linter.unusedSimpArgs false
set_option linter.unusedVariables false
theorem Pi (f : Int → Int) (loc : Int) : ∀ (L acc : List Int), (L.foldl (kw f loc) acc).length ≤ acc.length + L.length
 | [], acc => by simp
 | v :: L, acc => by
  have h1 := Pi f loc L (kw f loc acc v)
  have h2 := Ph f loc acc v
  simp only [List.foldl_cons, List.length_cons]
  omega
theorem aaF (n : Nat) (a0 a1 a2 a3 a4 a5 a6 x e : Int) (hm : bq n a0 a1 a2 a3 a4 a5 a6 = some (x, e)) (he : e ≠ 0) : eG n a0 a1 a2 a3 a4 a5 a6 = some ([], e) := by
 unfold eG mE
 rw [hm]
 simp only [Option.bind_some]
 rw [show (e != 0) = true by simpa using he, cond_true]
theorem aaG (n : Nat) (a0 a1 a2 a3 a4 a5 a6 x e : Int) (hm : bq n a0 a1 a2 a3 a4 a5 a6 = some (x, e)) (he : e ≠ 0) (h0 : List (List AV)) (h1 h2 : List Int) (h3 h4 h5 : Str) (h6 h7 h8 h9 h10 h11 h12 h13 h14 h15 h16 h17 : Int) :
 dH n a0 a1 a2 a3 a4 a5 a6 h0 h1 h2 h3 h4 h5 h6 h7 h8 h9 h10 h11 h12 h13 h14 h15 h16 h17 = some ([], e) := by
 unfold dH kg
 rw [hm]
 simp only [Option.bind_some]
 rw [show (e != 0) = true by simpa using he, cond_true]
theorem aaH (n : Nat) (a0 a1 a2 a3 a4 a5 a6 x e : Int) (hm : bq n a0 a1 a2 a3 a4 a5 a6 = some (x, e)) (he : e ≠ 0) (h0 : List (List AV)) (h1 h2 : List Int) (h3 : Str) :
 dK n a0 a1 a2 a3 a4 a5 a6 h0 h1 h2 h3 = some ([], e) := by
 unfold dK kr
 rw [hm]
 simp only [Option.bind_some]
 rw [show (e != 0) = true by simpa using he, cond_true]
end Go.Proofs.YtiegmpnagcdgoaaGreatDoor.H
namespace Go.Proofs.YtiegmpnagcdgoaaGreatDoor.H
open Go.Sh Go.RowKit
set_option linter.unusedSimpArgs false
set_option linter.unusedVariables false
theorem ZO (n : Nat) (a : Int) (h : -700000 ≤ a ∧ a ≤ 2900000) : ∃ y m d, rQ n a = some (y, m, d, 0) ∧ (1 ≤ y ∧ y ≤ 9999) ∧ (1 ≤ m ∧ m ≤ 12) ∧ (1 ≤ d ∧ d ≤ uP y m) ∧ oJ y m d = a := by
 unfold rQ Bo
 rw [yU, uS, Ay n 1 1 1 (by omega) (by omega) (by omega), Ay n 9999 12 31 (by omega) (by omega) (by omega), Jj, KQ]
 simp only [Option.bind_some]
 rw [ah (by omega), decide_eq_false (by omega)]
 simp only [Option.bind_some, cond_false]
 rw [wi (a + 719468) (by omega) (by omega), tm0 (show (0 : Int) ≤ a + 719468 by omega), td0 (show (0 : Int) ≤ a + 719468 by omega)]
 obtain ⟨k, hk⟩ : ∃ k : Nat, (a + 719468) % 146097 = (k : Int) := ⟨((a + 719468) % 146097).toNat, by omega⟩
 obtain ⟨q, hq⟩ : ∃ q : Nat, (a + 719468) / 146097 = (q : Int) := ⟨((a + 719468) / 146097).toNat, by omega⟩
 have hkq : a + 719468 = 146097 * (q : Int) + (k : Int) := by omega
 have hkl : k < 146097 := by omega
 have hql : q < 30 := by omega
 rw [hk, hq]
 obtain ⟨y1, y2, y3⟩ := Tc k hkl
 have hY : IntKind.i64.wrap (Int.tdiv (IntKind.i64.wrap (IntKind.i64.wrap (IntKind.i64.wrap ((k : Int) - IntKind.i64.wrap (Int.tdiv (k : Int) 1460)) + IntKind.i64.wrap (Int.tdiv (k : Int) 36524)) - IntKind.i64.wrap (Int.tdiv (k : Int) 146096))) 365) = ((Az k / 365 : Nat) : Int) := by
  simp (disch := omega) only [wi, td0]
  unfold Az
  omega
 rw [hY]
 generalize Az k / 365 = Y at *
 have hR : IntKind.i64.wrap ((k : Int) - IntKind.i64.wrap (IntKind.i64.wrap (IntKind.i64.wrap (365 * (Y : Int)) + IntKind.i64.wrap (Int.tdiv (Y : Int) 4)) - IntKind.i64.wrap (Int.tdiv (Y : Int) 100))) = (k : Int) - ((kG Y : Nat) : Int) := by
  simp (disch := omega) only [wi, td0]
  unfold kG
  omega
 rw [hR]
 have hYS : ∀ Z : Nat, Z ≤ 400 → mO (400 * (q : Int) + (Z : Int) + 1) = 146097 * (q : Int) + ((kG Z : Nat) : Int) + (if Z = 400 then 1 else 0) + 306 - 719468 := by
  intro Z hZ
  rw [Me]
  unfold kG
  split <;> omega
 have hpos : 1 ≤ 400 * (q : Int) + (Y : Int) := by
  by_cases h0 : Y = 0
  ·by_cases hq0 : q = 0
   ·have h1 := y3 (by omega)
    rw [h0] at h1
    have : kG (0 + 1) = 365 := by decide +kernel
    omega
   ·omega
  ·omega
 have hb0 := hYS Y (by omega)
 rw [if_neg (by omega)] at hb0
 have hmon : IntKind.i64.wrap (Int.tdiv (IntKind.i64.wrap (IntKind.i64.wrap (5 * ((k : Int) - ((kG Y : Nat) : Int))) + 2)) 153) = (5 * ((k : Int) - ((kG Y : Nat) : Int)) + 2) / 153 := by
  have hup : (k : Int) - ((kG Y : Nat) : Int) ≤ 400 := by
   by_cases h9 : Y < 399
   ·have := y3 h9
    have : kG (Y + 1) ≤ kG Y + 366 := by unfold kG; omega
    omega
   ·have : Y = 399 := by omega
    subst this
    have : kG 399 = 145731 := by decide +kernel
    omega
  simp (disch := omega) only [wi, td0]
 rw [hmon]
 have hR0 : 0 ≤ (k : Int) - ((kG Y : Nat) : Int) := by omega
 have hR366 : (k : Int) - ((kG Y : Nat) : Int) ≤ 366 := by
  by_cases h9 : Y < 399
  ·have := y3 h9
   have : kG (Y + 1) ≤ kG Y + 366 := by unfold kG; omega
   omega
  ·have : Y = 399 := by omega
   subst this
   have : kG 399 = 145731 := by decide +kernel
   omega
 generalize hRR : (k : Int) - ((kG Y : Nat) : Int) = R at *
 have hyear : IntKind.i64.wrap (IntKind.i64.wrap ((q : Int) * 400) + (Y : Int)) = 400 * (q : Int) + (Y : Int) := by
  simp (disch := omega) only [wi]
  omega
 rw [wi (q : Int) (by omega) (by omega), hyear]
 rw [wi ((5 * R + 2) / 153 + 2) (by omega) (by omega), tm0 (show (0 : Int) ≤ (5 * R + 2) / 153 + 2 by omega), wi (((5 * R + 2) / 153 + 2) % 12 + 1) (by omega) (by omega)]
 have hyb : 400 * (q : Int) + (Y : Int) ≤ 9990 := by unfold kG at hRR; omega
 have hleap : R ≤ 365 ∧ (R = 365 → xV (400 * (q : Int) + (Y : Int) + 1) = true) := by
  by_cases h9 : Y < 399
  ·have h1 := y3 h9
   unfold kG at h1 hRR
   have g1 : Y / 100 ≤ (Y + 1) / 100 := by omega
   have g2 : (Y + 1) % 4 ≠ 0 → (Y + 1) / 4 = Y / 4 := by omega
   have g3 : (Y + 1) % 100 = 0 → (Y + 1) / 100 = Y / 100 + 1 := by omega
   have g4 : (Y + 1) / 4 ≤ Y / 4 + 1 := by omega
   have g5 : Y / 100 ≤ 365 * Y + Y / 4 := by omega
   have g6 : (Y + 1) / 100 ≤ 365 * (Y + 1) + (Y + 1) / 4 := by omega
   refine ⟨by omega, fun h2 => ?_⟩
   have c1 : (Y + 1) % 4 = 0 := by
    by_cases hc : (Y + 1) % 4 = 0
    ·exact hc
    ·have := g2 hc; omega
   have c2 : (Y + 1) % 100 ≠ 0 := fun hc => by have := g3 hc; omega
   rw [JH]
   exact ⟨by omega, .inl (by omega)⟩
  ·have : Y = 399 := by omega
   subst this
   have h1 : kG 399 = 145731 := by decide +kernel
   rw [h1] at hRR
   refine ⟨by omega, fun h2 => ?_⟩
   rw [JH]
   omega
 have hD : IntKind.i64.wrap (IntKind.i64.wrap (R - IntKind.i64.wrap (Int.tdiv (IntKind.i64.wrap (IntKind.i64.wrap (153 * ((5 * R + 2) / 153)) + 2)) 5)) + 1) = R - (153 * ((5 * R + 2) / 153) + 2) / 5 + 1 := by
  simp (disch := omega) only [wi, td0]
 rw [hD]
 have hM : 0 ≤ (5 * R + 2) / 153 ∧ (5 * R + 2) / 153 ≤ 11 ∧ 153 * ((5 * R + 2) / 153) ≤ 5 * R + 2 ∧ 5 * R + 2 < 153 * ((5 * R + 2) / 153) + 153 := by omega
 generalize (5 * R + 2) / 153 = M at *
 have hdv : 146097 * (q : Int) + ((kG Y : Nat) : Int) + R - 719468 = a := by omega
 by_cases h306 : 10 ≤ M
 ·have hMM : M = 10 ∨ M = 11 := by omega
  have hm : (M + 2) % 12 + 1 ≤ 2 := by rcases hMM with h | h <;> rw [h] <;> decide
  rw [aa hm, wi (400 * (q : Int) + (Y : Int) + 1) (by omega) (by omega)]
  refine ⟨_, _, _, rfl, by omega, by omega, ?_, ?_⟩
  ·rcases hMM with h | h
   ·subst h
    unfold uP
    simp only [show ((10 : Int) + 2) % 12 + 1 = 1 by decide]
    rw [if_neg (by decide), if_neg (by decide)]
    omega
   ·subst h
    unfold uP
    simp only [show ((11 : Int) + 2) % 12 + 1 = 2 by decide]
    rw [if_pos trivial]
    by_cases h5 : R = 365
    ·rw [if_pos (hleap.2 h5)]; omega
    ·split <;> omega
  ·unfold oJ
   rw [if_pos hm]
   have e1 : (400 * (q : Int) + (Y : Int) + 1 - 1) / 400 = q := by omega
   have e2 : (400 * (q : Int) + (Y : Int) + 1 - 1) % 400 = Y := by omega
   have e3 : ((M + 2) % 12 + 1 + 9) % 12 = M := by rcases hMM with h | h <;> subst h <;> decide
   rw [e1, e2, e3]
   unfold kG at hdv
   omega
 ·have hm : ¬ ((M + 2) % 12 + 1 ≤ 2) := by rw [Int.emod_eq_of_lt (by omega) (by omega)]; omega
  have hme : (M + 2) % 12 + 1 = M + 3 := by rw [Int.emod_eq_of_lt (by omega) (by omega)]; omega
  rw [ah hm, hme]
  refine ⟨_, _, _, rfl, by omega, by omega, ?_, ?_⟩
  ·have : M = 0 ∨ M = 1 ∨ M = 2 ∨ M = 3 ∨ M = 4 ∨ M = 5 ∨ M = 6 ∨ M = 7 ∨ M = 8 ∨ M = 9 := by omega
   unfold uP
   rcases this with h | h | h | h | h | h | h | h | h | h <;> subst h <;> simp <;> omega
  ·unfold oJ
   rw [if_neg (by omega)]
   have e1 : (400 * (q : Int) + (Y : Int)) / 400 = q := by omega
   have e2 : (400 * (q : Int) + (Y : Int)) % 400 = Y := by omega
   have e3 : (M + 3 + 9) % 12 = M := by omega
   rw [e1, e2, e3]
   unfold kG at hdv
   omega
theorem D7 (n : Nat) (x : Int) (hx : -60000000000000000 ≤ x ∧ x ≤ 200000000000000000) : ∃ c0 c1 c2 c3 c4 c5 c6, aK n x = some (c0, c1, c2, c3, c4, c5, c6, 0) ∧ bq n c0 c1 c2 c3 c4 c5 c6 = some (x, 0) := by
 obtain ⟨y, m, d, h1, h2, h3, h4, h5⟩ := ZO n (x / 86400000000) (by omega)
 have hl := Fb y m
 have hr : 0 ≤ x % 86400000000 ∧ x % 86400000000 < 86400000000 := by omega
 refine ⟨y, m, d, (x % 86400000000) / 1000000 / 3600, (x % 86400000000) / 1000000 / 60 % 60, (x % 86400000000) / 1000000 % 60, (x % 86400000000) % 1000000, ?_, ?_⟩
 ·unfold aK qM
  rw [Pg n x (by omega)]
  simp only [Option.bind_some]
  rw [h1]
  simp only [Option.bind_some, bne_self_eq_false, cond_false]
  simp (disch := omega) only [wi, td0, tm0]
 ·unfold bq BR ut Ae uT xL
  rw [aa (by omega), Md n y m h2 h3]
  simp only [Option.bind_some]
  rw [decide_eq_true h4.2, Bool.not_true, cond_false, Ay n y m d h2 h3 (by omega), h5]
  simp only [Option.bind_some]
  rw [Af, wS, show ((0 : Int) != 0) = false from rfl, cond_false]
  have hf : ¬ FU false ((x % 86400000000) / 1000000 / 3600) [(x % 86400000000) / 1000000 / 60 % 60, (x % 86400000000) / 1000000 % 60, (x % 86400000000) % 1000000] < 0 := by
   simp only [FU]
   split <;> split <;> split <;> omega
  rw [ah hf, ah (by omega), ah (by split <;> omega), decide_eq_false (by omega)]
  simp only [Option.bind_some, cond_false]
  congr 1
  simp (disch := omega) only [wi]
  congr 1
  omega
end Go.Proofs.YtiegmpnagcdgoaaGreatDoor.H
namespace Go.Proofs.YtiegmpnagcdgoaaGreatDoor.H
open Go.Sh Go.RowKit
set_option linter.unusedSimpArgs false
set_option linter.unusedVariables false
theorem WR {x : Int} (h : 9223372036854775808 ≤ x ∧ x < 18446744073709551616) : IntKind.i64.wrap x = x - 18446744073709551616 := by
 simp [IntKind.wrap, IntKind.bits, IntKind.signed]; omega
theorem UF {x : Int} (h : -18446744073709551616 ≤ x ∧ x < -9223372036854775808) : IntKind.i64.wrap x = x + 18446744073709551616 := by
 simp [IntKind.wrap, IntKind.bits, IntKind.signed]; omega
def Pj (n : Nat) (u d : Int) : Option (Int × Int × Int × Int × Int × Int × Int × Int) :=
 cond ((decide ((IntKind.i64.wrap (u + (IntKind.i64.wrap (d * (1000000 : Int))))) < u)) == (decide ((IntKind.i64.wrap (d * (1000000 : Int))) < (0 : Int)))) (aK n (IntKind.i64.wrap (u + (IntKind.i64.wrap (d * (1000000 : Int)))))) (some ((0 : Int), (0 : Int), (0 : Int), (0 : Int), (0 : Int), (0 : Int), (0 : Int), (6 : Int)))
theorem KU (n : Nat) (u d : Int) (hu : -9223372036854775808 ≤ u ∧ u ≤ 9223372036854775807) (hd : -93599 ≤ d ∧ d ≤ 93599) :
 ∃ o, Pj n u d = some o ∧ ((u < -4611686018427387904 ∨ 4611686018427387904 < u) → o.2.2.2.2.2.2.2 = 6) ∧ (-4611686018427387904 ≤ u ∧ u ≤ 4611686018427387904 → aK n (IntKind.i64.wrap (u + (IntKind.i64.wrap (d * (1000000 : Int))))) = some o) := by
 unfold Pj
 rw [wi (d * 1000000) (by omega) (by omega)]
 by_cases h1 : u + d * 1000000 > 9223372036854775807
 ·rw [WR ⟨by omega, by omega⟩, decide_eq_true (show u + d * 1000000 - 18446744073709551616 < u by omega), decide_eq_false (show ¬ d * 1000000 < 0 by omega)]
  exact ⟨_, rfl, fun _ => rfl, fun h => by omega⟩
 ·by_cases h2 : u + d * 1000000 < -9223372036854775808
  ·rw [UF ⟨by omega, by omega⟩, decide_eq_false (show ¬ u + d * 1000000 + 18446744073709551616 < u by omega), decide_eq_true (show d * 1000000 < 0 by omega)]
   exact ⟨_, rfl, fun _ => rfl, fun h => by omega⟩
  ·rw [wi (u + d * 1000000) (by omega) (by omega)]
   have hc : (decide (u + d * 1000000 < u) == decide (d * 1000000 < 0)) = true := by
    rw [show decide (u + d * 1000000 < u) = decide (d * 1000000 < 0) from decide_eq_decide.2 (by omega)]
    simp
   rw [hc, cond_true]
   obtain ⟨o, e1, e2⟩ := Tp n (u + d * 1000000) (by omega)
   exact ⟨o, e1, fun h => e2 (by omega), fun _ => e1⟩
end Go.Proofs.YtiegmpnagcdgoaaGreatDoor.H
namespace Go.Proofs.YtiegmpnagcdgoaaGreatDoor.H
open Go.Sh Go.RowKit
set_option linter.unusedSimpArgs false
set_option linter.unusedVariables false
theorem UG (n : Nat) (hn : 20000 < n) (ts : List Z.Ty) (ti ix : List Int) (foot : Str) (r : RuleV) (hR : Z.RightS ts ti ix foot = true) (hr : dB r = true) (u : Int) (hu : -9223372036854775808 ≤ u ∧ u ≤ 9223372036854775807) :
 ∃ o : Int × Int × Int × Int × Int × Int × Int × Int, iB n u (ts.map Z.cT) ti ix foot r.std r.dst r.off r.doff r.a.k r.a.m r.a.w r.a.d r.a.t r.b.k r.b.m r.b.w r.b.d r.b.t = some (o.1, o.2.1, o.2.2.1, o.2.2.2.1, o.2.2.2.2.1, o.2.2.2.2.2.1, o.2.2.2.2.2.2.1, o.2.2.2.2.2.2.2) ∧
  ((u < -4611686018427387904 ∨ 4611686018427387904 < u) → o.2.2.2.2.2.2.2 = 6) ∧
  (-4611686018427387904 ≤ u ∧ u ≤ 4611686018427387904 → ∃ x, aI n (ts.map Z.cT) ti ix foot r.std r.dst r.off r.doff r.a.k r.a.m r.a.w r.a.d r.a.t r.b.k r.b.m r.b.w r.b.d r.b.t true false u = some x ∧ aK n x = some o) := by
 obtain ⟨l1, l2⟩ := qW hr
 obtain ⟨d, e1, e2⟩ := AA n hn ts ti ix foot r hR l1 l2 (u / 1000000)
 have hd := Rq n hn ts ti ix foot r hR hr (u / 1000000) e2
 obtain ⟨o, h1, h2, h3⟩ := KU n u d hu hd
 refine ⟨o, ?_, h2, fun h => ⟨_, ?_, h3 h⟩⟩
 ·unfold iB sK
  rw [Bz n u hu]
  simp only [Option.bind_some]
  rw [e1]
  simp only [Option.bind_some]
  unfold Pj at h1
  cases hc : ((decide ((IntKind.i64.wrap (u + (IntKind.i64.wrap (d * (1000000 : Int))))) < u)) == (decide ((IntKind.i64.wrap (d * (1000000 : Int))) < (0 : Int)))) with
  | true =>
   rw [hc, cond_true] at h1
   rw [cond_true, h1]
   rfl
  | false =>
   rw [hc, cond_false] at h1
   injection h1 with h1
   rw [cond_false, ← h1]
 ·unfold aI bW
  rw [iA n u hu]
  simp only [Option.bind_some]
  rw [e2]
  rfl
theorem UH (n : Nat) (hn : 20000 < n) (ts : List Z.Ty) (ti ix : List Int) (foot : Str) (a4 a5 : Str) (a6 a7 a8 a9 a10 a11 a12 a13 a14 a15 a16 a17 : Int) (hR : Z.RightS ts ti ix foot = true) (u : Int) (hu : -9223372036854775808 ≤ u ∧ u ≤ 9223372036854775807) :
 ∃ o : Int × Int × Int × Int × Int × Int × Int × Int, iC n u (ts.map Z.cT) ti ix foot = some (o.1, o.2.1, o.2.2.1, o.2.2.2.1, o.2.2.2.2.1, o.2.2.2.2.2.1, o.2.2.2.2.2.2.1, o.2.2.2.2.2.2.2) ∧
  ((u < -4611686018427387904 ∨ 4611686018427387904 < u) → o.2.2.2.2.2.2.2 = 6) ∧
  (-4611686018427387904 ≤ u ∧ u ≤ 4611686018427387904 → ∃ x, aI n (ts.map Z.cT) ti ix foot a4 a5 a6 a7 a8 a9 a10 a11 a12 a13 a14 a15 a16 a17 false false u = some x ∧ aK n x = some o) := by
 obtain ⟨d, e1, e2⟩ := AB n hn ts ti ix foot a4 a5 a6 a7 a8 a9 a10 a11 a12 a13 a14 a15 a16 a17 hR (u / 1000000)
 have hd := Rs n hn ts ti ix foot _ _ _ _ _ _ _ _ _ _ _ _ _ _ hR (u / 1000000) e2
 obtain ⟨o, h1, h2, h3⟩ := KU n u d hu hd
 refine ⟨o, ?_, h2, fun h => ⟨_, ?_, h3 h⟩⟩
 ·unfold iC sM
  rw [Bz n u hu]
  simp only [Option.bind_some]
  rw [e1]
  simp only [Option.bind_some]
  unfold Pj at h1
  cases hc : ((decide ((IntKind.i64.wrap (u + (IntKind.i64.wrap (d * (1000000 : Int))))) < u)) == (decide ((IntKind.i64.wrap (d * (1000000 : Int))) < (0 : Int)))) with
  | true =>
   rw [hc, cond_true] at h1
   rw [cond_true, h1]
   rfl
  | false =>
   rw [hc, cond_false] at h1
   injection h1 with h1
   rw [cond_false, ← h1]
 ·unfold aI bW
  rw [iA n u hu]
  simp only [Option.bind_some]
  rw [e2]
  rfl
theorem UI (n : Nat) (h0 : List (List AV)) (h1 h2 : List Int) (h3 h4 h5 : Str) (h6 h7 h8 h9 h10 h11 h12 h13 h14 h15 h16 h17 : Int) (h18 : Bool) (u : Int) (hu : -9223372036854775808 ≤ u ∧ u ≤ 9223372036854775807) :
 ∃ o : Int × Int × Int × Int × Int × Int × Int × Int, fT n u = some o ∧
  ((u < -4611686018427387904 ∨ 4611686018427387904 < u) → o.2.2.2.2.2.2.2 = 6) ∧
  (-4611686018427387904 ≤ u ∧ u ≤ 4611686018427387904 → ∃ x, aI n h0 h1 h2 h3 h4 h5 h6 h7 h8 h9 h10 h11 h12 h13 h14 h15 h16 h17 h18 true u = some x ∧ aK n x = some o) := by
 obtain ⟨o, k1, k2, k3⟩ := KU n u 0 hu (by omega)
 refine ⟨o, ?_, k2, fun h => ⟨_, ?_, k3 h⟩⟩
 ·unfold fT vz eX ul
  rw [Bz n u hu]
  simp only [Option.bind_some]
  unfold Pj at k1
  cases hc : ((decide ((IntKind.i64.wrap (u + (IntKind.i64.wrap ((0 : Int) * (1000000 : Int))))) < u)) == (decide ((IntKind.i64.wrap ((0 : Int) * (1000000 : Int))) < (0 : Int)))) with
  | true =>
   rw [hc, cond_true] at k1
   rw [cond_true, k1]
   rfl
  | false =>
   rw [hc, cond_false] at k1
   injection k1 with k1
   rw [cond_false, ← k1]
 ·unfold aI bW au aT
  rw [iA n u hu]
  rfl
end Go.Proofs.YtiegmpnagcdgoaaGreatDoor.H
namespace Go.Proofs.YtiegmpnagcdgoaaGreatDoor.H
open Go.Sh Go.RowKit
set_option linter.unusedVariables false
set_option linter.unusedSimpArgs false
set_option maxHeartbeats 4000000
set_option maxRecDepth 100000
def rV (n : Nat) : FSpec := Nc yD.p (kE n) (Nc vZ.p (iL n) (iM n))
theorem vF (n : Nat) : FSound Tryz.prog 12 (rV n) := yL (jV n) (yL (iW n) (iY n))
def jk (n : Nat) (x2 : Int) (x11 : Bool) (R : Type) (K : (Bool) → Option R) : Option R := cond (!x11) (K true) (cond (decide (x2 < (-2200000000000000 : Int))) (K true) (K (decide (x2 > (10000000000000000 : Int)))))
def bI n x2 x11 := jk n x2 x11 _ some
abbrev nI : PS := ⟨[3, 9], [(2, .n), (11, .b)], none, [⟨.normal, [2, 3, 9], [(45, .b)], [], none⟩], none, none⟩
def nJ (n : Nat) (x13 x15 : Int) (R : Type) (K : (Bool) → Option R) : Option R := cond (x13 != (0 : Int)) (K true) (K (x15 != (0 : Int)))
def bJ n x13 x15 := nJ n x13 x15 _ some
abbrev nK : PS := ⟨[2, 3, 9, 12, 14], [(13, .n), (15, .n)], none, [⟨.normal, [2, 3, 9, 12, 14], [(64, .b)], [], none⟩], none, none⟩
def jl (n : Nat) (x14 : List Int) (x17 x19 h0_0 h0_1 h0_2 h0_3 h0_4 h0_5 h0_6 h1_0 h1_1 h1_2 h1_3 h1_4 h1_5 h1_6 : Int) (R : Type) (K : (Bool) → Option R) : Option R := cond (x19 != (0 : Int)) (K true) (cond (!((h1_0 == h0_0) && ((h1_1 == h0_1) && ((h1_2 == h0_2) && ((h1_3 == h0_3) && ((h1_4 == h0_4) && ((h1_5 == h0_5) && ((h1_6 == h0_6) && true)))))))) (K true) (cond (decide (x17 > (0 : Int))) (cond (decide (0 ≤ x17)) ((x14[x17.toNat]?).bind fun e807 => (cond (decide (0 ≤ (IntKind.i64.wrap (x17 - (1 : Int))))) ((x14[(IntKind.i64.wrap (x17 - (1 : Int))).toNat]?).bind fun e808 => (cond (decide (e807 ≤ e808)) (K true) (cond (decide (0 ≤ x17)) ((x14[x17.toNat]?).bind fun e809 => ((aF n e809 (1000000 : Int)).bind fun o810 => ((eX n o810).bind fun o811 => (cond (decide (0 ≤ (IntKind.i64.wrap (x17 - (1 : Int))))) ((x14[(IntKind.i64.wrap (x17 - (1 : Int))).toNat]?).bind fun e812 => ((aF n e812 (1000000 : Int)).bind fun o813 => ((eX n o813).bind fun o814 => (K true)))) none)))) none))) none)) none) (K false)))
def cK n x14 x17 x19 h0_0 h0_1 h0_2 h0_3 h0_4 h0_5 h0_6 h1_0 h1_1 h1_2 h1_3 h1_4 h1_5 h1_6 := jl n x14 x17 x19 h0_0 h0_1 h0_2 h0_3 h0_4 h0_5 h0_6 h1_0 h1_1 h1_2 h1_3 h1_4 h1_5 h1_6 _ some
abbrev fo : PS := ⟨[2, 3, 16], [(9, .x (.ptr none)), (12, .q 0 0), (14, .l .i64), (17, .n), (18, .q 1 0), (19, .n)], some [.c 47 [.n, .n, .n, .n, .n, .n, .n], .c 47 [.n, .n, .n, .n, .n, .n, .n]], [⟨.normal, [2, 3, 9, 12, 14, 16, 17], [(120, .b)], [.k 0, .k 1], none⟩], none, none⟩
def jm (n : Nat) (x2 x3 : Int) (x14 : List Int) (x16 : Bool) (x17 h0_0 h0_1 h0_2 h0_3 h0_4 h0_5 h0_6 : Int) (R : Type) (K : ((Unit) ⊕ (Bool)) → Option R) : Option R := cond (decide (0 ≤ x17)) ((x14[x17.toNat]?).bind fun e805 => ((fT n e805).bind fun o806 => ((cK n x14 x17 o806.2.2.2.2.2.2.2 h0_0 h0_1 h0_2 h0_3 h0_4 h0_5 h0_6 o806.1 o806.2.1 o806.2.2.1 o806.2.2.2.1 o806.2.2.2.2.1 o806.2.2.2.2.2.1 o806.2.2.2.2.2.2.1).bind fun o815 => (cond o815 (K (Sum.inl ())) (cond x16 (K (Sum.inr true)) (cond (decide (0 ≤ x17)) ((x14[x17.toNat]?).bind fun e816 => (K (Sum.inr (e816 == x2)))) none)))))) none
def cO n x2 x3 x14 x16 x17 h0_0 h0_1 h0_2 h0_3 h0_4 h0_5 h0_6 := jm n x2 x3 x14 x16 x17 h0_0 h0_1 h0_2 h0_3 h0_4 h0_5 h0_6 _ some
abbrev fq : PS := ⟨[], [(2, .n), (3, .i .u32), (9, .x (.ptr none)), (12, .q 0 0), (14, .l .i64), (16, .b), (17, .n)], some [.c 47 [.n, .n, .n, .n, .n, .n, .n]], [⟨.ret, [], [(8, .x (.bool false))], [], (some 0)⟩, ⟨.normal, [2, 3, 9, 12, 14, 17], [(16, .b)], [.k 0], (some 0)⟩], none, none⟩
def bP (n : Nat) (x2 x3 : Int) (x14 : List Int) (x16 : Bool) (x17 h0_0 h0_1 h0_2 h0_3 h0_4 h0_5 h0_6 : Int) (R : Type) (A_ : Int → Int → (List Int) → Bool → Int → Int → Int → Int → Int → Int → Int → Int → Option R) (K : ((Unit) ⊕ (Bool)) → Option R) : Option R := cond (decide (x17 < (x14.length : Int))) ((cO n x2 x3 x14 x16 x17 h0_0 h0_1 h0_2 h0_3 h0_4 h0_5 h0_6).bind fun o817 => (Sum.elim (fun o818 => K (Sum.inl ())) (fun o819 => A_ x2 x3 x14 o819 (IntKind.i64.wrap (x17 + (1 : Int))) h0_0 h0_1 h0_2 h0_3 h0_4 h0_5 h0_6) o817)) (K (Sum.inr x16))
def aP (n : Nat) : Nat → Int → Int → (List Int) → Bool → Int → Int → Int → Int → Int → Int → Int → Int → Option ((Unit) ⊕ (Bool))
 | 0, _, _, _, _, _, _, _, _, _, _, _, _ => none
 | m + 1, x2, x3, x14, x16, x17, h0_0, h0_1, h0_2, h0_3, h0_4, h0_5, h0_6 => bP n x2 x3 x14 x16 x17 h0_0 h0_1 h0_2 h0_3 h0_4 h0_5 h0_6 _ (aP n m) some
abbrev nL : PS := ⟨[], [(2, .n), (3, .i .u32), (9, .x (.ptr none)), (12, .q 0 0), (14, .l .i64), (16, .b), (17, .n)], some [.c 47 [.n, .n, .n, .n, .n, .n, .n]], [⟨.ret, [], [(8, .x (.bool false))], [], (some 0)⟩, ⟨(.exit 0), [2, 3, 9, 12], [(16, .b)], [.k 0], none⟩], none, none⟩
def gY (n : Nat) (x14 : List Int) (x17 x19 : Int) (h0_0 : List (List AV)) (h0_1 h0_2 : List Int) (h0_3 : Str) (h1_0 h1_1 h1_2 h1_3 h1_4 h1_5 h1_6 : Int) (h2_0 h2_1 : Str) (h2_2 h2_3 h2_4 h2_5 h2_6 h2_7 h2_8 h2_9 h2_10 h2_11 h2_12 h2_13 h3_0 h3_1 h3_2 h3_3 h3_4 h3_5 h3_6 : Int) (R : Type) (K : (Bool) → Option R) : Option R := cond (x19 != (0 : Int)) (K true) (cond (!((h3_0 == h1_0) && ((h3_1 == h1_1) && ((h3_2 == h1_2) && ((h3_3 == h1_3) && ((h3_4 == h1_4) && ((h3_5 == h1_5) && ((h3_6 == h1_6) && true)))))))) (K true) (cond (decide (x17 > (0 : Int))) (cond (decide (0 ≤ x17)) ((x14[x17.toNat]?).bind fun e840 => (cond (decide (0 ≤ (IntKind.i64.wrap (x17 - (1 : Int))))) ((x14[(IntKind.i64.wrap (x17 - (1 : Int))).toNat]?).bind fun e841 => (cond (decide (e840 ≤ e841)) (K true) (cond (decide (0 ≤ x17)) ((x14[x17.toNat]?).bind fun e842 => ((aF n e842 (1000000 : Int)).bind fun o843 => ((bY n o843 h0_0 h0_1 h0_2 h0_3 h2_0 h2_1 h2_2 h2_3 h2_4 h2_5 h2_6 h2_7 h2_8 h2_9 h2_10 h2_11 h2_12 h2_13).bind fun o844 => (cond (decide (0 ≤ (IntKind.i64.wrap (x17 - (1 : Int))))) ((x14[(IntKind.i64.wrap (x17 - (1 : Int))).toNat]?).bind fun e845 => ((aF n e845 (1000000 : Int)).bind fun o846 => ((bY n o846 h0_0 h0_1 h0_2 h0_3 h2_0 h2_1 h2_2 h2_3 h2_4 h2_5 h2_6 h2_7 h2_8 h2_9 h2_10 h2_11 h2_12 h2_13).bind fun o847 => (K (o844 == o847))))) none)))) none))) none)) none) (K false)))
def bQ n x14 x17 x19 h0_0 h0_1 h0_2 h0_3 h1_0 h1_1 h1_2 h1_3 h1_4 h1_5 h1_6 h2_0 h2_1 h2_2 h2_3 h2_4 h2_5 h2_6 h2_7 h2_8 h2_9 h2_10 h2_11 h2_12 h2_13 h3_0 h3_1 h3_2 h3_3 h3_4 h3_5 h3_6 := gY n x14 x17 x19 h0_0 h0_1 h0_2 h0_3 h1_0 h1_1 h1_2 h1_3 h1_4 h1_5 h1_6 h2_0 h2_1 h2_2 h2_3 h2_4 h2_5 h2_6 h2_7 h2_8 h2_9 h2_10 h2_11 h2_12 h2_13 h3_0 h3_1 h3_2 h3_3 h3_4 h3_5 h3_6 _ some
abbrev dW : PS := ⟨[2, 3, 16], [(9, .q 0 0), (12, .q 1 0), (14, .l .i64), (17, .n), (18, .q 3 0), (19, .n)], some [.c 82 [.L false 3, .l .i64, .l .i64, .s, .q 2 0], .c 47 [.n, .n, .n, .n, .n, .n, .n], .c 87 [.s, .s, .n, .n, .c, .n, .n, .n, .n, .c, .n, .n, .n, .n], .c 47 [.n, .n, .n, .n, .n, .n, .n]], [⟨.normal, [2, 3, 9, 12, 14, 16, 17], [(120, .b)], [.k 0, .k 1, .k 2, .k 3], none⟩], none, none⟩
def gZ (n : Nat) (x2 x3 : Int) (x14 : List Int) (x16 : Bool) (x17 : Int) (h0_0 : List (List AV)) (h0_1 h0_2 : List Int) (h0_3 : Str) (h1_0 h1_1 h1_2 h1_3 h1_4 h1_5 h1_6 : Int) (h2_0 h2_1 : Str) (h2_2 h2_3 h2_4 h2_5 h2_6 h2_7 h2_8 h2_9 h2_10 h2_11 h2_12 h2_13 : Int) (R : Type) (K : ((Unit) ⊕ (Bool)) → Option R) : Option R := cond (decide (0 ≤ x17)) ((x14[x17.toNat]?).bind fun e838 => ((iB n e838 h0_0 h0_1 h0_2 h0_3 h2_0 h2_1 h2_2 h2_3 h2_4 h2_5 h2_6 h2_7 h2_8 h2_9 h2_10 h2_11 h2_12 h2_13).bind fun o839 => ((bQ n x14 x17 o839.2.2.2.2.2.2.2 h0_0 h0_1 h0_2 h0_3 h1_0 h1_1 h1_2 h1_3 h1_4 h1_5 h1_6 h2_0 h2_1 h2_2 h2_3 h2_4 h2_5 h2_6 h2_7 h2_8 h2_9 h2_10 h2_11 h2_12 h2_13 o839.1 o839.2.1 o839.2.2.1 o839.2.2.2.1 o839.2.2.2.2.1 o839.2.2.2.2.2.1 o839.2.2.2.2.2.2.1).bind fun o848 => (cond o848 (K (Sum.inl ())) (cond x16 (K (Sum.inr true)) (cond (decide (0 ≤ x17)) ((x14[x17.toNat]?).bind fun e849 => (K (Sum.inr (e849 == x2)))) none)))))) none
def bR n x2 x3 x14 x16 x17 h0_0 h0_1 h0_2 h0_3 h1_0 h1_1 h1_2 h1_3 h1_4 h1_5 h1_6 h2_0 h2_1 h2_2 h2_3 h2_4 h2_5 h2_6 h2_7 h2_8 h2_9 h2_10 h2_11 h2_12 h2_13 := gZ n x2 x3 x14 x16 x17 h0_0 h0_1 h0_2 h0_3 h1_0 h1_1 h1_2 h1_3 h1_4 h1_5 h1_6 h2_0 h2_1 h2_2 h2_3 h2_4 h2_5 h2_6 h2_7 h2_8 h2_9 h2_10 h2_11 h2_12 h2_13 _ some
abbrev dX : PS := ⟨[], [(2, .n), (3, .i .u32), (9, .q 0 0), (12, .q 1 0), (14, .l .i64), (16, .b), (17, .n)], some [.c 82 [.L false 3, .l .i64, .l .i64, .s, .q 2 0], .c 47 [.n, .n, .n, .n, .n, .n, .n], .c 87 [.s, .s, .n, .n, .c, .n, .n, .n, .n, .c, .n, .n, .n, .n]], [⟨.ret, [], [(8, .x (.bool false))], [], (some 0)⟩, ⟨.normal, [2, 3, 9, 12, 14, 17], [(16, .b)], [.k 0, .k 1, .k 2], (some 0)⟩], none, none⟩
def dY (n : Nat) (x2 x3 : Int) (x14 : List Int) (x16 : Bool) (x17 : Int) (h0_0 : List (List AV)) (h0_1 h0_2 : List Int) (h0_3 : Str) (h1_0 h1_1 h1_2 h1_3 h1_4 h1_5 h1_6 : Int) (h2_0 h2_1 : Str) (h2_2 h2_3 h2_4 h2_5 h2_6 h2_7 h2_8 h2_9 h2_10 h2_11 h2_12 h2_13 : Int) (R : Type) (A_ : Int → Int → (List Int) → Bool → Int → (List (List AV)) → (List Int) → (List Int) → Str → Int → Int → Int → Int → Int → Int → Int → Str → Str → Int → Int → Int → Int → Int → Int → Int → Int → Int → Int → Int → Int → Option R) (K : ((Unit) ⊕ (Bool)) → Option R) : Option R := cond (decide (x17 < (x14.length : Int))) ((bR n x2 x3 x14 x16 x17 h0_0 h0_1 h0_2 h0_3 h1_0 h1_1 h1_2 h1_3 h1_4 h1_5 h1_6 h2_0 h2_1 h2_2 h2_3 h2_4 h2_5 h2_6 h2_7 h2_8 h2_9 h2_10 h2_11 h2_12 h2_13).bind fun o850 => (Sum.elim (fun o851 => K (Sum.inl ())) (fun o852 => A_ x2 x3 x14 o852 (IntKind.i64.wrap (x17 + (1 : Int))) h0_0 h0_1 h0_2 h0_3 h1_0 h1_1 h1_2 h1_3 h1_4 h1_5 h1_6 h2_0 h2_1 h2_2 h2_3 h2_4 h2_5 h2_6 h2_7 h2_8 h2_9 h2_10 h2_11 h2_12 h2_13) o850)) (K (Sum.inr x16))
def bg (n : Nat) : Nat → Int → Int → (List Int) → Bool → Int → (List (List AV)) → (List Int) → (List Int) → Str → Int → Int → Int → Int → Int → Int → Int → Str → Str → Int → Int → Int → Int → Int → Int → Int → Int → Int → Int → Int → Int → Option ((Unit) ⊕ (Bool))
 | 0, _, _, _, _, _, _, _, _, _, _, _, _, _, _, _, _, _, _, _, _, _, _, _, _, _, _, _, _, _, _ => none
 | m + 1, x2, x3, x14, x16, x17, h0_0, h0_1, h0_2, h0_3, h1_0, h1_1, h1_2, h1_3, h1_4, h1_5, h1_6, h2_0, h2_1, h2_2, h2_3, h2_4, h2_5, h2_6, h2_7, h2_8, h2_9, h2_10, h2_11, h2_12, h2_13 => dY n x2 x3 x14 x16 x17 h0_0 h0_1 h0_2 h0_3 h1_0 h1_1 h1_2 h1_3 h1_4 h1_5 h1_6 h2_0 h2_1 h2_2 h2_3 h2_4 h2_5 h2_6 h2_7 h2_8 h2_9 h2_10 h2_11 h2_12 h2_13 _ (bg n m) some
abbrev lI : PS := ⟨[], [(2, .n), (3, .i .u32), (9, .q 0 0), (12, .q 1 0), (14, .l .i64), (16, .b), (17, .n)], some [.c 82 [.L false 3, .l .i64, .l .i64, .s, .q 2 0], .c 47 [.n, .n, .n, .n, .n, .n, .n], .c 87 [.s, .s, .n, .n, .c, .n, .n, .n, .n, .c, .n, .n, .n, .n]], [⟨.ret, [], [(8, .x (.bool false))], [], (some 0)⟩, ⟨(.exit 0), [2, 3, 9, 12], [(16, .b)], [.k 0, .k 1, .k 2], none⟩], none, none⟩
def ib (n : Nat) (x14 : List Int) (x17 x19 : Int) (h0_0 : List (List AV)) (h0_1 h0_2 : List Int) (h0_3 : Str) (h1_0 h1_1 h1_2 h1_3 h1_4 h1_5 h1_6 h2_0 h2_1 h2_2 h2_3 h2_4 h2_5 h2_6 : Int) (R : Type) (K : (Bool) → Option R) : Option R := cond (x19 != (0 : Int)) (K true) (cond (!((h2_0 == h1_0) && ((h2_1 == h1_1) && ((h2_2 == h1_2) && ((h2_3 == h1_3) && ((h2_4 == h1_4) && ((h2_5 == h1_5) && ((h2_6 == h1_6) && true)))))))) (K true) (cond (decide (x17 > (0 : Int))) (cond (decide (0 ≤ x17)) ((x14[x17.toNat]?).bind fun e871 => (cond (decide (0 ≤ (IntKind.i64.wrap (x17 - (1 : Int))))) ((x14[(IntKind.i64.wrap (x17 - (1 : Int))).toNat]?).bind fun e872 => (cond (decide (e871 ≤ e872)) (K true) (cond (decide (0 ≤ x17)) ((x14[x17.toNat]?).bind fun e873 => ((aF n e873 (1000000 : Int)).bind fun o874 => ((bZ n o874 h0_0 h0_1 h0_2 h0_3).bind fun o875 => (cond (decide (0 ≤ (IntKind.i64.wrap (x17 - (1 : Int))))) ((x14[(IntKind.i64.wrap (x17 - (1 : Int))).toNat]?).bind fun e876 => ((aF n e876 (1000000 : Int)).bind fun o877 => ((bZ n o877 h0_0 h0_1 h0_2 h0_3).bind fun o878 => (K (o875 == o878))))) none)))) none))) none)) none) (K false)))
def bS n x14 x17 x19 h0_0 h0_1 h0_2 h0_3 h1_0 h1_1 h1_2 h1_3 h1_4 h1_5 h1_6 h2_0 h2_1 h2_2 h2_3 h2_4 h2_5 h2_6 := ib n x14 x17 x19 h0_0 h0_1 h0_2 h0_3 h1_0 h1_1 h1_2 h1_3 h1_4 h1_5 h1_6 h2_0 h2_1 h2_2 h2_3 h2_4 h2_5 h2_6 _ some
abbrev dZ : PS := ⟨[2, 3, 16], [(9, .q 0 0), (12, .q 1 0), (14, .l .i64), (17, .n), (18, .q 2 0), (19, .n)], some [.c 82 [.L false 3, .l .i64, .l .i64, .s, .x (.ptr none)], .c 47 [.n, .n, .n, .n, .n, .n, .n], .c 47 [.n, .n, .n, .n, .n, .n, .n]], [⟨.normal, [2, 3, 9, 12, 14, 16, 17], [(120, .b)], [.k 0, .k 1, .k 2], none⟩], none, none⟩
def ic (n : Nat) (x2 x3 : Int) (x14 : List Int) (x16 : Bool) (x17 : Int) (h0_0 : List (List AV)) (h0_1 h0_2 : List Int) (h0_3 : Str) (h1_0 h1_1 h1_2 h1_3 h1_4 h1_5 h1_6 : Int) (R : Type) (K : ((Unit) ⊕ (Bool)) → Option R) : Option R := cond (decide (0 ≤ x17)) ((x14[x17.toNat]?).bind fun e869 => ((iC n e869 h0_0 h0_1 h0_2 h0_3).bind fun o870 => ((bS n x14 x17 o870.2.2.2.2.2.2.2 h0_0 h0_1 h0_2 h0_3 h1_0 h1_1 h1_2 h1_3 h1_4 h1_5 h1_6 o870.1 o870.2.1 o870.2.2.1 o870.2.2.2.1 o870.2.2.2.2.1 o870.2.2.2.2.2.1 o870.2.2.2.2.2.2.1).bind fun o879 => (cond o879 (K (Sum.inl ())) (cond x16 (K (Sum.inr true)) (cond (decide (0 ≤ x17)) ((x14[x17.toNat]?).bind fun e880 => (K (Sum.inr (e880 == x2)))) none)))))) none
def bT n x2 x3 x14 x16 x17 h0_0 h0_1 h0_2 h0_3 h1_0 h1_1 h1_2 h1_3 h1_4 h1_5 h1_6 := ic n x2 x3 x14 x16 x17 h0_0 h0_1 h0_2 h0_3 h1_0 h1_1 h1_2 h1_3 h1_4 h1_5 h1_6 _ some
abbrev d9 : PS := ⟨[], [(2, .n), (3, .i .u32), (9, .q 0 0), (12, .q 1 0), (14, .l .i64), (16, .b), (17, .n)], some [.c 82 [.L false 3, .l .i64, .l .i64, .s, .x (.ptr none)], .c 47 [.n, .n, .n, .n, .n, .n, .n]], [⟨.ret, [], [(8, .x (.bool false))], [], (some 0)⟩, ⟨.normal, [2, 3, 9, 12, 14, 17], [(16, .b)], [.k 0, .k 1], (some 0)⟩], none, none⟩
def ed (n : Nat) (x2 x3 : Int) (x14 : List Int) (x16 : Bool) (x17 : Int) (h0_0 : List (List AV)) (h0_1 h0_2 : List Int) (h0_3 : Str) (h1_0 h1_1 h1_2 h1_3 h1_4 h1_5 h1_6 : Int) (R : Type) (A_ : Int → Int → (List Int) → Bool → Int → (List (List AV)) → (List Int) → (List Int) → Str → Int → Int → Int → Int → Int → Int → Int → Option R) (K : ((Unit) ⊕ (Bool)) → Option R) : Option R := cond (decide (x17 < (x14.length : Int))) ((bT n x2 x3 x14 x16 x17 h0_0 h0_1 h0_2 h0_3 h1_0 h1_1 h1_2 h1_3 h1_4 h1_5 h1_6).bind fun o881 => (Sum.elim (fun o882 => K (Sum.inl ())) (fun o883 => A_ x2 x3 x14 o883 (IntKind.i64.wrap (x17 + (1 : Int))) h0_0 h0_1 h0_2 h0_3 h1_0 h1_1 h1_2 h1_3 h1_4 h1_5 h1_6) o881)) (K (Sum.inr x16))
def bi (n : Nat) : Nat → Int → Int → (List Int) → Bool → Int → (List (List AV)) → (List Int) → (List Int) → Str → Int → Int → Int → Int → Int → Int → Int → Option ((Unit) ⊕ (Bool))
 | 0, _, _, _, _, _, _, _, _, _, _, _, _, _, _, _, _ => none
 | m + 1, x2, x3, x14, x16, x17, h0_0, h0_1, h0_2, h0_3, h1_0, h1_1, h1_2, h1_3, h1_4, h1_5, h1_6 => ed n x2 x3 x14 x16 x17 h0_0 h0_1 h0_2 h0_3 h1_0 h1_1 h1_2 h1_3 h1_4 h1_5 h1_6 _ (bi n m) some
abbrev lJ : PS := ⟨[], [(2, .n), (3, .i .u32), (9, .q 0 0), (12, .q 1 0), (14, .l .i64), (16, .b), (17, .n)], some [.c 82 [.L false 3, .l .i64, .l .i64, .s, .x (.ptr none)], .c 47 [.n, .n, .n, .n, .n, .n, .n]], [⟨.ret, [], [(8, .x (.bool false))], [], (some 0)⟩, ⟨(.exit 0), [2, 3, 9, 12], [(16, .b)], [.k 0, .k 1], none⟩], none, none⟩
theorem lK (n : Nat) : Snd ⟨Tryz.prog, 0, 177⟩ (fo.x (cK n)) (fb Tryz.f5 149887) := kH (S := fo) (b := jl n) (.d [(27, .cl 11 (bM n)), (28, .cl 12 (kE n)), (35, .cl 11 (bM n)), (36, .cl 12 (kE n))] [(3, .peek [1] [1]), (4, .peek [0] [0]), (14, .no), (19, .no), (26, .no), (27, .part []), (28, .part []), (34, .no), (35, .part []), (36, .part [])]) (by (repeat intro _); unfold jl; simp only [aD]) (ai (bH n) (ai (jV n) (ai (bH n) (ai (jV n) trivial))))
theorem ky (n : Nat) : Snd ⟨Tryz.prog, 0, 177⟩ (dW.x (bQ n)) (fb Tryz.f5 149887) := kH (S := dW) (b := gY n) (.d [(27, .cl 11 (bM n)), (28, .cl 12 (iL n)), (35, .cl 11 (bM n)), (36, .cl 12 (iL n))] [(3, .peek [3] [3]), (4, .peek [1] [1]), (14, .no), (19, .no), (22, .peek [0, 2] []), (26, .no), (27, .part []), (28, .part [0, 2]), (29, .peek [0, 2] []), (34, .no), (35, .part []), (36, .part [0, 2])]) (by (repeat intro _); unfold gY; simp only [aD]) (ai (bH n) (ai (iW n) (ai (bH n) (ai (iW n) trivial))))
theorem kz (n : Nat) : Snd ⟨Tryz.prog, 0, 177⟩ (dZ.x (bS n)) (fb Tryz.f5 149887) := kH (S := dZ) (b := ib n) (.d [(27, .cl 11 (bM n)), (28, .cl 12 (iM n)), (35, .cl 11 (bM n)), (36, .cl 12 (iM n))] [(3, .peek [2] [2]), (4, .peek [1] [1]), (14, .no), (19, .no), (22, .peek [0] []), (26, .no), (27, .part []), (28, .part [0]), (29, .peek [0] []), (34, .no), (35, .part []), (36, .part [0])]) (by (repeat intro _); unfold ib; simp only [aD]) (ai (bH n) (ai (iY n) (ai (bH n) (ai (iY n) trivial))))
theorem lL (n : Nat) : Snd ⟨Tryz.prog, 0, 177⟩ (fq.x (cO n)) (fb Tryz.f5 10623) := kH (S := fq) (b := jm n) (.u (.s (.r [(5, .cl 17 (uq n)), (8, .tk [71])]) (.s (.s (.p (JN none 2 (fo.x (cK n)) (JN none 4 (dW.x (bQ n)) (dZ.x (bS n))))) .a) .a))) (by (repeat intro _); unfold jm; simp only [aD]) (ai (u6 n) (ai (u7 (i := none) (n := 2) (lK n) (u7 (i := none) (n := 4) (ky n) (kz n))) trivial))
theorem kC (n : Nat) : Snd ⟨Tryz.prog, 0, 177⟩ (dX.x (bR n)) (fb Tryz.f5 10623) := kH (S := dX) (b := gZ n) (.u (.s (.r [(5, .cl 17 (wI n)), (8, .tk [71])]) (.s (.s (.p (JN none 2 (fo.x (cK n)) (JN none 4 (dW.x (bQ n)) (dZ.x (bS n))))) .a) .a))) (by (repeat intro _); unfold gZ; simp only [aD]) (ai (zb n) (ai (u7 (i := none) (n := 2) (lK n) (u7 (i := none) (n := 4) (ky n) (kz n))) trivial))
theorem kD (n : Nat) : Snd ⟨Tryz.prog, 0, 177⟩ (d9.x (bT n)) (fb Tryz.f5 10623) := kH (S := d9) (b := ic n) (.u (.s (.r [(5, .cl 17 (wJ n)), (8, .tk [71])]) (.s (.s (.p (JN none 2 (fo.x (cK n)) (JN none 4 (dW.x (bQ n)) (dZ.x (bS n))))) .a) .a))) (by (repeat intro _); unfold ic; simp only [aD]) (ai (ze n) (ai (u7 (i := none) (n := 2) (lK n) (u7 (i := none) (n := 4) (ky n) (kz n))) trivial))
theorem BC (n : Nat) : Snd ⟨Tryz.prog, 0, 177⟩ (nI.x (bI n)) (fb Tryz.f5 19) := kH (S := nI) (b := jk n) .a (by (repeat intro _); unfold jk; simp only [aD]) trivial
theorem BD (n : Nat) : Snd ⟨Tryz.prog, 0, 177⟩ (nK.x (bJ n)) (fb Tryz.f5 159) := kH (S := nK) (b := nJ n) .a (by (repeat intro _); unfold nJ; simp only [aD]) trivial
theorem BF (n : Nat) : Snd ⟨Tryz.prog, 0, 177⟩ (nL.x (aP n n)) (fb Tryz.f5 1407) := rW (S := nL) (b := bP n) (f := aP n) n (.s .a (.s (.p (GM ([2, 3, 9, 12, 14, 16, 17], some 0) (JN none 1 (fq.x (cO n)) (JN none 3 (dX.x (bR n)) (d9.x (bT n)))))) .a)) (by (repeat intro _); unfold bP; simp only [aD]) (ai (NI [2, 3, 9, 12, 14, 16, 17] (u7 (i := none) (n := 1) (lL n) (u7 (i := none) (n := 3) (kC n) (kD n)))) trivial)
theorem AC (n : Nat) : Snd ⟨Tryz.prog, 0, 177⟩ (lI.x (bg n n)) (fb Tryz.f5 1407) := rW (S := lI) (b := dY n) (f := bg n) n (.s .a (.s (.p (GM ([2, 3, 9, 12, 14, 16, 17], some 0) (JN none 1 (fq.x (cO n)) (JN none 3 (dX.x (bR n)) (d9.x (bT n)))))) .a)) (by (repeat intro _); unfold dY; simp only [aD]) (ai (NI [2, 3, 9, 12, 14, 16, 17] (u7 (i := none) (n := 1) (lL n) (u7 (i := none) (n := 3) (kC n) (kD n)))) trivial)
theorem AJ (n : Nat) : Snd ⟨Tryz.prog, 0, 177⟩ (lJ.x (bi n n)) (fb Tryz.f5 1407) := rW (S := lJ) (b := ed n) (f := bi n) n (.s .a (.s (.p (GM ([2, 3, 9, 12, 14, 16, 17], some 0) (JN none 1 (fq.x (cO n)) (JN none 3 (dX.x (bR n)) (d9.x (bT n)))))) .a)) (by (repeat intro _); unfold ed; simp only [aD]) (ai (NI [2, 3, 9, 12, 14, 16, 17] (u7 (i := none) (n := 1) (lL n) (u7 (i := none) (n := 3) (kC n) (kD n)))) trivial)
def ll (n : Nat) (a0 : List (List AV)) (a1 a2 : List Int) (a3 : Str) (a4 : Bool) (a5 a6 : Int) (R : Type) (K : Bool → Option R) : Option R := (fI n a0 a1 a2 a3 a4).bind fun o797 => (Sum.elim (fun o798 => (bI n a5 o798.2.2.2.2.2.2.2.2.2.2.2.2.2.2.2.2.2.2.2.2).bind fun o800 => (cond o800 ((bE n ).bind fun o801 => (K o801)) ((fT n a5).bind fun o802 => ((eG n o802.1 o802.2.1 o802.2.2.1 o802.2.2.2.1 o802.2.2.2.2.1 o802.2.2.2.2.2.1 o802.2.2.2.2.2.2.1).bind fun o803 => ((bJ n o802.2.2.2.2.2.2.2 o803.2).bind fun o804 => (cond o804 (K false) ((aP n n a5 a6 o803.1 false (0 : Int) o802.1 o802.2.1 o802.2.2.1 o802.2.2.2.1 o802.2.2.2.2.1 o802.2.2.2.2.2.1 o802.2.2.2.2.2.2.1).bind fun o820 => (Sum.elim (fun o821 => K false) (fun o822 => (fT n (IntKind.i64.wrap (a5 + (IntKind.i64.wrap ((IntKind.i64.wrap a6) * (20 : Int)))))).bind fun o823 => ((bq n o802.1 o802.2.1 o802.2.2.1 o802.2.2.2.1 o802.2.2.2.2.1 o802.2.2.2.2.2.1 o802.2.2.2.2.2.2.1).bind fun o824 => ((bq n o823.1 o823.2.1 o823.2.2.1 o823.2.2.2.1 o823.2.2.2.2.1 o823.2.2.2.2.2.1 o823.2.2.2.2.2.2.1).bind fun o825 => ((aF n (IntKind.i64.wrap (a5 + (IntKind.i64.wrap ((IntKind.i64.wrap a6) * (20 : Int))))) (1000000 : Int)).bind fun o826 => ((eX n o826).bind fun o827 => ((aF n a5 (1000000 : Int)).bind fun o828 => ((eX n o828).bind fun o829 => (cond o822 (cond ((IntKind.i64.wrap (o825.1 - o824.1)) == (IntKind.i64.wrap ((IntKind.i64.wrap ((IntKind.i64.wrap (a5 + (IntKind.i64.wrap ((IntKind.i64.wrap a6) * (20 : Int))))) - a5)) + (IntKind.i64.wrap ((IntKind.i64.wrap ((0 : Int) - (0 : Int))) * (1000000 : Int)))))) ((bE n ).bind fun o830 => (K o830)) (K false)) (K false))))))))) o820)))))))) (fun o799 => Sum.elim (fun o831 => (bI n a5 o831.2.2.2.2.2.2.2.2.2.2.2.2.2.2.2.2.2.2.2.1).bind fun o833 => (cond o833 ((bE n ).bind fun o834 => (K o834)) ((iB n a5 o831.2.2.2.2.2.2.2.2.2.2.2.2.2.2.2.2.2.2.2.2.1 o831.2.2.2.2.2.2.2.2.2.2.2.2.2.2.2.2.2.2.2.2.2.1 o831.2.2.2.2.2.2.2.2.2.2.2.2.2.2.2.2.2.2.2.2.2.2.1 o831.2.2.2.2.2.2.2.2.2.2.2.2.2.2.2.2.2.2.2.2.2.2.2.1 o831.2.2.2.2.2.2.2.2.2.2.2.2.2.2.2.2.2.2.2.2.2.2.2.2.1 o831.2.2.2.2.2.2.2.2.2.2.2.2.2.2.2.2.2.2.2.2.2.2.2.2.2.1 o831.2.2.2.2.2.2.2.2.2.2.2.2.2.2.2.2.2.2.2.2.2.2.2.2.2.2.1 o831.2.2.2.2.2.2.2.2.2.2.2.2.2.2.2.2.2.2.2.2.2.2.2.2.2.2.2.1 o831.2.2.2.2.2.2.2.2.2.2.2.2.2.2.2.2.2.2.2.2.2.2.2.2.2.2.2.2.1 o831.2.2.2.2.2.2.2.2.2.2.2.2.2.2.2.2.2.2.2.2.2.2.2.2.2.2.2.2.2.1 o831.2.2.2.2.2.2.2.2.2.2.2.2.2.2.2.2.2.2.2.2.2.2.2.2.2.2.2.2.2.2.1 o831.2.2.2.2.2.2.2.2.2.2.2.2.2.2.2.2.2.2.2.2.2.2.2.2.2.2.2.2.2.2.2.1 o831.2.2.2.2.2.2.2.2.2.2.2.2.2.2.2.2.2.2.2.2.2.2.2.2.2.2.2.2.2.2.2.2.1 o831.2.2.2.2.2.2.2.2.2.2.2.2.2.2.2.2.2.2.2.2.2.2.2.2.2.2.2.2.2.2.2.2.2.1 o831.2.2.2.2.2.2.2.2.2.2.2.2.2.2.2.2.2.2.2.2.2.2.2.2.2.2.2.2.2.2.2.2.2.2.1 o831.2.2.2.2.2.2.2.2.2.2.2.2.2.2.2.2.2.2.2.2.2.2.2.2.2.2.2.2.2.2.2.2.2.2.2.1 o831.2.2.2.2.2.2.2.2.2.2.2.2.2.2.2.2.2.2.2.2.2.2.2.2.2.2.2.2.2.2.2.2.2.2.2.2.1 o831.2.2.2.2.2.2.2.2.2.2.2.2.2.2.2.2.2.2.2.2.2.2.2.2.2.2.2.2.2.2.2.2.2.2.2.2.2).bind fun o835 => ((dH n o835.1 o835.2.1 o835.2.2.1 o835.2.2.2.1 o835.2.2.2.2.1 o835.2.2.2.2.2.1 o835.2.2.2.2.2.2.1 o831.2.2.2.2.2.2.2.2.2.2.2.2.2.2.2.2.2.2.2.2.1 o831.2.2.2.2.2.2.2.2.2.2.2.2.2.2.2.2.2.2.2.2.2.1 o831.2.2.2.2.2.2.2.2.2.2.2.2.2.2.2.2.2.2.2.2.2.2.1 o831.2.2.2.2.2.2.2.2.2.2.2.2.2.2.2.2.2.2.2.2.2.2.2.1 o831.2.2.2.2.2.2.2.2.2.2.2.2.2.2.2.2.2.2.2.2.2.2.2.2.1 o831.2.2.2.2.2.2.2.2.2.2.2.2.2.2.2.2.2.2.2.2.2.2.2.2.2.1 o831.2.2.2.2.2.2.2.2.2.2.2.2.2.2.2.2.2.2.2.2.2.2.2.2.2.2.1 o831.2.2.2.2.2.2.2.2.2.2.2.2.2.2.2.2.2.2.2.2.2.2.2.2.2.2.2.1 o831.2.2.2.2.2.2.2.2.2.2.2.2.2.2.2.2.2.2.2.2.2.2.2.2.2.2.2.2.1 o831.2.2.2.2.2.2.2.2.2.2.2.2.2.2.2.2.2.2.2.2.2.2.2.2.2.2.2.2.2.1 o831.2.2.2.2.2.2.2.2.2.2.2.2.2.2.2.2.2.2.2.2.2.2.2.2.2.2.2.2.2.2.1 o831.2.2.2.2.2.2.2.2.2.2.2.2.2.2.2.2.2.2.2.2.2.2.2.2.2.2.2.2.2.2.2.1 o831.2.2.2.2.2.2.2.2.2.2.2.2.2.2.2.2.2.2.2.2.2.2.2.2.2.2.2.2.2.2.2.2.1 o831.2.2.2.2.2.2.2.2.2.2.2.2.2.2.2.2.2.2.2.2.2.2.2.2.2.2.2.2.2.2.2.2.2.1 o831.2.2.2.2.2.2.2.2.2.2.2.2.2.2.2.2.2.2.2.2.2.2.2.2.2.2.2.2.2.2.2.2.2.2.1 o831.2.2.2.2.2.2.2.2.2.2.2.2.2.2.2.2.2.2.2.2.2.2.2.2.2.2.2.2.2.2.2.2.2.2.2.1 o831.2.2.2.2.2.2.2.2.2.2.2.2.2.2.2.2.2.2.2.2.2.2.2.2.2.2.2.2.2.2.2.2.2.2.2.2.1 o831.2.2.2.2.2.2.2.2.2.2.2.2.2.2.2.2.2.2.2.2.2.2.2.2.2.2.2.2.2.2.2.2.2.2.2.2.2).bind fun o836 => ((bJ n o835.2.2.2.2.2.2.2 o836.2).bind fun o837 => (cond o837 (K false) ((bg n n a5 a6 o836.1 false (0 : Int) o831.2.2.2.2.2.2.2.2.2.2.2.2.2.2.2.2.2.2.2.2.1 o831.2.2.2.2.2.2.2.2.2.2.2.2.2.2.2.2.2.2.2.2.2.1 o831.2.2.2.2.2.2.2.2.2.2.2.2.2.2.2.2.2.2.2.2.2.2.1 o831.2.2.2.2.2.2.2.2.2.2.2.2.2.2.2.2.2.2.2.2.2.2.2.1 o835.1 o835.2.1 o835.2.2.1 o835.2.2.2.1 o835.2.2.2.2.1 o835.2.2.2.2.2.1 o835.2.2.2.2.2.2.1 o831.2.2.2.2.2.2.2.2.2.2.2.2.2.2.2.2.2.2.2.2.2.2.2.2.1 o831.2.2.2.2.2.2.2.2.2.2.2.2.2.2.2.2.2.2.2.2.2.2.2.2.2.1 o831.2.2.2.2.2.2.2.2.2.2.2.2.2.2.2.2.2.2.2.2.2.2.2.2.2.2.1 o831.2.2.2.2.2.2.2.2.2.2.2.2.2.2.2.2.2.2.2.2.2.2.2.2.2.2.2.1 o831.2.2.2.2.2.2.2.2.2.2.2.2.2.2.2.2.2.2.2.2.2.2.2.2.2.2.2.2.1 o831.2.2.2.2.2.2.2.2.2.2.2.2.2.2.2.2.2.2.2.2.2.2.2.2.2.2.2.2.2.1 o831.2.2.2.2.2.2.2.2.2.2.2.2.2.2.2.2.2.2.2.2.2.2.2.2.2.2.2.2.2.2.1 o831.2.2.2.2.2.2.2.2.2.2.2.2.2.2.2.2.2.2.2.2.2.2.2.2.2.2.2.2.2.2.2.1 o831.2.2.2.2.2.2.2.2.2.2.2.2.2.2.2.2.2.2.2.2.2.2.2.2.2.2.2.2.2.2.2.2.1 o831.2.2.2.2.2.2.2.2.2.2.2.2.2.2.2.2.2.2.2.2.2.2.2.2.2.2.2.2.2.2.2.2.2.1 o831.2.2.2.2.2.2.2.2.2.2.2.2.2.2.2.2.2.2.2.2.2.2.2.2.2.2.2.2.2.2.2.2.2.2.1 o831.2.2.2.2.2.2.2.2.2.2.2.2.2.2.2.2.2.2.2.2.2.2.2.2.2.2.2.2.2.2.2.2.2.2.2.1 o831.2.2.2.2.2.2.2.2.2.2.2.2.2.2.2.2.2.2.2.2.2.2.2.2.2.2.2.2.2.2.2.2.2.2.2.2.1 o831.2.2.2.2.2.2.2.2.2.2.2.2.2.2.2.2.2.2.2.2.2.2.2.2.2.2.2.2.2.2.2.2.2.2.2.2.2).bind fun o853 => (Sum.elim (fun o854 => K false) (fun o855 => (iB n (IntKind.i64.wrap (a5 + (IntKind.i64.wrap ((IntKind.i64.wrap a6) * (20 : Int))))) o831.2.2.2.2.2.2.2.2.2.2.2.2.2.2.2.2.2.2.2.2.1 o831.2.2.2.2.2.2.2.2.2.2.2.2.2.2.2.2.2.2.2.2.2.1 o831.2.2.2.2.2.2.2.2.2.2.2.2.2.2.2.2.2.2.2.2.2.2.1 o831.2.2.2.2.2.2.2.2.2.2.2.2.2.2.2.2.2.2.2.2.2.2.2.1 o831.2.2.2.2.2.2.2.2.2.2.2.2.2.2.2.2.2.2.2.2.2.2.2.2.1 o831.2.2.2.2.2.2.2.2.2.2.2.2.2.2.2.2.2.2.2.2.2.2.2.2.2.1 o831.2.2.2.2.2.2.2.2.2.2.2.2.2.2.2.2.2.2.2.2.2.2.2.2.2.2.1 o831.2.2.2.2.2.2.2.2.2.2.2.2.2.2.2.2.2.2.2.2.2.2.2.2.2.2.2.1 o831.2.2.2.2.2.2.2.2.2.2.2.2.2.2.2.2.2.2.2.2.2.2.2.2.2.2.2.2.1 o831.2.2.2.2.2.2.2.2.2.2.2.2.2.2.2.2.2.2.2.2.2.2.2.2.2.2.2.2.2.1 o831.2.2.2.2.2.2.2.2.2.2.2.2.2.2.2.2.2.2.2.2.2.2.2.2.2.2.2.2.2.2.1 o831.2.2.2.2.2.2.2.2.2.2.2.2.2.2.2.2.2.2.2.2.2.2.2.2.2.2.2.2.2.2.2.1 o831.2.2.2.2.2.2.2.2.2.2.2.2.2.2.2.2.2.2.2.2.2.2.2.2.2.2.2.2.2.2.2.2.1 o831.2.2.2.2.2.2.2.2.2.2.2.2.2.2.2.2.2.2.2.2.2.2.2.2.2.2.2.2.2.2.2.2.2.1 o831.2.2.2.2.2.2.2.2.2.2.2.2.2.2.2.2.2.2.2.2.2.2.2.2.2.2.2.2.2.2.2.2.2.2.1 o831.2.2.2.2.2.2.2.2.2.2.2.2.2.2.2.2.2.2.2.2.2.2.2.2.2.2.2.2.2.2.2.2.2.2.2.1 o831.2.2.2.2.2.2.2.2.2.2.2.2.2.2.2.2.2.2.2.2.2.2.2.2.2.2.2.2.2.2.2.2.2.2.2.2.1 o831.2.2.2.2.2.2.2.2.2.2.2.2.2.2.2.2.2.2.2.2.2.2.2.2.2.2.2.2.2.2.2.2.2.2.2.2.2).bind fun o856 => ((bq n o835.1 o835.2.1 o835.2.2.1 o835.2.2.2.1 o835.2.2.2.2.1 o835.2.2.2.2.2.1 o835.2.2.2.2.2.2.1).bind fun o857 => ((bq n o856.1 o856.2.1 o856.2.2.1 o856.2.2.2.1 o856.2.2.2.2.1 o856.2.2.2.2.2.1 o856.2.2.2.2.2.2.1).bind fun o858 => ((aF n (IntKind.i64.wrap (a5 + (IntKind.i64.wrap ((IntKind.i64.wrap a6) * (20 : Int))))) (1000000 : Int)).bind fun o859 => ((bY n o859 o831.2.2.2.2.2.2.2.2.2.2.2.2.2.2.2.2.2.2.2.2.1 o831.2.2.2.2.2.2.2.2.2.2.2.2.2.2.2.2.2.2.2.2.2.1 o831.2.2.2.2.2.2.2.2.2.2.2.2.2.2.2.2.2.2.2.2.2.2.1 o831.2.2.2.2.2.2.2.2.2.2.2.2.2.2.2.2.2.2.2.2.2.2.2.1 o831.2.2.2.2.2.2.2.2.2.2.2.2.2.2.2.2.2.2.2.2.2.2.2.2.1 o831.2.2.2.2.2.2.2.2.2.2.2.2.2.2.2.2.2.2.2.2.2.2.2.2.2.1 o831.2.2.2.2.2.2.2.2.2.2.2.2.2.2.2.2.2.2.2.2.2.2.2.2.2.2.1 o831.2.2.2.2.2.2.2.2.2.2.2.2.2.2.2.2.2.2.2.2.2.2.2.2.2.2.2.1 o831.2.2.2.2.2.2.2.2.2.2.2.2.2.2.2.2.2.2.2.2.2.2.2.2.2.2.2.2.1 o831.2.2.2.2.2.2.2.2.2.2.2.2.2.2.2.2.2.2.2.2.2.2.2.2.2.2.2.2.2.1 o831.2.2.2.2.2.2.2.2.2.2.2.2.2.2.2.2.2.2.2.2.2.2.2.2.2.2.2.2.2.2.1 o831.2.2.2.2.2.2.2.2.2.2.2.2.2.2.2.2.2.2.2.2.2.2.2.2.2.2.2.2.2.2.2.1 o831.2.2.2.2.2.2.2.2.2.2.2.2.2.2.2.2.2.2.2.2.2.2.2.2.2.2.2.2.2.2.2.2.1 o831.2.2.2.2.2.2.2.2.2.2.2.2.2.2.2.2.2.2.2.2.2.2.2.2.2.2.2.2.2.2.2.2.2.1 o831.2.2.2.2.2.2.2.2.2.2.2.2.2.2.2.2.2.2.2.2.2.2.2.2.2.2.2.2.2.2.2.2.2.2.1 o831.2.2.2.2.2.2.2.2.2.2.2.2.2.2.2.2.2.2.2.2.2.2.2.2.2.2.2.2.2.2.2.2.2.2.2.1 o831.2.2.2.2.2.2.2.2.2.2.2.2.2.2.2.2.2.2.2.2.2.2.2.2.2.2.2.2.2.2.2.2.2.2.2.2.1 o831.2.2.2.2.2.2.2.2.2.2.2.2.2.2.2.2.2.2.2.2.2.2.2.2.2.2.2.2.2.2.2.2.2.2.2.2.2).bind fun o860 => ((aF n a5 (1000000 : Int)).bind fun o861 => ((bY n o861 o831.2.2.2.2.2.2.2.2.2.2.2.2.2.2.2.2.2.2.2.2.1 o831.2.2.2.2.2.2.2.2.2.2.2.2.2.2.2.2.2.2.2.2.2.1 o831.2.2.2.2.2.2.2.2.2.2.2.2.2.2.2.2.2.2.2.2.2.2.1 o831.2.2.2.2.2.2.2.2.2.2.2.2.2.2.2.2.2.2.2.2.2.2.2.1 o831.2.2.2.2.2.2.2.2.2.2.2.2.2.2.2.2.2.2.2.2.2.2.2.2.1 o831.2.2.2.2.2.2.2.2.2.2.2.2.2.2.2.2.2.2.2.2.2.2.2.2.2.1 o831.2.2.2.2.2.2.2.2.2.2.2.2.2.2.2.2.2.2.2.2.2.2.2.2.2.2.1 o831.2.2.2.2.2.2.2.2.2.2.2.2.2.2.2.2.2.2.2.2.2.2.2.2.2.2.2.1 o831.2.2.2.2.2.2.2.2.2.2.2.2.2.2.2.2.2.2.2.2.2.2.2.2.2.2.2.2.1 o831.2.2.2.2.2.2.2.2.2.2.2.2.2.2.2.2.2.2.2.2.2.2.2.2.2.2.2.2.2.1 o831.2.2.2.2.2.2.2.2.2.2.2.2.2.2.2.2.2.2.2.2.2.2.2.2.2.2.2.2.2.2.1 o831.2.2.2.2.2.2.2.2.2.2.2.2.2.2.2.2.2.2.2.2.2.2.2.2.2.2.2.2.2.2.2.1 o831.2.2.2.2.2.2.2.2.2.2.2.2.2.2.2.2.2.2.2.2.2.2.2.2.2.2.2.2.2.2.2.2.1 o831.2.2.2.2.2.2.2.2.2.2.2.2.2.2.2.2.2.2.2.2.2.2.2.2.2.2.2.2.2.2.2.2.2.1 o831.2.2.2.2.2.2.2.2.2.2.2.2.2.2.2.2.2.2.2.2.2.2.2.2.2.2.2.2.2.2.2.2.2.2.1 o831.2.2.2.2.2.2.2.2.2.2.2.2.2.2.2.2.2.2.2.2.2.2.2.2.2.2.2.2.2.2.2.2.2.2.2.1 o831.2.2.2.2.2.2.2.2.2.2.2.2.2.2.2.2.2.2.2.2.2.2.2.2.2.2.2.2.2.2.2.2.2.2.2.2.1 o831.2.2.2.2.2.2.2.2.2.2.2.2.2.2.2.2.2.2.2.2.2.2.2.2.2.2.2.2.2.2.2.2.2.2.2.2.2).bind fun o862 => (cond o855 (cond ((IntKind.i64.wrap (o858.1 - o857.1)) == (IntKind.i64.wrap ((IntKind.i64.wrap ((IntKind.i64.wrap (a5 + (IntKind.i64.wrap ((IntKind.i64.wrap a6) * (20 : Int))))) - a5)) + (IntKind.i64.wrap ((IntKind.i64.wrap (o860 - o862)) * (1000000 : Int)))))) ((bE n ).bind fun o863 => (K o863)) (K false)) (K false))))))))) o853)))))))) (fun o832 => (bI n a5 o832.2.2.2.2.2.2.2.2.2.2.2.2.2.2.2.2.2.2.2.1).bind fun o864 => (cond o864 ((bE n ).bind fun o865 => (K o865)) ((iC n a5 o832.2.2.2.2.2.2.2.2.2.2.2.2.2.2.2.2.2.2.2.2.1 o832.2.2.2.2.2.2.2.2.2.2.2.2.2.2.2.2.2.2.2.2.2.1 o832.2.2.2.2.2.2.2.2.2.2.2.2.2.2.2.2.2.2.2.2.2.2.1 o832.2.2.2.2.2.2.2.2.2.2.2.2.2.2.2.2.2.2.2.2.2.2.2).bind fun o866 => ((dK n o866.1 o866.2.1 o866.2.2.1 o866.2.2.2.1 o866.2.2.2.2.1 o866.2.2.2.2.2.1 o866.2.2.2.2.2.2.1 o832.2.2.2.2.2.2.2.2.2.2.2.2.2.2.2.2.2.2.2.2.1 o832.2.2.2.2.2.2.2.2.2.2.2.2.2.2.2.2.2.2.2.2.2.1 o832.2.2.2.2.2.2.2.2.2.2.2.2.2.2.2.2.2.2.2.2.2.2.1 o832.2.2.2.2.2.2.2.2.2.2.2.2.2.2.2.2.2.2.2.2.2.2.2).bind fun o867 => ((bJ n o866.2.2.2.2.2.2.2 o867.2).bind fun o868 => (cond o868 (K false) ((bi n n a5 a6 o867.1 false (0 : Int) o832.2.2.2.2.2.2.2.2.2.2.2.2.2.2.2.2.2.2.2.2.1 o832.2.2.2.2.2.2.2.2.2.2.2.2.2.2.2.2.2.2.2.2.2.1 o832.2.2.2.2.2.2.2.2.2.2.2.2.2.2.2.2.2.2.2.2.2.2.1 o832.2.2.2.2.2.2.2.2.2.2.2.2.2.2.2.2.2.2.2.2.2.2.2 o866.1 o866.2.1 o866.2.2.1 o866.2.2.2.1 o866.2.2.2.2.1 o866.2.2.2.2.2.1 o866.2.2.2.2.2.2.1).bind fun o884 => (Sum.elim (fun o885 => K false) (fun o886 => (iC n (IntKind.i64.wrap (a5 + (IntKind.i64.wrap ((IntKind.i64.wrap a6) * (20 : Int))))) o832.2.2.2.2.2.2.2.2.2.2.2.2.2.2.2.2.2.2.2.2.1 o832.2.2.2.2.2.2.2.2.2.2.2.2.2.2.2.2.2.2.2.2.2.1 o832.2.2.2.2.2.2.2.2.2.2.2.2.2.2.2.2.2.2.2.2.2.2.1 o832.2.2.2.2.2.2.2.2.2.2.2.2.2.2.2.2.2.2.2.2.2.2.2).bind fun o887 => ((bq n o866.1 o866.2.1 o866.2.2.1 o866.2.2.2.1 o866.2.2.2.2.1 o866.2.2.2.2.2.1 o866.2.2.2.2.2.2.1).bind fun o888 => ((bq n o887.1 o887.2.1 o887.2.2.1 o887.2.2.2.1 o887.2.2.2.2.1 o887.2.2.2.2.2.1 o887.2.2.2.2.2.2.1).bind fun o889 => ((aF n (IntKind.i64.wrap (a5 + (IntKind.i64.wrap ((IntKind.i64.wrap a6) * (20 : Int))))) (1000000 : Int)).bind fun o890 => ((bZ n o890 o832.2.2.2.2.2.2.2.2.2.2.2.2.2.2.2.2.2.2.2.2.1 o832.2.2.2.2.2.2.2.2.2.2.2.2.2.2.2.2.2.2.2.2.2.1 o832.2.2.2.2.2.2.2.2.2.2.2.2.2.2.2.2.2.2.2.2.2.2.1 o832.2.2.2.2.2.2.2.2.2.2.2.2.2.2.2.2.2.2.2.2.2.2.2).bind fun o891 => ((aF n a5 (1000000 : Int)).bind fun o892 => ((bZ n o892 o832.2.2.2.2.2.2.2.2.2.2.2.2.2.2.2.2.2.2.2.2.1 o832.2.2.2.2.2.2.2.2.2.2.2.2.2.2.2.2.2.2.2.2.2.1 o832.2.2.2.2.2.2.2.2.2.2.2.2.2.2.2.2.2.2.2.2.2.2.1 o832.2.2.2.2.2.2.2.2.2.2.2.2.2.2.2.2.2.2.2.2.2.2.2).bind fun o893 => (cond o886 (cond ((IntKind.i64.wrap (o889.1 - o888.1)) == (IntKind.i64.wrap ((IntKind.i64.wrap ((IntKind.i64.wrap (a5 + (IntKind.i64.wrap ((IntKind.i64.wrap a6) * (20 : Int))))) - a5)) + (IntKind.i64.wrap ((IntKind.i64.wrap (o891 - o893)) * (1000000 : Int)))))) ((bE n ).bind fun o894 => (K o894)) (K false)) (K false))))))))) o884)))))))) o799) o797)
def iy n a0 a1 a2 a3 a4 a5 a6 := ll n a0 a1 a2 a3 a4 a5 a6 _ some
abbrev wZ : FS := ⟨[.a [.L false 3, .l .i64, .l .i64, .s], .b, .n, .i .u32], [], [([.b], [])]⟩
def Ff (n : Nat) : FSpec := wZ.sp (iy n)
theorem Cz (n : Nat) : FSound Tryz.prog 5 (Ff n) := fs2 (S := wZ) (b := ll n) Tryz.func5 rfl rfl [.tmp 8] (.s .a (.s (.r [(2, .cl 9 (Aa n)), (6, .tk [29])]) (.s (.s (.p (nI.x (bI n))) (.s (.s (.r [(0, .cl 10 (tH n))]) .a) .a)) (.s (.r [(2, .cl 17 (tK n)), (5, .tk [47])]) (.s (.r [(2, .cl 20 (ku n)), (3, .tk [56]), (5, .tk [53])]) (.s (.s (.p (nK.x (bJ n))) .a) (.s .a (.s (.s .a (.u (.p (GM ([2, 3, 9, 12, 14, 16, 17], some 0) (JN none 1 (nL.x (aP n n)) (JN none 3 (lI.x (bg n n)) (lJ.x (bi n n)))))))) (.s .a (.s (.r [(2, .cl 17 (tK n)), (5, .tk [135])]) (.s (.r [(1, .cl 21 (sZ n)), (4, .tk [141])]) (.s (.r [(1, .cl 21 (sZ n)), (4, .tk [146])]) (.s (.r [(2, .cl 11 (bM n)), (3, .cl 12 (rV n)), (6, .cl 11 (bM n)), (7, .cl 12 (rV n))]) (.s (.r [(16, .cl 10 (tH n))]) .a)))))))))))))) (by (repeat intro _); unfold ll; simp only [aD]) (ai (Fu n) (ai (BC n) (ai (wo n) (ai (wK n) (ai (mJ n) (ai (BD n) (ai (NI [2, 3, 9, 12, 14, 16, 17] (u7 (i := none) (n := 1) (BF n) (u7 (i := none) (n := 3) (AC n) (AJ n)))) (ai (wK n) (ai (qN n) (ai (qN n) (ai (bH n) (ai (vF n) (ai (bH n) (ai (vF n) (ai (wo n) trivial)))))))))))))))
end Go.Proofs.YtiegmpnagcdgoaaGreatDoor.H
namespace Go.Proofs.YtiegmpnagcdgoaaGreatDoor.H
open Go.Sh Go.RowKit
set_option linter.unusedSimpArgs false
set_option linter.unusedVariables false
def IsI (f : Int → Int) (loc t : Int) : Prop := (-10000000000000000 ≤ t ∧ t ≤ 100000000000000000) ∧ t + f (t / 1000000) * 1000000 = loc
theorem Vs (f : Int → Int) (loc : Int) (acc : List Int) (v x : Int) : x ∈ kw f loc acc v ↔ x ∈ acc ∨ (x = loc - v * 1000000 ∧ (-10000000000000000 ≤ x ∧ x ≤ 100000000000000000) ∧ f (x / 1000000) = v) := by
 unfold kw
 split
 ·rename_i h
  simp only [List.mem_append, List.mem_singleton]
  constructor
  ·rintro (h1 | rfl)
   ·exact .inl h1
   ·exact .inr ⟨rfl, ⟨h.1, h.2.1⟩, h.2.2⟩
  ·rintro (h1 | ⟨rfl, _⟩)
   ·exact .inl h1
   ·exact .inr rfl
 ·rename_i h
  constructor
  ·exact .inl
  ·rintro (h1 | ⟨rfl, h2, h3⟩)
   ·exact h1
   ·exact absurd ⟨h2.1, h2.2, h3⟩ h
theorem Ru (f : Int → Int) (loc : Int) : ∀ (L acc : List Int) (x : Int), x ∈ L.foldl (kw f loc) acc ↔ x ∈ acc ∨ ∃ v ∈ L, x = loc - v * 1000000 ∧ (-10000000000000000 ≤ x ∧ x ≤ 100000000000000000) ∧ f (x / 1000000) = v
 | [], acc, x => by simp
 | v :: L, acc, x => by
  rw [List.foldl_cons, Ru f loc L, Vs]
  simp only [List.mem_cons, exists_eq_or_imp]
  exact or_assoc
theorem Vt (f : Int → Int) (loc : Int) : ∀ (L acc : List Int), L.Pairwise (· > ·) → acc.Pairwise (· < ·) → (∀ x ∈ acc, ∀ v ∈ L, x < loc - v * 1000000) → (L.foldl (kw f loc) acc).Pairwise (· < ·)
 | [], acc, _, h, _ => h
 | v :: L, acc, hL, h, hb => by
  rw [List.foldl_cons]
  rw [List.pairwise_cons] at hL
  refine Vt f loc L _ hL.2 ?_ fun x hx w hw => ?_
  ·unfold kw
   split
   ·rw [List.pairwise_append]
    exact ⟨h, List.pairwise_singleton _ _, fun a ha b hb' => by rw [List.mem_singleton.1 hb']; exact hb a ha v (List.mem_cons_self ..)⟩
   ·exact h
  ·rcases (Vs f loc acc v x).1 hx with h1 | ⟨rfl, _⟩
   ·exact hb x h1 w (List.mem_cons_of_mem _ hw)
   ·have := hL.1 w hw
    omega
theorem Tx (f : Int → Int) (loc : Int) {L : List Int} (hL : NC L) : (L.reverse.foldl (kw f loc) []).Pairwise (· < ·) ∧ ∀ x ∈ L.reverse.foldl (kw f loc) [], IsI f loc x := by
 refine ⟨Vt f loc _ [] (List.pairwise_reverse.2 hL) List.Pairwise.nil (by simp), fun x hx => ?_⟩
 rcases (Ru f loc _ [] x).1 hx with h | ⟨v, _, h1, h2, h3⟩
 ·simp at h
 ·exact ⟨h2, by rw [h3]; omega⟩
theorem Tz (f : Int → Int) (u : Int) {L : List Int} (hu : -10000000000000000 ≤ u ∧ u ≤ 100000000000000000) (hm : f (u / 1000000) ∈ L) : u ∈ L.reverse.foldl (kw f (u + f (u / 1000000) * 1000000)) [] :=
 (Ru f _ _ [] u).2 (.inr ⟨_, List.mem_reverse.2 hm, by omega, hu, rfl⟩)
theorem Vu {l : List Int} (h : l.Pairwise (· < ·)) {f : Int → Int} {loc : Int} (hI : ∀ x ∈ l, IsI f loc x) {i : Nat} {t : Int} (ht : l[i]? = some t) (hi : 0 < i) : ∃ s, l[i - 1]? = some s ∧ s < t ∧ f (t / 1000000) ≠ f (s / 1000000) := by
 obtain ⟨hi2, e⟩ := List.getElem?_eq_some_iff.1 ht
 have h1 : i - 1 < l.length := by omega
 have h2 : l[i - 1] < l[i] := List.pairwise_iff_getElem.1 h (i - 1) i h1 hi2 (by omega)
 refine ⟨l[i - 1], List.getElem?_eq_getElem h1, by rw [← e]; exact h2, fun hf => ?_⟩
 have g1 := (hI _ (List.getElem_mem h1)).2
 have g2 := (hI t (by rw [← e]; exact List.getElem_mem hi2)).2
 rw [hf] at g2
 omega
theorem YO (b : Bool) (t u : Int) (q : List Int) : ((b || (t == u)) || decide (u ∈ q)) = (b || decide (u ∈ t :: q)) := by
 rw [Bool.or_assoc]
 congr 1
 by_cases h : t = u
 ·subst h; simp
 ·simp [h, Ne.symm h]
theorem YP (n : Nat) (u : Int) : ∃ b, bI n u true = some b ∧ (b = false → -2200000000000000 ≤ u ∧ u ≤ 10000000000000000) := by
 unfold bI jk
 rw [Bool.not_true, cond_false]
 by_cases h : u < -2200000000000000
 ·rw [aa h]; exact ⟨_, rfl, fun h => by cases h⟩
 ·rw [ah h]; exact ⟨_, rfl, fun h => by have := of_decide_eq_false h; omega⟩
theorem aaE (n : Nat) (u : Int) : bI n u false = some true := rfl
theorem Rv (fl fu u lt : Int) (hl : -93599 ≤ fl ∧ fl ≤ 93599) (hf : -93599 ≤ fu ∧ fu ≤ 93599) (hu : -2200000000000000 ≤ u ∧ u ≤ 10000000000000000) (hlt : u ≤ lt ∧ lt ≤ 10000100000000000) :
 (IntKind.i64.wrap ((lt + fl * 1000000) - (u + fu * 1000000)) == IntKind.i64.wrap (IntKind.i64.wrap (lt - u) + IntKind.i64.wrap (IntKind.i64.wrap (fl - fu) * 1000000))) = true := by
 rw [beq_iff_eq]
 simp (disch := omega) only [wi]
 omega
theorem TA (n : Nat) (hn : 20000 < n) (ts : List Z.Ty) (ti ix : List Int) (foot : Str) (r : RuleV) (hR : Z.RightS ts ti ix foot = true) (hr : dB r = true) (sec : Int) : -93599 ≤ (jq n ts ti ix foot r) sec ∧ (jq n ts ti ix foot r) sec ≤ 93599 := by
 obtain ⟨l1, l2⟩ := qW hr
 obtain ⟨d, e1, e2⟩ := AA n hn ts ti ix foot r hR l1 l2 sec
 have := Rq n hn ts ti ix foot r hR hr sec e2
 unfold jq
 rw [e2]
 exact this
theorem YQ (n : Nat) (hn : 20000 < n) (ts : List Z.Ty) (ti ix : List Int) (foot : Str) (r : RuleV) (hR : Z.RightS ts ti ix foot = true) (hr : dB r = true) (sec : Int) : (jq n ts ti ix foot r) sec ∈ qV [] (qX ts (some r)) := by
 obtain ⟨l1, l2⟩ := qW hr
 obtain ⟨o, e1, h⟩ := AA n hn ts ti ix foot r hR l1 l2 sec
 have hv : (jq n ts ti ix foot r) sec = o := by unfold jq; rw [h]; rfl
 rw [hv, D6]
 refine .inr ?_
 obtain ⟨_, _, hb, _, _, h6, _, _⟩ := Z.right_parts hR
 unfold au aT at h
 rw [cond_false, JM n _ _ ti _ _ _ _ _ _ _ _ _ _ _ _ _ _ _ _ _ hb] at h
 simp only [Option.bind_some] at h
 revert h
 generalize (if (-10000000000 : Int) < (if sec < (100000000000 : Int) then sec else (100000000000 : Int)) then (if sec < (100000000000 : Int) then sec else (100000000000 : Int)) else (-10000000000 : Int)) = t
 intro h
 unfold qX
 cases hov : Nt ti t with
 | true =>
  rw [hov, cond_true] at h
  by_cases hd : r.dst = []
  ·rw [MR n r t hr hd (by have := (qW hr).1; omega) (by have := (qW hr).1; omega)] at h
   simp only [Option.bind_some, Option.some.injEq] at h
   simp [hd, h]
  ·obtain ⟨y, _, _, _, hv⟩ := rat_val n r t hn hr hd
   rw [hv] at h
   simp only [Option.bind_some, Option.some.injEq] at h
   unfold Jk at h
   split at h <;> simp only at h <;> simp [hd, h]
 | false =>
  rw [hov, cond_false, Z.rat_val n (by omega) ts ti ix foot _ (BA hR (by omega)) (by have := BB hR; omega)] at h
  obtain ⟨k1, k2⟩ := MS hR t
  simp only [Option.bind_some] at h
  rw [aa k1, Cy k1 k2] at h
  injection h with h
  have h3 : (Z.AtS ts ti ix foot t).toNat < ts.length := by omega
  rw [List.getD_eq_getElem?_getD, List.getElem?_eq_getElem h3] at h
  exact List.mem_append_left _ (List.mem_map.2 ⟨_, List.getElem_mem h3, h⟩)
theorem zl1 (n : Nat) (hn : 20000 < n) (ts : List Z.Ty) (ti ix : List Int) (foot : Str) (r : RuleV) (hR : Z.RightS ts ti ix foot = true) (hr : dB r = true) (u : Int) (hu : -1000000000000000000 ≤ u ∧ u ≤ 1000000000000000000) : iB n u (ts.map Z.cT) ti ix foot r.std r.dst r.off r.doff r.a.k r.a.m r.a.w r.a.d r.a.t r.b.k r.b.m r.b.w r.b.d r.b.t = aK n (u + (jq n ts ti ix foot r) (u / 1000000) * 1000000) := by
 obtain ⟨o, h1, _, h3⟩ := UG n hn ts ti ix foot r hR hr u (by omega)
 obtain ⟨x, h4, h5⟩ := h3 (by omega)
 rw [aa6 n hn ts ti ix foot r hR hr u hu] at h4
 injection h4 with h4
 rw [h1, h4]
 exact h5.symm
theorem ZP (n : Nat) (hn : 20000 < n) (ts : List Z.Ty) (ti ix : List Int) (foot : Str) (r : RuleV) (hR : Z.RightS ts ti ix foot = true) (hr : dB r = true) (l : List Int) (i : Nat) (t : Int) (c0 c1 c2 c3 c4 c5 c6 : Int) (ht : l[i]? = some t) (hl : l.length ≤ 3000) (hb : ∀ x ∈ l, -10000000000000000 ≤ x ∧ x ≤ 100000000000000000)
 (hs : 0 < i → ∃ s, l[i - 1]? = some s ∧ s < t ∧ (jq n ts ti ix foot r) (t / 1000000) ≠ (jq n ts ti ix foot r) (s / 1000000)) :
 bQ n l (i : Int) 0 (ts.map Z.cT) ti ix foot c0 c1 c2 c3 c4 c5 c6 r.std r.dst r.off r.doff r.a.k r.a.m r.a.w r.a.d r.a.t r.b.k r.b.m r.b.w r.b.d r.b.t c0 c1 c2 c3 c4 c5 c6 = some false := by
 unfold bQ gY
 obtain ⟨hi2, he⟩ := List.getElem?_eq_some_iff.1 ht
 rw [show ((0 : Int) != 0) = false from rfl, cond_false]
 simp only [beq_self_eq_true, Bool.and_self, Bool.not_true, cond_false]
 by_cases hi : 0 < i
 ·obtain ⟨s, h1, h2, h3⟩ := hs hi
  have b1 := hb t (by rw [← he]; exact List.getElem_mem hi2)
  have b2 := hb s (List.mem_of_getElem? h1)
  have ei : (IntKind.i64.wrap ((i : Int) - 1)) = ((i - 1 : Nat) : Int) := by rw [wi _ (by omega) (by omega)]; omega
  rw [aa (by omega), aa (by omega), Int.toNat_natCast, ht]
  simp only [Option.bind_some]
  rw [ei, aa (by omega), Int.toNat_natCast, h1]
  simp only [Option.bind_some]
  rw [ah (by omega), aa (by omega)]
  rw [iA n t (by omega)]
  simp only [Option.bind_some]
  rw [GK n hn ts ti ix foot r hR hr (t / 1000000)]
  simp only [Option.bind_some]
  rw [aa (by omega), iA n s (by omega)]
  simp only [Option.bind_some]
  rw [GK n hn ts ti ix foot r hR hr (s / 1000000)]
  simp only [Option.bind_some]
  rw [show ((jq n ts ti ix foot r) (t / 1000000) == (jq n ts ti ix foot r) (s / 1000000)) = false by simpa using h3]
 ·rw [ah (by omega)]
theorem Vv (n : Nat) (hn : 20000 < n) (ts : List Z.Ty) (ti ix : List Int) (foot : Str) (r : RuleV) (hR : Z.RightS ts ti ix foot = true) (hr : dB r = true) (l : List Int) (u more loc : Int) (c0 c1 c2 c3 c4 c5 c6 : Int) (hl : l.length ≤ 3000) (hI : ∀ x ∈ l, IsI (jq n ts ti ix foot r) loc x) (hp : l.Pairwise (· < ·)) (hc : aK n loc = some (c0, c1, c2, c3, c4, c5, c6, 0)) : ∀ (q : List Int) (i m : Nat) (b : Bool), l.drop i = q → q.length < m →
 bg n m u more l b (i : Int) (ts.map Z.cT) ti ix foot c0 c1 c2 c3 c4 c5 c6 r.std r.dst r.off r.doff r.a.k r.a.m r.a.w r.a.d r.a.t r.b.k r.b.m r.b.w r.b.d r.b.t = some (Sum.inr (b || decide (u ∈ q)))
 | [], i, m + 1, b, hq, _ => by
  have : l.length ≤ i := List.drop_eq_nil_iff.1 hq
  simp only [bg, dY]
  rw [ah (by omega)]
  simp
 | t :: q, i, m + 1, b, hq, hm => by
  have hi : i < l.length := by
   rcases Nat.lt_or_ge i l.length with h | h
   ·exact h
   ·rw [List.drop_eq_nil_iff.2 h] at hq; cases hq
  have ht : l[i]? = some t := by
   have := congrArg List.head? hq
   rw [List.head?_drop] at this
   simpa using this
  have hq2 : l.drop (i + 1) = q := by
   have := congrArg List.tail hq
   simpa using this
  have hti := hI t (List.mem_of_getElem? ht)
  simp only [List.length_cons] at hm
  have hj := ZP n hn ts ti ix foot r hR hr l i t c0 c1 c2 c3 c4 c5 c6 ht hl (fun x hx => (hI x hx).1) (fun h => Vu hp hI ht h)
  have hj1 : bR n u more l b (i : Int) (ts.map Z.cT) ti ix foot c0 c1 c2 c3 c4 c5 c6 r.std r.dst r.off r.doff r.a.k r.a.m r.a.w r.a.d r.a.t r.b.k r.b.m r.b.w r.b.d r.b.t = some (Sum.inr (b || (t == u))) := by
   unfold bR gZ
   rw [aa (by omega), Int.toNat_natCast, ht]
   simp only [Option.bind_some]
   rw [zl1 n hn ts ti ix foot r hR hr t (by have := hti.1; omega), hti.2, hc]
   simp only [Option.bind_some]
   rw [hj]
   simp only [Option.bind_some, cond_false]
   cases b with
   | true => rfl
   | false =>
    rw [cond_false, aa (by omega)]
    rfl
  simp only [bg, dY]
  rw [aa (by omega), hj1]
  simp only [Option.bind_some, Sum.elim_inr]
  rw [wi _ (by omega) (by omega)]
  have := Vv n hn ts ti ix foot r hR hr l u more loc c0 c1 c2 c3 c4 c5 c6 hl hI hp hc q (i + 1) m (b || (t == u)) hq2 (by omega)
  rw [show ((i : Int) + 1) = ((i + 1 : Nat) : Int) by omega, this, YO]
theorem TB (n : Nat) (hn : 20000 < n) (ts : List Z.Ty) (ti ix : List Int) (foot : Str) (hR : Z.RightS ts ti ix foot = true) (sec : Int) : -93599 ≤ (nC n ts ti ix foot) sec ∧ (nC n ts ti ix foot) sec ≤ 93599 := by
 obtain ⟨d, e1, e2⟩ := AB n hn ts ti ix foot [] [] 0 0 0 0 0 0 0 0 0 0 0 0 hR sec
 have := Rs n hn ts ti ix foot _ _ _ _ _ _ _ _ _ _ _ _ _ _ hR sec e2
 unfold nC
 rw [e2]
 exact this
theorem YR (n : Nat) (hn : 20000 < n) (ts : List Z.Ty) (ti ix : List Int) (foot : Str) (hR : Z.RightS ts ti ix foot = true) (sec : Int) : (nC n ts ti ix foot) sec ∈ qV [] (qX ts none) := by
 obtain ⟨o, e1, h⟩ := AB n hn ts ti ix foot [] [] 0 0 0 0 0 0 0 0 0 0 0 0 hR sec
 have hv : (nC n ts ti ix foot) sec = o := by unfold nC; rw [h]; rfl
 rw [hv, D6]
 refine .inr ?_
 unfold au aT dw dP at h
 simp only [Option.bind_some, cond_false] at h
 revert h
 generalize (if (-10000000000 : Int) < (if sec < (100000000000 : Int) then sec else (100000000000 : Int)) then (if sec < (100000000000 : Int) then sec else (100000000000 : Int)) else (-10000000000 : Int)) = t
 intro h
 unfold qX
 rw [Z.rat_val n (by omega) ts ti ix foot _ (BA hR (by omega)) (by have := BB hR; omega)] at h
 obtain ⟨k1, k2⟩ := MS hR t
 simp only [Option.bind_some] at h
 rw [aa k1, Cy k1 k2] at h
 injection h with h
 have h3 : (Z.AtS ts ti ix foot t).toNat < ts.length := by omega
 rw [List.getD_eq_getElem?_getD, List.getElem?_eq_getElem h3] at h
 exact List.mem_append_left _ (List.mem_map.2 ⟨_, List.getElem_mem h3, h⟩)
theorem zl2 (n : Nat) (hn : 20000 < n) (ts : List Z.Ty) (ti ix : List Int) (foot : Str) (hR : Z.RightS ts ti ix foot = true) (u : Int) (hu : -1000000000000000000 ≤ u ∧ u ≤ 1000000000000000000) : iC n u (ts.map Z.cT) ti ix foot= aK n (u + (nC n ts ti ix foot) (u / 1000000) * 1000000) := by
 obtain ⟨o, h1, _, h3⟩ := UH n hn ts ti ix foot [] [] 0 0 0 0 0 0 0 0 0 0 0 0 hR u (by omega)
 obtain ⟨x, h4, h5⟩ := h3 (by omega)
 rw [aa7 n hn ts ti ix foot hR u hu] at h4
 injection h4 with h4
 rw [h1, h4]
 exact h5.symm
theorem ZQ (n : Nat) (hn : 20000 < n) (ts : List Z.Ty) (ti ix : List Int) (foot : Str) (hR : Z.RightS ts ti ix foot = true) (l : List Int) (i : Nat) (t : Int) (c0 c1 c2 c3 c4 c5 c6 : Int) (ht : l[i]? = some t) (hl : l.length ≤ 3000) (hb : ∀ x ∈ l, -10000000000000000 ≤ x ∧ x ≤ 100000000000000000)
 (hs : 0 < i → ∃ s, l[i - 1]? = some s ∧ s < t ∧ (nC n ts ti ix foot) (t / 1000000) ≠ (nC n ts ti ix foot) (s / 1000000)) :
 bS n l (i : Int) 0 (ts.map Z.cT) ti ix foot c0 c1 c2 c3 c4 c5 c6  c0 c1 c2 c3 c4 c5 c6 = some false := by
 unfold bS ib
 obtain ⟨hi2, he⟩ := List.getElem?_eq_some_iff.1 ht
 rw [show ((0 : Int) != 0) = false from rfl, cond_false]
 simp only [beq_self_eq_true, Bool.and_self, Bool.not_true, cond_false]
 by_cases hi : 0 < i
 ·obtain ⟨s, h1, h2, h3⟩ := hs hi
  have b1 := hb t (by rw [← he]; exact List.getElem_mem hi2)
  have b2 := hb s (List.mem_of_getElem? h1)
  have ei : (IntKind.i64.wrap ((i : Int) - 1)) = ((i - 1 : Nat) : Int) := by rw [wi _ (by omega) (by omega)]; omega
  rw [aa (by omega), aa (by omega), Int.toNat_natCast, ht]
  simp only [Option.bind_some]
  rw [ei, aa (by omega), Int.toNat_natCast, h1]
  simp only [Option.bind_some]
  rw [ah (by omega), aa (by omega)]
  rw [iA n t (by omega)]
  simp only [Option.bind_some]
  rw [GL n hn ts ti ix foot hR (t / 1000000)]
  simp only [Option.bind_some]
  rw [aa (by omega), iA n s (by omega)]
  simp only [Option.bind_some]
  rw [GL n hn ts ti ix foot hR (s / 1000000)]
  simp only [Option.bind_some]
  rw [show ((nC n ts ti ix foot) (t / 1000000) == (nC n ts ti ix foot) (s / 1000000)) = false by simpa using h3]
 ·rw [ah (by omega)]
theorem Vw (n : Nat) (hn : 20000 < n) (ts : List Z.Ty) (ti ix : List Int) (foot : Str) (hR : Z.RightS ts ti ix foot = true) (l : List Int) (u more loc : Int) (c0 c1 c2 c3 c4 c5 c6 : Int) (hl : l.length ≤ 3000) (hI : ∀ x ∈ l, IsI (nC n ts ti ix foot) loc x) (hp : l.Pairwise (· < ·)) (hc : aK n loc = some (c0, c1, c2, c3, c4, c5, c6, 0)) : ∀ (q : List Int) (i m : Nat) (b : Bool), l.drop i = q → q.length < m →
 bi n m u more l b (i : Int) (ts.map Z.cT) ti ix foot c0 c1 c2 c3 c4 c5 c6= some (Sum.inr (b || decide (u ∈ q)))
 | [], i, m + 1, b, hq, _ => by
  have : l.length ≤ i := List.drop_eq_nil_iff.1 hq
  simp only [bi, ed]
  rw [ah (by omega)]
  simp
 | t :: q, i, m + 1, b, hq, hm => by
  have hi : i < l.length := by
   rcases Nat.lt_or_ge i l.length with h | h
   ·exact h
   ·rw [List.drop_eq_nil_iff.2 h] at hq; cases hq
  have ht : l[i]? = some t := by
   have := congrArg List.head? hq
   rw [List.head?_drop] at this
   simpa using this
  have hq2 : l.drop (i + 1) = q := by
   have := congrArg List.tail hq
   simpa using this
  have hti := hI t (List.mem_of_getElem? ht)
  simp only [List.length_cons] at hm
  have hj := ZQ n hn ts ti ix foot hR l i t c0 c1 c2 c3 c4 c5 c6 ht hl (fun x hx => (hI x hx).1) (fun h => Vu hp hI ht h)
  have hj1 : bT n u more l b (i : Int) (ts.map Z.cT) ti ix foot c0 c1 c2 c3 c4 c5 c6= some (Sum.inr (b || (t == u))) := by
   unfold bT ic
   rw [aa (by omega), Int.toNat_natCast, ht]
   simp only [Option.bind_some]
   rw [zl2 n hn ts ti ix foot hR t (by have := hti.1; omega), hti.2, hc]
   simp only [Option.bind_some]
   rw [hj]
   simp only [Option.bind_some, cond_false]
   cases b with
   | true => rfl
   | false =>
    rw [cond_false, aa (by omega)]
    rfl
  simp only [bi, ed]
  rw [aa (by omega), hj1]
  simp only [Option.bind_some, Sum.elim_inr]
  rw [wi _ (by omega) (by omega)]
  have := Vw n hn ts ti ix foot hR l u more loc c0 c1 c2 c3 c4 c5 c6 hl hI hp hc q (i + 1) m (b || (t == u)) hq2 (by omega)
  rw [show ((i : Int) + 1) = ((i + 1 : Nat) : Int) by omega, this, YO]
end Go.Proofs.YtiegmpnagcdgoaaGreatDoor.H
namespace Go.Proofs.YtiegmpnagcdgoaaGreatDoor.H
open Go.Sh Go.RowKit
set_option linter.unusedSimpArgs false
set_option linter.unusedVariables false
theorem zl0 (n : Nat) (u : Int) (hu : -1000000000000000000 ≤ u ∧ u ≤ 1000000000000000000) : fT n u = aK n u := by
 obtain ⟨o, h1, _, h3⟩ := UI n [] [] [] [] [] [] 0 0 0 0 0 0 0 0 0 0 0 0 false u (by omega)
 obtain ⟨x, h4, h5⟩ := h3 (by omega)
 rw [aa8 n u hu] at h4
 injection h4 with h4
 have h6 : x = u := by
  have h7 : u + 0 * 1000000 = x := h4
  omega
 rw [h1, ← h5, h6]
theorem Z8 (n : Nat) (x : Int) : eX n x = some () := by kernel_rfl
theorem ZR (n : Nat) (hn : 2 < n) (u more c0 c1 c2 c3 c4 c5 c6 : Int) (hu : -1000000000000000000 ≤ u ∧ u ≤ 1000000000000000000) (hc : aK n u = some (c0, c1, c2, c3, c4, c5, c6, 0)) :
 aP n n u more [u] false 0 c0 c1 c2 c3 c4 c5 c6 = some (Sum.inr true) := by
 obtain ⟨m, hm⟩ : ∃ m, n = m + 2 := ⟨n - 2, by omega⟩
 have hj0 : cK n [u] 0 0 c0 c1 c2 c3 c4 c5 c6 c0 c1 c2 c3 c4 c5 c6 = some false := by
  unfold cK jl
  rw [show ((0 : Int) != 0) = false from rfl, cond_false]
  simp only [beq_self_eq_true, Bool.and_self, Bool.not_true, cond_false]
  rfl
 have hj1 : cO n u more [u] false 0 c0 c1 c2 c3 c4 c5 c6 = some (Sum.inr true) := by
  unfold cO jm
  rw [aa (by omega), show ([u] : List Int)[(0 : Int).toNat]? = some u from rfl]
  simp only [Option.bind_some]
  rw [zl0 n u hu, hc]
  simp only [Option.bind_some]
  rw [hj0]
  simp only [Option.bind_some, cond_false]
  rw [aa (by omega), beq_self_eq_true]
 have e1 : aP n (m + 2) u more [u] false 0 c0 c1 c2 c3 c4 c5 c6 = aP n (m + 1) u more [u] true 1 c0 c1 c2 c3 c4 c5 c6 := by
  show bP n u more [u] false 0 c0 c1 c2 c3 c4 c5 c6 _ (aP n (m + 1)) some = _
  unfold bP
  rw [aa (by simp), hj1]
  rfl
 have e2 : aP n (m + 1) u more [u] true 1 c0 c1 c2 c3 c4 c5 c6 = some (Sum.inr true) := by
  show bP n u more [u] true 1 c0 c1 c2 c3 c4 c5 c6 _ (aP n m) some = _
  unfold bP
  rw [ah (by simp)]
 have := e1.trans e2
 rw [← hm] at this
 exact this
theorem MW (u more : Int) (hu : -2200000000000000 ≤ u ∧ u ≤ 10000000000000000) (hm : 0 ≤ more ∧ more ≤ 4294967295) : IntKind.i64.wrap (u + IntKind.i64.wrap (IntKind.i64.wrap more * 20)) = u + more * 20 := by
 simp (disch := omega) only [wi]
theorem Pv (n : Nat) (hn : 20000 < n) (hw : bE n = some true) (ts : List Z.Ty) (ti ix : List Int) (foot : Str) (utc : Bool) (u more : Int) (hmore : 0 ≤ more ∧ more ≤ 4294967295) (hall : ∀ t ∈ ts, t.2.2.length ≤ 9223372036854775807 ∧ t.2.2.length < n) (hf : foot.length ≤ 9223372036854775807 ∧ foot.length < n) :
 iy n (ts.map Z.cT) ti ix foot utc u more = some true := by
 unfold iy ll
 rcases UB n (by omega) ts ti ix foot utc hall hf with ⟨_, e1⟩ | ⟨y, e1, hy⟩ | ⟨hR, _, _, ⟨r, hr, e1⟩ | e1⟩
 ·rw [e1]
  simp only [Option.bind_some, Sum.elim_inl]
  obtain ⟨b, k1, k2⟩ := YP n u
  rw [k1]
  cases b with
  | true =>
   simp only [Option.bind_some, cond_true]
   rw [hw]
   rfl
  | false =>
   have hu := k2 rfl
   simp only [Option.bind_some, cond_false]
   obtain ⟨c0, c1, c2, c3, c4, c5, c6, hc, hm⟩ := D7 n u (by omega)
   obtain ⟨d0, d1, d2, d3, d4, d5, d6, hd, hmd⟩ := D7 n (u + more * 20) (by omega)
   rw [zl0 n u (by omega), hc]
   simp only [Option.bind_some]
   have hi : kw (fun _ => 0) u [] 0 = [u] := by
    unfold kw
    rw [if_pos ⟨by omega, by omega, rfl⟩]
    simp
   rw [WO n hn c0 c1 c2 c3 c4 c5 c6 u hm (by omega), hi]
   simp only [Option.bind_some]
   rw [show bJ n 0 0 = some false from rfl]
   simp only [Option.bind_some, cond_false]
   rw [ZR n (by omega) u more c0 c1 c2 c3 c4 c5 c6 (by omega) hc]
   simp only [Option.bind_some, Sum.elim_inr]
   rw [MW u more hu hmore, zl0 n _ (by omega), hd]
   simp only [Option.bind_some]
   rw [hm]
   simp only [Option.bind_some]
   rw [hmd]
   simp only [Option.bind_some]
   rw [iA n (u + more * 20) (by omega)]
   simp only [Option.bind_some]
   rw [Z8]
   simp only [Option.bind_some]
   rw [iA n u (by omega)]
   simp only [Option.bind_some]
   rw [Z8]
   simp only [Option.bind_some, cond_true]
   have hz := Rv 0 0 u (u + more * 20) (by omega) (by omega) hu (by omega)
   rw [show u + more * 20 + 0 * 1000000 = u + more * 20 by omega, show u + 0 * 1000000 = u by omega] at hz
   rw [hz, cond_true, hw]
   rfl
 ·rw [e1]
  simp only [Option.bind_some, Sum.elim_inl]
  rw [hy, aaE]
  simp only [Option.bind_some, cond_true]
  rw [hw]
  rfl
 ·rw [e1]
  simp only [Option.bind_some, Sum.elim_inr, Sum.elim_inl]
  obtain ⟨b, k1, k2⟩ := YP n u
  rw [k1]
  cases b with
  | true =>
   simp only [Option.bind_some, cond_true]
   rw [hw]
   rfl
  | false =>
   have hu := k2 rfl
   simp only [Option.bind_some, cond_false]
   obtain ⟨_, h2, _, _, _, _, _, _⟩ := Z.right_parts hR
   have bu := TA n hn ts ti ix foot r hR hr (u / 1000000)
   have bl := TA n hn ts ti ix foot r hR hr ((u + more * 20) / 1000000)
   obtain ⟨c0, c1, c2, c3, c4, c5, c6, hc, hm⟩ := D7 n (u + jq n ts ti ix foot r (u / 1000000) * 1000000) (by omega)
   obtain ⟨d0, d1, d2, d3, d4, d5, d6, hd, hmd⟩ := D7 n (u + more * 20 + jq n ts ti ix foot r ((u + more * 20) / 1000000) * 1000000) (by omega)
   rw [zl1 n hn ts ti ix foot r hR hr u (by omega), hc]
   simp only [Option.bind_some]
   rw [MV n hn ts ti ix foot r hR hr c0 c1 c2 c3 c4 c5 c6 _ hm (by omega)]
   simp only [Option.bind_some]
   rw [show bJ n 0 0 = some false from rfl]
   simp only [Option.bind_some, cond_false]
   have hlen := Tv ts r h2
   have hrise : NC (qV [] (qX ts (some r))) := HY _ _ List.Pairwise.nil
   have hfl := Pi (jq n ts ti ix foot r) (u + jq n ts ti ix foot r (u / 1000000) * 1000000) (qV [] (qX ts (some r))).reverse []
   simp only [List.length_nil, List.length_reverse] at hfl
   obtain ⟨g1, g2⟩ := Tx (jq n ts ti ix foot r) (u + jq n ts ti ix foot r (u / 1000000) * 1000000) hrise
   have hmem := Tz (jq n ts ti ix foot r) u (L := (qV [] (qX ts (some r)))) (by omega) (YQ n hn ts ti ix foot r hR hr _)
   have hloop := Vv n hn ts ti ix foot r hR hr ((qV [] (qX ts (some r))).reverse.foldl (kw (jq n ts ti ix foot r) (u + jq n ts ti ix foot r (u / 1000000) * 1000000)) []) u more _ c0 c1 c2 c3 c4 c5 c6 (by omega) g2 g1 hc _ 0 n false rfl (by simp only [List.drop_zero]; omega)
   rw [List.drop_zero, decide_eq_true hmem] at hloop
   rw [show ((0 : Nat) : Int) = 0 from rfl] at hloop
   rw [hloop]
   simp only [Option.bind_some, Sum.elim_inr, Bool.false_or]
   rw [MW u more hu hmore, zl1 n hn ts ti ix foot r hR hr _ (by omega), hd]
   simp only [Option.bind_some]
   rw [hm]
   simp only [Option.bind_some]
   rw [hmd]
   simp only [Option.bind_some]
   rw [iA n (u + more * 20) (by omega)]
   simp only [Option.bind_some]
   rw [GK n hn ts ti ix foot r hR hr]
   simp only [Option.bind_some]
   rw [iA n u (by omega)]
   simp only [Option.bind_some]
   rw [GK n hn ts ti ix foot r hR hr]
   simp only [Option.bind_some, cond_true]
   rw [Rv (jq n ts ti ix foot r ((u + more * 20) / 1000000)) (jq n ts ti ix foot r (u / 1000000)) u (u + more * 20) bl bu hu (by omega), cond_true, hw]
   rfl
 ·rw [e1]
  simp only [Option.bind_some, Sum.elim_inr]
  obtain ⟨b, k1, k2⟩ := YP n u
  rw [k1]
  cases b with
  | true =>
   simp only [Option.bind_some, cond_true]
   rw [hw]
   rfl
  | false =>
   have hu := k2 rfl
   simp only [Option.bind_some, cond_false]
   obtain ⟨_, h2, _, _, _, _, _, _⟩ := Z.right_parts hR
   have bu := TB n hn ts ti ix foot hR (u / 1000000)
   have bl := TB n hn ts ti ix foot hR ((u + more * 20) / 1000000)
   obtain ⟨c0, c1, c2, c3, c4, c5, c6, hc, hm⟩ := D7 n (u + nC n ts ti ix foot (u / 1000000) * 1000000) (by omega)
   obtain ⟨d0, d1, d2, d3, d4, d5, d6, hd, hmd⟩ := D7 n (u + more * 20 + nC n ts ti ix foot ((u + more * 20) / 1000000) * 1000000) (by omega)
   rw [zl2 n hn ts ti ix foot hR u (by omega), hc]
   simp only [Option.bind_some]
   rw [WN n hn ts ti ix foot hR c0 c1 c2 c3 c4 c5 c6 _ hm (by omega)]
   simp only [Option.bind_some]
   rw [show bJ n 0 0 = some false from rfl]
   simp only [Option.bind_some, cond_false]
   have hlen := Tw ts h2
   have hrise : NC (qV [] (qX ts none)) := HY _ _ List.Pairwise.nil
   have hfl := Pi (nC n ts ti ix foot) (u + nC n ts ti ix foot (u / 1000000) * 1000000) (qV [] (qX ts none)).reverse []
   simp only [List.length_nil, List.length_reverse] at hfl
   obtain ⟨g1, g2⟩ := Tx (nC n ts ti ix foot) (u + nC n ts ti ix foot (u / 1000000) * 1000000) hrise
   have hmem := Tz (nC n ts ti ix foot) u (L := (qV [] (qX ts none))) (by omega) (YR n hn ts ti ix foot hR _)
   have hloop := Vw n hn ts ti ix foot hR ((qV [] (qX ts none)).reverse.foldl (kw (nC n ts ti ix foot) (u + nC n ts ti ix foot (u / 1000000) * 1000000)) []) u more _ c0 c1 c2 c3 c4 c5 c6 (by omega) g2 g1 hc _ 0 n false rfl (by simp only [List.drop_zero]; omega)
   rw [List.drop_zero, decide_eq_true hmem] at hloop
   rw [show ((0 : Nat) : Int) = 0 from rfl] at hloop
   rw [hloop]
   simp only [Option.bind_some, Sum.elim_inr, Bool.false_or]
   rw [MW u more hu hmore, zl2 n hn ts ti ix foot hR _ (by omega), hd]
   simp only [Option.bind_some]
   rw [hm]
   simp only [Option.bind_some]
   rw [hmd]
   simp only [Option.bind_some]
   rw [iA n (u + more * 20) (by omega)]
   simp only [Option.bind_some]
   rw [GL n hn ts ti ix foot hR]
   simp only [Option.bind_some]
   rw [iA n u (by omega)]
   simp only [Option.bind_some]
   rw [GL n hn ts ti ix foot hR]
   simp only [Option.bind_some, cond_true]
   rw [Rv (nC n ts ti ix foot ((u + more * 20) / 1000000)) (nC n ts ti ix foot (u / 1000000)) u (u + more * 20) bl bu hu (by omega), cond_true, hw]
   rfl
theorem Rw {els : List (List AV)} {ti ix : List Int} {foot : Str} {utc : Bool} {u more : Int} (h0 : ∀ e ∈ els, LD.qy [.int .i64, .bool, .str] e) (h3 : foot.length ≤ 9223372036854775807) (hm : 0 ≤ more ∧ more ≤ 4294967295) : ∃ n, iy n els ti ix foot utc u more = some true := by
 obtain ⟨ts, rfl, ht⟩ := Z.open_types h0
 obtain ⟨m, hmm⟩ := Z.lens_bound ts
 refine ⟨20001 + m + foot.length, Pv _ (by omega) (WQ _ (by omega)) ts ti ix foot utc u more hm (fun t h => ?_) ⟨h3, by omega⟩⟩
 have := hmm t h
 have := (ht t h).2.2
 omega
end Go.Proofs.YtiegmpnagcdgoaaGreatDoor.H
namespace Go.Sh
open Go
theorem Jo {P : Program} {w : World} : ∀ {l : List (String × DataW Unit)} {ps : List MemPlace}, DataW.LaidVars P w l ps → ∀ {n : String} {d : DataW Unit}, (n, d) ∈ l →
 ∃ g t cs fuel p, P.globalNamed n = some g ∧ (P.globals[g]?).map (·.type) = some t ∧ w.var? P n = some cs ∧ DataW.trod (fun _ => ()) P w 0 (fun _ => true) false fuel t cs.toList = some (d, p)
 | [], _, _, n, d, hx => by cases hx
 | (m, e) :: r, _, h, n, d, hx => by
  obtain ⟨g, t, cs, fuel, p, q, h1, h2, h3, h4, h5, _⟩ := h
  rcases List.mem_cons.1 hx with hx | hx
  ·injection hx with hn hd
   subst hn hd
   exact ⟨g, t, cs, fuel, p, h1, h2, h3, h4⟩
  ·exact Jo h5 hx
theorem QM {P : Program} {w : World} {n : String} {g : Nat} {cs : Array Value} (hg : P.globalNamed n = some g) (h : w.var? P n = some cs) : ∃ t f, w.heap[g]? = some (.cells cs t f) := by
 simp only [World.var?, hg, Option.bind_some] at h
 split at h
 ·rename_i cs' t f e
  injection h with h
  subst h
  exact ⟨t, f, e⟩
 ·cases h
theorem Pk {P : Program} {w : World} {l : List (String × DataW Unit)} (h : laidMet P l w) {n s : String} {d : DataW Unit} (hx : (n, DataW.iface s d) ∈ l) {g : Nat} {t : TypeId} {ms : Array (String × TypeId)}
 (hg : P.globalNamed n = some g) (hty : (P.globals[g]?).map (·.type) = some t) (ht : P.underlying t = some (.interface ms)) : ∃ u v t' f, w.heap[g]? = some (.cells #[.iface u v] t' f) := by
 obtain ⟨ps, hl, _⟩ := h
 obtain ⟨g', t', cs, fuel, p, h1, h2, h3, h4⟩ := Jo hl hx
 obtain rfl := Option.some.inj (hg.symm.trans h1)
 obtain rfl := Option.some.inj (hty.symm.trans h2)
 obtain ⟨u, f, hb⟩ := QM hg h3
 obtain ⟨cs⟩ := cs
 cases fuel with
 | zero => simp [DataW.trod] at h4
 | succ fuel =>
  simp only [DataW.trod, ht] at h4
  match cs, h4, hb with
  | [.iface x v], _, hb => exact ⟨x, v, u, f, hb⟩
  | [.nilIface], h4, _ => simp at h4
  | [], h4, _ => simp at h4
  | a :: b :: r, h4, _ => simp at h4
  | [.bool _], h4, _ => simp at h4
  | [.int _ _], h4, _ => simp at h4
theorem UJ {P : Program} {w : World} {l : List (String × DataW Unit)} (h : laidMet P l w) {n : String} {k : IntKind} {zs : List Int} (hx : (n, Lib.tabData k zs) ∈ l) {g m : Nat} {t e : TypeId}
 (hg : P.globalNamed n = some g) (hty : (P.globals[g]?).map (·.type) = some t) (ht : P.underlying t = some (.array m e)) (he : P.underlying e = some (.int k)) (hce : P.cellsOf e = 1) (hct : P.cellsOf t = m) :
 ∃ t' f, w.heap[g]? = some (.cells (zs.map fun z => Value.int k z).toArray t' f) := by
 obtain ⟨ps, hl, _⟩ := h
 obtain ⟨g', t', cs, fuel, p, h1, h2, h3, h4⟩ := Jo hl hx
 obtain rfl := Option.some.inj (hg.symm.trans h1)
 obtain rfl := Option.some.inj (hty.symm.trans h2)
 obtain ⟨u, f, hb⟩ := QM hg h3
 have := Lib.cells_of_tab ht he hce hct h4
 refine ⟨u, f, ?_⟩
 rw [hb, ← this]
end Go.Sh
namespace Go.Proofs.YtiegmpnagcdgoaaGreatDoor.H
open Go.Sh Go
theorem WS {W : World} (h : W.ShapedOpen Tryz.prog) : ∃ m t f, W.heap[0]? = some (.cells #[.int .i64 m] t f) := by
 have h0 : ((begin Tryz.prog (fun _ _ => 0) default).world.heap[0]?).bind Obj.row? = some (#[.int .i64 0], 3) := by kernel_rfl
 obtain ⟨m, hm⟩ := cell_of_shapedOpen_int (g := 0) (t := 3) (zero := #[.int .i64 0]) (k := .i64) h (of_decide_eq_true (by kernel_rfl)) h0 rfl (by kernel_rfl) (by kernel_rfl) (by kernel_rfl)
 obtain ⟨cs, h1, h2, _⟩ := h.1 0 _ _ (of_decide_eq_true (by kernel_rfl)) h0
 obtain ⟨c, rfl⟩ : ∃ c, cs = #[c] := by
  obtain ⟨l⟩ := cs
  match l, h2 with
  | [c], _ => exact ⟨c, rfl⟩
 have : c = .int .i64 m := by simpa [World.cell?, h1] using hm
 subst this
 exact ⟨m, _, _, h1⟩
theorem WT {W : World} (hs : W.ShapedOpen Tryz.prog) (h : laidMetH Tryz.prog [("math/bits.deBruijn32tab", Rows.laid_math_bits_deBruijn32tab), ("math/bits.deBruijn64tab", Rows.laid_math_bits_deBruijn64tab), ("internal/strconv.uint64pow10", Rows.laid_internal_strconv_uint64pow10), ("strconv.ErrRange", Rows.laid_strconv_ErrRange), ("strconv.ErrSyntax", Rows.laid_strconv_ErrSyntax)] W) : GdH W.heap := by
 rw [MakeChecks.laidMetH_plain _ _ _ (by kernel_rfl)] at h
 refine ⟨WS hs, ?_, ?_, ?_⟩
 ·exact Pk h (n := "strconv.ErrSyntax") (t := 207) (ms := #[("Error", 148)]) (List.mem_cons_of_mem _ (List.mem_cons_of_mem _ (List.mem_cons_of_mem _ (List.mem_cons_of_mem _ (List.mem_cons_self ..))))) (by kernel_rfl) (by kernel_rfl) (by kernel_rfl)
 ·exact Pk h (n := "strconv.ErrRange") (t := 207) (ms := #[("Error", 148)]) (List.mem_cons_of_mem _ (List.mem_cons_of_mem _ (List.mem_cons_of_mem _ (List.mem_cons_self ..)))) (by kernel_rfl) (by kernel_rfl) (by kernel_rfl)
 ·exact UJ h (n := "internal/strconv.uint64pow10") (k := .u64) (zs := Lib.pow10Tab) (t := 257) (e := 133) (m := 20) (List.mem_cons_of_mem _ (List.mem_cons_of_mem _ (by rw [show (Lib.tabData .u64 Lib.pow10Tab : DataW Unit) = Rows.laid_internal_strconv_uint64pow10 by kernel_rfl]; exact List.mem_cons_self ..))) (by kernel_rfl) (by kernel_rfl) (by kernel_rfl) (by kernel_rfl) (by kernel_rfl) (by kernel_rfl)
end Go.Proofs.YtiegmpnagcdgoaaGreatDoor.H
namespace Go.Sh
open Go
variable {H : Type} {enc : TypeId × Value → H}
theorem Pw {a : Assume} {C : Checked} {os : Os} {f : FuncId} {fn : Func} {s : ChangeSpec} {conds : List PathCond} {apart fresh handsOn again : Bool} {X : World → Array Value → Prop}
 (hX : ∀ (w w' : World) (args : Array Value), w.heap = w'.heap → X w args → X w' args)
 (own : ownKnob C.prog.godebug = none) (started : os.Started) (noInit : C.prog.inits.idxOf? f = none) (hfn : C.prog.funcs[f]? = some fn)
 (witness : ∃ (w : World) (tape : Tape) (i : Input), w.os = os ∧ (w.forCall tape i).Shaped C.prog ∧ i.vars = [] ∧ Input.okWide C.prog (w.forCall tape i) .any w.heap.size f i ∧
  ((s.pre enc C.prog fn conds apart (w.forCall tape i).memory i.args ∧ X (w.forCall tape i).memory i.args) ∧ sizedMet enc C.prog fn (OpenSpec.ofChange s) apart (w.forCall tape i).memory i.args) ∧ a.holds C.prog (lone (Frame.enter C.prog f i.args .normal) [] (w.forCall tape i)))
 (contract : ∀ (W : World) (base : Nat) (args : Array Value) (ds gs : List (DataW H)) (before : List MemPlace),
  (∀ (j : Nat) t v, fn.params[j]? = some t → args[j]? = some v → Value.okWide C.prog W .any base t v) →
  DataW.Whole enc C.prog fn.params.toList s.vars apart W args.toList ds gs before →
  conds.all (PathCond.test C.prog ⟨fn.params.toList, ds, s.plain.varTypes C.prog, gs⟩) = true →
  (DataW.weightsEach C.prog (fn.params.toList ++ s.plain.varTypes C.prog) (ds ++ gs)).all (· ≤ reachBytes) = true → X W args →
  W.ShapedOpen C.prog →
  a.holds C.prog (lone (Frame.enter C.prog f args .normal) [] W) →
  Calls C.prog f args W fun e W' => ∃ v, e = .returned v ∧ s.post enc C.prog fn apart fresh handsOn again W args v W') :
 ReturnsInHanded a C os f .any (fun w args => (s.pre enc C.prog fn conds apart w args ∧ X w args) ∧ sizedMet enc C.prog fn (OpenSpec.ofChange s) apart w args) (s.post enc C.prog fn apart fresh handsOn again) := by
 refine returnsInHanded_of_calls own started noInit witness ?_
 intro w tape i _ hsh _ hok hpre hholds
 obtain ⟨_, _, _, fn', hfn', _, _, _, _, hval⟩ := hok
 have e : fn' = fn := Option.some.inj (hfn'.symm.trans hfn)
 subst e
 obtain ⟨⟨⟨ds, gs, before, hw, hc⟩, hx⟩, hz⟩ := hpre
 have hw' := DataW.Whole.of_heap (w' := w.forCall tape i) (by rfl) hw
 refine (contract (w.forCall tape i) w.heap.size i.args ds gs before hval hw' hc (hz.weights hw) (hX _ _ _ (by rfl) hx) hsh hholds).mono fun e W' ⟨v, he, hp⟩ => ?_
 subst he
 exact ChangeSpec.post_blind hp
end Go.Sh

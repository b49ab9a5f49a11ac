/- Chapter 07: a rule parsed by the reference; the law FooterParses. -/
import Derived.Test.YtpooncihlnllnaaDoorU5
namespace Go.Proofs.YtpooncihlnllnaaDoor.H
open Go.Sh Go.RowKit
set_option linter.unusedSimpArgs false
set_option linter.unusedVariables false

def tupB (r : RuleV) (e : Bool) : Str × Str × Int × Int × Int × Int × Int × Int × Int × Int × Int × Int × Int × Int × Bool := (r.std, r.dst, r.off, r.doff, r.a.k, r.a.m, r.a.w, r.a.d, r.a.t, r.b.k, r.b.m, r.b.w, r.b.d, r.b.t, e)
theorem rparse_val (n : Nat) (s : Str) (hn : 200 < n) : clepsydraref07_Parse_f n s = some (match ruleS s with | some r => tupB r true | none => tupB .zero false) := by
  unfold clepsydraref07_Parse_f clepsydraref07_Parse_b ruleS
  by_cases h100 : 100 < s.length
  · rw [cond_pos (by omega), if_pos h100]; rfl
  · rw [cond_neg (by omega), if_neg h100]
    have h1 := nameS_len s
    have h1' := nameS_len1 s
    have h2 := hoursS_len 24 (nameS s).2.1
    have h2' := hoursS_lt 24 (nameS s).2.1
    obtain ⟨j1, k1, a1⟩ := rreader_name_val n (At.start s) false (by omega) (by omega)
    rw [k1]
    simp only [Option.bind_some, Bool.false_or]
    obtain ⟨j2, k2, a2⟩ := rhours_val n 24 a1 (nameS s).2.2 (by omega) (by omega)
    rw [show clepsydraref07_reader_hours_f n (24 : Int) s j1 (nameS s).2.2 = _ from k2]
    simp only [Option.bind_some]
    rw [wi (0 - (hoursS 24 (nameS s).2.1).1) (by omega) (by omega), Int.zero_sub]
    have fin : ∀ (r : RuleV) (t : Str) (i : Int) (bad bad' : Bool), At s t i → r.std.length ≤ 200 → r.dst.length ≤ 200 → (bad = false → bad' = true → rightS r = false) → (bad = true → bad' = true) →
        cond bad' (some (tupB .zero false)) (cond (i != (s.length : Int)) (some (tupB .zero false)) ((clepsydraref07_Right_f n r.std r.dst r.off r.doff r.a.k r.a.m r.a.w r.a.d r.a.t r.b.k r.b.m r.b.w r.b.d r.b.t).bind fun o80 => cond (!o80) (some (tupB .zero false)) (some (tupB r true))))
        = some (match (if bad = false ∧ t = [] ∧ rightS r = true then some r else none) with | some r => tupB r true | none => tupB .zero false) := by
      intro r t i bad bad' a g1 g2 g3 g4
      rw [rright_val n _ _ _ _ _ _ _ _ _ _ _ _ _ _ (by omega) (by omega) (by omega) (by omega)]
      have hi : (i != (s.length : Int)) = !decide (t = []) := by
        have hnum := a.num
        cases t with
        | nil => simp at hnum; simp [hnum]
        | cons c t =>
          have : ¬ i = (s.length : Int) := by simp only [List.length_cons] at hnum; omega
          simp [this]
      rw [hi]
      cases bad with
      | true => rw [g4 rfl]; simp
      | false =>
        cases bad' with
        | true => rw [g3 rfl rfl]; simp
        | false =>
          cases t with
          | cons c t => simp
          | nil => cases h : rightS r <;> simp [h]
    by_cases he : (hoursS 24 (nameS s).2.1).2.1 = []
    · have hr : readS s = (⟨(nameS s).1, [], -(hoursS 24 (nameS s).2.1).1, 0, .zero, .zero⟩, [], (nameS s).2.2 || (hoursS 24 (nameS s).2.1).2.2) := by unfold readS; dsimp only; rw [if_pos he]
      rw [he] at a2
      have hj := a2.nil
      rw [clepsydraref07_Parse_j2, clepsydraref07_Parse_j2_b, clepsydraref07_Parse_j1, clepsydraref07_Parse_j1_b, cond_neg (by omega)]
      simp only [Option.bind_some, cond_false]
      rw [hr]
      exact fin ⟨(nameS s).1, [], -(hoursS 24 (nameS s).2.1).1, 0, .zero, .zero⟩ [] j2 _ _ a2 (by show (nameS s).1.length ≤ 200; omega) (by simp) (fun h h' => by cases h.symm.trans h') (fun h => h)
    · have hr : readS s = restS (nameS s).1 (-(hoursS 24 (nameS s).2.1).1) (hoursS 24 (nameS s).2.1).2.1 ((nameS s).2.2 || (hoursS 24 (nameS s).2.1).2.2) := by unfold readS; dsimp only; rw [if_neg he]
      have hlt : j2 < (s.length : Int) := by
        have hnum := a2.num
        have : 0 < (hoursS 24 (nameS s).2.1).2.1.length := List.length_pos_iff.2 he
        omega
      rw [clepsydraref07_Parse_j2, clepsydraref07_Parse_j2_b, clepsydraref07_Parse_j1, clepsydraref07_Parse_j1_b, cond_pos hlt]
      simp only [Option.bind_some]
      rw [hr]
      have hoff : -5000000 < -(hoursS 24 (nameS s).2.1).1 ∧ -(hoursS 24 (nameS s).2.1).1 < 5000000 := by omega
      generalize ((nameS s).2.2 || (hoursS 24 (nameS s).2.1).2.2) = bad at *
      generalize -(hoursS 24 (nameS s).2.1).1 = off at *
      generalize (hoursS 24 (nameS s).2.1).2.1 = r at *
      cases bad with
      | true =>
        simp only [Bool.not_true, cond_false, Option.bind_some, cond_true]
        unfold restS
        simp
        rfl
      | false =>
        simp only [Bool.not_false, cond_true]
        obtain ⟨j3, k3, a3⟩ := rreader_name_val n a2 false (by omega) (by omega)
        have l3 := nameS_len1 r
        rw [k3]
        simp only [Option.bind_some, Bool.false_or]
        rw [clepsydraref07_Parse_j0, clepsydraref07_Parse_j0_b, next_val n a3]
        simp only [Option.bind_some]
        have hhd : (headI (nameS r).2.1 != 44) = !decide ((nameS r).2.1.head? = some 44) := by
          cases (nameS r).2.1 with
          | nil => rfl
          | cons c q =>
            rw [show (headI (c :: q) != 44) = (c != 44) from bne_byte c 44, List.head?_cons]
            by_cases h : c = 44 <;> simp [h]
        have ho : ∀ (K : Int → Str → Int → Bool → Option (Str × Str × Int × Int × Int × Int × Int × Int × Int × Int × Int × Int × Int × Int × Str × Int × Bool × Str × Str × Int × Int × Int × Int × Int × Int × Int × Int × Int × Int × Int × Int)) (b' : Bool),
          ∃ j, cond (headI (nameS r).2.1 != 44) ((clepsydraref07_reader_hours_f n (24 : Int) s j3 b').bind fun o49 => K (IntKind.i64.wrap (0 - o49.1)) o49.2.1 o49.2.2.1 o49.2.2.2) (K (IntKind.i64.wrap (off + 3600)) s j3 b')
            = K (offS off (nameS r).2.1).1 s j (b' || (offS off (nameS r).2.1).2.2) ∧ At s (offS off (nameS r).2.1).2.1 j := by
          intro K b'
          unfold offS
          rw [hhd]
          have hl := hoursS_lt 24 (nameS r).2.1
          by_cases hc : (nameS r).2.1.head? = some 44
          · rw [decide_eq_true hc, if_pos hc, wi (off + 3600) (by omega) (by omega)]
            exact ⟨j3, by simp, a3⟩
          · rw [decide_eq_false hc, if_neg hc]
            obtain ⟨q, g1, g2⟩ := rhours_val n 24 a3 b' (by omega) (by omega)
            refine ⟨q, ?_, g2⟩
            rw [show clepsydraref07_reader_hours_f n (24 : Int) s j3 b' = _ from g1]
            simp only [Option.bind_some, Bool.not_false, cond_true]
            rw [wi _ (by omega) (by omega), Int.zero_sub]
        obtain ⟨j4, k4, a4⟩ := ho (fun x t i b => some (([] : Str), ([] : Str), 0, 0, 0, 0, 0, 0, 0, 0, 0, 0, 0, 0, t, i, b, (nameS s).1, (nameS r).1, off, x, 0, 0, 0, 0, 0, 0, 0, 0, 0, 0)) (nameS r).2.2
        rw [k4]
        simp only [Option.bind_some]
        obtain ⟨j5, k5, a5⟩ := rmust_val n 44 44 a4 ((nameS r).2.2 || (offS off (nameS r).2.1).2.2) (by omega)
        rw [k5]
        simp only [Option.bind_some]
        obtain ⟨j6, k6, a6⟩ := rday_val n a5 ((nameS r).2.2 || (offS off (nameS r).2.1).2.2 || !(eatS 44 (offS off (nameS r).2.1).2.1).1) (by omega) (by omega)
        rw [k6]
        simp only [Option.bind_some]
        obtain ⟨j7, k7, a7⟩ := rmust_val n 44 44 a6 ((nameS r).2.2 || (offS off (nameS r).2.1).2.2 || !(eatS 44 (offS off (nameS r).2.1).2.1).1 || (dayS (eatS 44 (offS off (nameS r).2.1).2.1).2).2.2 || !dayOK (dayS (eatS 44 (offS off (nameS r).2.1).2.1).2).1) (by omega)
        rw [k7]
        simp only [Option.bind_some]
        obtain ⟨j8, k8, a8⟩ := rday_val n a7 ((nameS r).2.2 || (offS off (nameS r).2.1).2.2 || !(eatS 44 (offS off (nameS r).2.1).2.1).1 || (dayS (eatS 44 (offS off (nameS r).2.1).2.1).2).2.2 || !dayOK (dayS (eatS 44 (offS off (nameS r).2.1).2.1).2).1 || !(eatS 44 (dayS (eatS 44 (offS off (nameS r).2.1).2.1).2).2.1).1) (by omega) (by omega)
        rw [k8]
        simp only [Option.bind_some]
        refine fin (restS (nameS s).1 off r false).1 (restS (nameS s).1 off r false).2.1 j8 (restS (nameS s).1 off r false).2.2 _ a8 (by show (nameS s).1.length ≤ 200; omega) (by show (nameS r).1.length ≤ 200; have := a2.le; omega) ?_ ?_
        · unfold restS
          dsimp only
          intro g1 g2
          unfold rightS
          dsimp only
          have hne : ¬ (nameS r).1 = [] := by
            intro hz
            simp only [Bool.or_eq_false_iff, Bool.false_or] at g1
            have := nameS_bad r g1.1.1.1.1.1
            rw [hz, isName_nil] at this
            cases this
          rw [if_neg hne]
          revert g1 g2
          cases dayOK (dayS (eatS 44 (offS off (nameS r).2.1).2.1).2).1 <;> cases dayOK (dayS (eatS 44 (dayS (eatS 44 (offS off (nameS r).2.1).2.1).2).2.1).2).1 <;> simp
          intro q1 q2 q3 q4 q5 q6
          simp_all
        · unfold restS
          dsimp only
          intro g1
          revert g1
          generalize (nameS r).2.2 = v1
          generalize (offS off (nameS r).2.1).2.2 = v2
          generalize (eatS 44 (offS off (nameS r).2.1).2.1).1 = v3
          generalize (eatS 44 (dayS (eatS 44 (offS off (nameS r).2.1).2.1).2).2.1).1 = v4
          generalize dayS (eatS 44 (offS off (nameS r).2.1).2.1).2 = v5
          generalize dayS (eatS 44 v5.2.1).2 = v6
          cases v1 <;> cases v2 <;> cases v3 <;> cases v4 <;> cases v5.2.2 <;> cases v6.2.2 <;> simp
theorem footerParses_law (n : Nat) (hn : 200 < n) (s : Str) : clepsydralaw07_FooterParses_f n s = some true := by
  unfold clepsydralaw07_FooterParses_f clepsydralaw07_FooterParses_b
  rw [works_val n hn, parse_val n s hn, rparse_val n s hn]
  by_cases h : (s.length : Int) > 200
  · rw [cond_pos h]; rfl
  · rw [cond_neg h]
    cases ruleS s with
    | none => simp [tupR, tupB, clepsydralaw07_plain_f, clepsydralaw07_plain_b]
    | some r => simp [tupR, tupB, clepsydralaw07_plain_f, clepsydralaw07_plain_b]
end Go.Proofs.YtpooncihlnllnaaDoor.H

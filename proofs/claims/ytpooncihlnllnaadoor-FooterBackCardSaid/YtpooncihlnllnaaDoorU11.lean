/- Chapter 07: the law FooterBack. -/
import Derived.Test.YtpooncihlnllnaaDoorT3
import Derived.Test.YtpooncihlnllnaaDoorU10
namespace Go.Proofs.YtpooncihlnllnaaDoor.H
open Go.Sh Go.RowKit
set_option linter.unusedSimpArgs false
set_option linter.unusedVariables false

theorem back_first (n : Nat) (hn : 200 < n) (r : RuleV) (s : Str) (hs : r.std.length ≤ 50) (hd : r.dst.length ≤ 50) :
    ((footer_Text_f n r.std r.dst r.off r.doff r.a.k r.a.m r.a.w r.a.d r.a.t r.b.k r.b.m r.b.w r.b.d r.b.t).bind fun o =>
      clepsydralaw07_FooterBack_j1 n s o.1 o.2 r.std r.dst r.off r.doff r.a.k r.a.m r.a.w r.a.d r.a.t r.b.k r.b.m r.b.w r.b.d r.b.t)
    = some (Sum.inr s) := by
  cases h : rightS r with
  | false =>
    rw [text_bad n r hn hs hd h]
    rfl
  | true =>
    have hl := textT_len r h
    rw [text_val n r hn h]
    simp only [Option.bind_some]
    rw [clepsydralaw07_FooterBack_j1, clepsydralaw07_FooterBack_j1_b, parse_val n _ hn, ruleS_text r h]
    simp only [Option.bind_some, beq_self_eq_true, cond_true]
    rw [cond_pos (by simp only [List.length_cons, List.length_nil]; omega), parse_val n _ hn, ruleS_comma r h]
    simp only [Option.bind_some]
    rw [clepsydralaw07_FooterBack_j0, clepsydralaw07_FooterBack_j0_b]
    simp [tupR]
theorem footerBack_law (n : Nat) (hn : 200 < n) (r : RuleV) (s : Str) : clepsydralaw07_FooterBack_f n r.std r.dst r.off r.doff r.a.k r.a.m r.a.w r.a.d r.a.t r.b.k r.b.m r.b.w r.b.d r.b.t s = some true := by
  unfold clepsydralaw07_FooterBack_f clepsydralaw07_FooterBack_b
  rw [clepsydralaw07_FooterBack_j2, clepsydralaw07_FooterBack_j2_b, works_val n hn]
  by_cases h1 : (r.std.length : Int) > 50
  · rw [cond_pos h1]; rfl
  · rw [cond_neg h1]
    by_cases h2 : (r.dst.length : Int) > 50
    · rw [cond_pos h2]; rfl
    · rw [cond_neg h2]
      by_cases h3 : (s.length : Int) > 200
      · rw [decide_eq_true h3]; rfl
      · rw [decide_eq_false h3]
        simp only [Option.bind_some, cond_false]
        have hf := back_first n hn r s (by omega) (by omega)
        obtain ⟨o, ho1, ho2⟩ := Option.bind_eq_some_iff.1 hf
        rw [ho1]
        simp only [Option.bind_some]
        rw [ho2]
        simp only [Option.bind_some, Sum.elim_inr]
        rw [parse_val n s hn]
        cases hy : ruleS s with
        | none => simp [tupR]
        | some y =>
          obtain ⟨g1, g2⟩ := ruleS_right hy
          have q1 := right_of g1
          have q2 := isName_len q1.1
          have q3 : y.dst.length ≤ 10 := by
            rcases q1.2.2.2 with ⟨q, _⟩ | ⟨q, _⟩
            · rw [q]; simp
            · exact (isName_len q).2.1
          simp only [Option.bind_some, tupR]
          rw [text_val n y hn g1]
          simp only [Option.bind_some]
          rw [parse_val n _ hn, ruleS_text y g1, right_val n _ _ _ _ _ _ _ _ _ _ _ _ _ _ (by omega) (by omega) (by omega) (by omega)]
          simp only [Option.bind_some, tupR]
          rw [show rightS ⟨y.std, y.dst, y.off, y.doff, ⟨y.a.k, y.a.m, y.a.w, y.a.d, y.a.t⟩, ⟨y.b.k, y.b.m, y.b.w, y.b.d, y.b.t⟩⟩ = true from g1]
          have hlen : decide (((textT y).length : Int) ≤ (s.length : Int)) = true := by rw [decide_eq_true_eq]; omega
          rw [hlen]
          simp
end Go.Proofs.YtpooncihlnllnaaDoor.H

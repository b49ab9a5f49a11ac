/- Chapter 02: the laws TimespanParse, TimespanBack, TimespanOrder. -/
import Derived.Test.YtmdnbpndhnjiaaaDoorU7
import Derived.Test.YtmdnbpndhnjiaaaDoorT25
namespace Go.Proofs.YtmdnbpndhnjiaaaDoor.H
open Go.Sh Go.RowKit
set_option linter.unusedSimpArgs false
set_option linter.unusedVariables false

theorem is_val (n : Nat) (s : Str) (m e : Int) (hn : s.length < n) (hl : s.length < 281474976710656) : clepsydralaw02_is_f n s m e = some (decide (parseS s = (m, e))) := by
  unfold clepsydralaw02_is_f clepsydralaw02_is_b
  rw [Parse_val n s hn hl, Option.bind_some]
  by_cases h1 : (parseS s).1 = m
  · rw [show ((parseS s).1 == m) = true by simpa using h1, cond_true]
    congr 1
    rw [Bool.eq_iff_iff, beq_iff_eq, decide_eq_true_eq, Prod.ext_iff]
    simp [h1]
  · rw [show ((parseS s).1 == m) = false by simpa using h1, cond_false]
    congr 1
    rw [eq_comm, decide_eq_false_iff_not, Prod.ext_iff]
    exact fun h => h1 h.1
theorem works_val (n : Nat) (hn : 200 < n) : clepsydralaw02_works_f n = some true := by
  unfold clepsydralaw02_works_f clepsydralaw02_works_b
  rw [is_val n _ _ _ (by simp only [List.length_cons, List.length_nil]; omega) (by simp), Option.bind_some, is_val n _ _ _ (by simp only [List.length_cons, List.length_nil]; omega) (by simp), Option.bind_some, is_val n _ _ _ (by simp only [List.length_cons, List.length_nil]; omega) (by simp), Option.bind_some, is_val n _ _ _ (by simp only [List.length_cons, List.length_nil]; omega) (by simp), Option.bind_some]
  have e1 : parseS [49, 104, 32, 51, 48, 109, 105, 110] = (5400000000, 0) := by
    have := parse_text 5400000000 (by omega) (by omega)
    rw [show textS 5400000000 = [49, 104, 32, 51, 48, 109, 105, 110] by decide +kernel] at this
    exact this
  have one : ∀ (w f b u : Str) (g v : Nat), w.all digB = true → w ≠ [] → (f = [] ∧ g = 0 ∨ ∃ d : Str, f = 46 :: d ∧ d.all digB = true ∧ d.length = 6 ∧ g = valN d) → b.all blkB = true → u.all letB = true → unitN u ≠ 0 → longS (valN w) g (unitN u) = v → v < 9223372036854775807 → parseS (w ++ (f ++ (b ++ u))) = ((v : Int), 0) := by
    intro w f b u g v h1 h2 h3 h4 h5 h6 h7 h8
    rw [parse_items (items_one w f b u g h1 h2 h3 h4 h5 h6) (by simp), totS]
    subst h7
    rw [show ([longS (valN w) g (unitN u)] : List Nat).sum = longS (valN w) g (unitN u) by simp, if_pos h8]
  have e2 : parseS [53] = (5000000, 0) := one [53] [] [] [] 0 5000000 (by decide) (by decide) (.inl ⟨rfl, rfl⟩) rfl rfl (by decide) (by decide) (by omega)
  have e4 : parseS [50, 119, 101, 101, 107, 115] = (1209600000000, 0) := one [50] [] [] [119, 101, 101, 107, 115] 0 1209600000000 (by decide) (by decide) (.inl ⟨rfl, rfl⟩) rfl rfl (by decide) (by decide) (by omega)
  have e3 : parseS [49, 46, 53, 115] = (1500000, 0) := by
    have hp : partS [49, 46, 53, 115] = some (1500000, []) := by decide +kernel
    have hi : itemsS [49, 46, 53, 115] = some [1500000] := by
      rw [itemsS_some (v := 1500000) (r := []) (by decide) (by exact hp), itemsS_nil rfl]; rfl
    rw [parse_items hi (by simp)]
    decide
  rw [e1, e2, e3, e4]
  simp only [decide_true, cond_true]
  rw [Text_val n (by omega) _ (by omega), Option.bind_some]
  have e5 : textS 5400000001 = [49, 104, 32, 51, 48, 109, 105, 110, 32, 49, 117, 115] := by decide +kernel
  rw [e5]
  rfl

/-! ### any text -/
theorem code_val (n : Nat) (s : Str) : (clepsydralaw02_TimespanParse_j1 n (refS s).2 0).bind (fun o => clepsydralaw02_TimespanParse_j0 n (refS s).2 o) = some (parseS s).2 ∧ (refS s).1 = (parseS s).1 := by
  unfold refS parseS
  split
  · exact ⟨rfl, rfl⟩
  · split
    · exact ⟨rfl, rfl⟩
    · cases itemsS (trimS s) with
      | none => exact ⟨rfl, rfl⟩
      | some l =>
        simp only [totS]
        split <;> exact ⟨rfl, rfl⟩
theorem TimespanParse_law (n : Nat) (hn : 2000 ≤ n) (s : Str) : clepsydralaw02_TimespanParse_f n s = some true := by
  unfold clepsydralaw02_TimespanParse_f clepsydralaw02_TimespanParse_b
  by_cases h : s.length > 400
  · rw [cond_pos (by omega), works_val n (by omega)]; rfl
  · rw [cond_neg (by omega), Parse_val n s (by omega) (by omega), Option.bind_some, rParse_val n s (by omega) (by omega) (by omega), Option.bind_some]
    obtain ⟨h1, h2⟩ := code_val n s
    obtain ⟨c, h3, h4⟩ := Option.bind_eq_some_iff.1 h1
    rw [h3, Option.bind_some, h4, Option.bind_some, h2, beq_self_eq_true, beq_self_eq_true, cond_true, cond_true, works_val n (by omega)]
    rfl

/-! ### there and back -/
theorem TimespanBack_law (n : Nat) (hn : 2000 ≤ n) (a : Int) (ha : a ≤ 9223372036854775807) : clepsydralaw02_TimespanBack_f n a = some true := by
  have hl := textS_len a ha
  unfold clepsydralaw02_TimespanBack_f clepsydralaw02_TimespanBack_b
  rw [Text_val n (by omega) a ha, Option.bind_some, rText_val n (by omega) a ha, Option.bind_some, beq_self_eq_true, Bool.not_true, cond_false]
  by_cases h : a < 0
  · rw [cond_pos h]
    unfold clepsydralaw02_TimespanBack_j0 clepsydralaw02_TimespanBack_j0_b
    rw [show textS a = [] by unfold textS; rw [if_pos h], beq_self_eq_true, cond_true, works_val n (by omega)]
    rfl
  · have hp := parse_text a (by omega) ha
    have hq := parse_pad [32, 9] (textS a) [9, 32] (by decide) (by decide)
    rw [cond_neg h, is_val n _ _ _ (by omega) (by omega), Option.bind_some, hp, decide_eq_true rfl, cond_true, cond_pos (by simp only [List.length_cons, List.length_nil]; omega), cond_pos (by simp only [List.length_append, List.length_cons, List.length_nil]; omega),
      is_val n _ _ _ (by simp only [List.length_append, List.length_cons, List.length_nil]; omega) (by simp only [List.length_append, List.length_cons, List.length_nil]; omega), Option.bind_some, hq, hp, decide_eq_true rfl, cond_true, works_val n (by omega)]
    rfl

/-! ### either way round -/
theorem parse_two {a b : Str} {c : UInt8} {l m : List Nat} (hc : blkB c = true) (ha : itemsS a = some l) (hl : l ≠ []) (hb : itemsS b = some m) : parseS (a ++ [c] ++ b) = totS (l ++ m) := by
  rw [List.append_assoc, List.singleton_append]
  exact parse_items (items_two hc ha hb) (by simp [hl])
theorem TimespanOrder_law (n : Nat) (hn : 2000 ≤ n) (a b : Str) : clepsydralaw02_TimespanOrder_f n a b = some true := by
  unfold clepsydralaw02_TimespanOrder_f clepsydralaw02_TimespanOrder_b
  have hw := works_val n (by omega)
  have hj2 : clepsydralaw02_TimespanOrder_j2 n a b = some (decide (a.length > 200) || decide (b.length > 200)) := by
    unfold clepsydralaw02_TimespanOrder_j2 clepsydralaw02_TimespanOrder_j2_b
    by_cases h1 : a.length > 200
    · rw [cond_pos (by omega), decide_eq_true h1]; rfl
    · rw [cond_neg (by omega), decide_eq_false h1, Bool.false_or]
      congr 1
      rw [decide_eq_decide]; omega
  rw [hj2, Option.bind_some]
  cases hlong : (decide (a.length > 200) || decide (b.length > 200)) with
  | true => rw [cond_true, hw]; rfl
  | false =>
    simp only [Bool.or_eq_false_iff, decide_eq_false_iff_not] at hlong
    rw [cond_false, Parse_val n a (by omega) (by omega), Option.bind_some, Parse_val n b (by omega) (by omega), Option.bind_some]
    have hj1 : clepsydralaw02_TimespanOrder_j1 n (parseS a).1 (parseS a).2 (parseS b).1 (parseS b).2 = some (decide ((parseS a).2 ≠ 0 ∨ (parseS b).2 ≠ 0 ∨ (parseS a).1 = 9223372036854775807 ∨ (parseS b).1 = 9223372036854775807)) := by
      unfold clepsydralaw02_TimespanOrder_j1 clepsydralaw02_TimespanOrder_j1_b
      by_cases h1 : (parseS a).2 = 0
      · rw [h1, show ((0 : Int) != 0) = false by rfl, cond_false]
        by_cases h2 : (parseS b).2 = 0
        · rw [h2, show ((0 : Int) != 0) = false by rfl, cond_false]
          by_cases h3 : (parseS a).1 = 9223372036854775807
          · rw [h3]; simp
          · rw [show ((parseS a).1 == 9223372036854775807) = false by simpa using h3, cond_false]
            congr 1
            rw [Bool.eq_iff_iff, beq_iff_eq, decide_eq_true_eq]
            simp [h3]
        · rw [show ((parseS b).2 != 0) = true by simpa using h2]
          simp [h2]
      · rw [show ((parseS a).2 != 0) = true by simpa using h1]
        simp [h1]
    rw [hj1, Option.bind_some]
    by_cases hno : (parseS a).2 ≠ 0 ∨ (parseS b).2 ≠ 0 ∨ (parseS a).1 = 9223372036854775807 ∨ (parseS b).1 = 9223372036854775807
    · rw [cond_pos hno, hw]; rfl
    · rw [cond_neg hno]
      simp only [not_or, ne_eq, Decidable.not_not] at hno
      obtain ⟨h1, h2, h3, h4⟩ := hno
      obtain ⟨l, k1, k2, k3, k4⟩ := items_parse (s := a) (m := (parseS a).1) (Prod.ext rfl h1) h3
      obtain ⟨m, g1, g2, g3, g4⟩ := items_parse (s := b) (m := (parseS b).1) (Prod.ext rfl h2) h4
      have t1 := parse_two (c := 32) (by decide) k1 k2 g1
      have t2 := parse_two (c := 32) (by decide) g1 g2 k1
      have t3 := parse_two (c := 9) (by decide) g1 g2 k1
      have s1 : (l ++ m).sum = l.sum + m.sum := List.sum_append
      have s2 : (m ++ l).sum = m.sum + l.sum := List.sum_append
      rw [k3, g3]
      rw [IntWalk.i64_in ((9223372036854775806 : Int) - (m.sum : Int)) (by omega)]
      have len : ∀ x : UInt8, (a ++ [x] ++ b).length ≤ 401 ∧ (b ++ [x] ++ a).length ≤ 401 := fun x => by
        simp only [List.length_append, List.length_cons, List.length_nil]; omega
      by_cases hg : l.sum + m.sum < 9223372036854775807
      · rw [cond_neg (by omega), cond_pos (by simp only [List.length_cons, List.length_nil]; omega), cond_pos (by simp only [List.length_append, List.length_cons, List.length_nil]; omega)]
        rw [is_val n _ _ _ (by have := (len 32).1; omega) (by have := (len 32).1; omega), Option.bind_some, t1, totS, s1, if_pos hg]
        rw [IntWalk.i64_in ((l.sum : Int) + (m.sum : Int)) (by omega), decide_eq_true (by rw [Int.natCast_add]), cond_true]
        rw [cond_pos (by simp only [List.length_cons, List.length_nil]; omega), cond_pos (by simp only [List.length_append, List.length_cons, List.length_nil]; omega)]
        rw [is_val n _ _ _ (by have := (len 9).2; omega) (by have := (len 9).2; omega), Option.bind_some, t3, totS, s2, if_pos (by omega)]
        rw [decide_eq_true (by rw [Int.natCast_add, Int.add_comm]), cond_true, hw]
        rfl
      · rw [cond_pos (by omega)]
        unfold clepsydralaw02_TimespanOrder_j0 clepsydralaw02_TimespanOrder_j0_b
        rw [cond_pos (by simp only [List.length_cons, List.length_nil]; omega), cond_pos (by simp only [List.length_append, List.length_cons, List.length_nil]; omega)]
        rw [is_val n _ _ _ (by have := (len 32).1; omega) (by have := (len 32).1; omega), Option.bind_some, t1, totS, s1, if_neg hg, decide_eq_true rfl, cond_true]
        rw [cond_pos (by simp only [List.length_cons, List.length_nil]; omega), cond_pos (by simp only [List.length_append, List.length_cons, List.length_nil]; omega)]
        rw [is_val n _ _ _ (by have := (len 32).2; omega) (by have := (len 32).2; omega), Option.bind_some, t2, totS, s2, if_neg (by omega), decide_eq_true rfl, cond_true, hw]
        rfl
end Go.Proofs.YtmdnbpndhnjiaaaDoor.H

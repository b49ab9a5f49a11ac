/- Chapter 02: the laws TimespanSums and TimespanKnown. -/
import Derived.Test.YtmdnbpndhnjiaaaDoorU9
import Derived.Test.YtmdnbpndhnjiaaaDoorT4
import Derived.Test.YtmdnbpndhnjiaaaDoorT5
namespace Go.Proofs.YtmdnbpndhnjiaaaDoor.H
open Go.Sh Go.RowKit
set_option linter.unusedSimpArgs false
set_option linter.unusedVariables false

/-- So often, each with a tab behind. -/
def repS (s : Str) : Nat → Str
  | 0 => []
  | k + 1 => (repS s k ++ s) ++ [9]
theorem repS_len (s : Str) : ∀ k, (repS s k).length = k * (s.length + 1)
  | 0 => by simp [repS]
  | k + 1 => by
    rw [repS, List.length_append, List.length_append, repS_len s k, Nat.succ_mul]
    simp only [List.length_cons, List.length_nil]; omega
theorem repS_items (s : Str) (l : List Nat) (h : itemsS s = some l) (hne : l ≠ []) : ∀ k, ∃ L : List Nat, itemsS (repS s k ++ s) = some L ∧ L ≠ [] ∧ L.sum = (k + 1) * l.sum
  | 0 => ⟨l, h, hne, by omega⟩
  | k + 1 => by
    obtain ⟨L, h1, h2, h3⟩ := repS_items s l h hne k
    refine ⟨L ++ l, ?_, by simp [h2], by rw [List.sum_append, h3, Nat.succ_mul (k + 1)]⟩
    rw [repS, List.append_assoc, List.singleton_append]
    exact items_two (by decide) h1 h
theorem sums_loop (n : Nat) (s : Str) (hs : s.length ≤ 1000) (w : Nat) (hw : w ≤ 1000) : ∀ (m i : Nat), w - i < m → i ≤ w → clepsydralaw02_TimespanSums_l0 n m s (w : Int) (repS s i) (i : Int) = some (repS s w)
  | 0, i, hm, _ => by omega
  | m + 1, i, hm, hi => by
    rw [clepsydralaw02_TimespanSums_l0, clepsydralaw02_TimespanSums_l0_b]
    by_cases h : i < w
    · have hl := repS_len s i
      have hle : i * (s.length + 1) ≤ 1000 * 1001 := Nat.mul_le_mul (by omega) (by omega)
      rw [cond_pos (by omega), cond_pos (by omega), cond_pos (by simp only [List.length_append, List.length_cons, List.length_nil]; omega), wrap1 i (by omega)]
      exact sums_loop n s hs w hw m (i + 1) (by omega) (by omega)
    · rw [cond_neg (by omega), show i = w by omega]
theorem tot_lt {l : List Nat} {v : Nat} (h : l.sum = v) (hv : v < 9223372036854775807) : totS l = ((v : Int), 0) := by
  unfold totS; rw [if_pos (by omega), h]
theorem tot_ge {l : List Nat} (h : ¬ l.sum < 9223372036854775807) : totS l = (0, 6) := by
  unfold totS; rw [if_neg h]
theorem sums_nat (n : Nat) (hn : 2000 ≤ n) (a b c : Nat) (ha : a < 9223372036854775807) (hb : b < 9223372036854775807) (hc : c < 256) : clepsydralaw02_TimespanSums_f n (a : Int) (b : Int) (c : Int) = some true := by
  unfold clepsydralaw02_TimespanSums_f clepsydralaw02_TimespanSums_b
  have hw := works_val n (by omega)
  have hj2 : clepsydralaw02_TimespanSums_j2 n (a : Int) (b : Int) = some false := by
    unfold clepsydralaw02_TimespanSums_j2 clepsydralaw02_TimespanSums_j2_b
    rw [cond_neg (by omega), cond_neg (by omega), show (((a : Nat) : Int) == 9223372036854775807) = false by rw [beq_eq_false_iff_ne]; omega, cond_false, show (((b : Nat) : Int) == 9223372036854775807) = false by rw [beq_eq_false_iff_ne]; omega]
  obtain ⟨l, k1, k2, k3⟩ := items_textS (a : Int) (by omega) (by omega)
  obtain ⟨m, g1, g2, g3⟩ := items_textS (b : Int) (by omega) (by omega)
  have k3 : l.sum = a := by omega
  have g3 : m.sum = b := by omega
  have la := textS_len (a : Int) (by omega)
  have lb := textS_len (b : Int) (by omega)
  rw [hj2, Option.bind_some, cond_false, Text_val n (by omega) _ (by omega), Option.bind_some, Text_val n (by omega) _ (by omega), Option.bind_some]
  have t1 := parse_two (c := 32) (by decide) k1 k2 g1
  have s1 : (l ++ m).sum = a + b := by rw [List.sum_append, k3, g3]
  generalize textS (a : Int) = s at *
  generalize textS (b : Int) = t at *
  have len : ((s ++ [32]) ++ t).length ≤ 301 := by simp only [List.length_append, List.length_cons, List.length_nil]; omega
  have len2 : (s ++ [32]).length + t.length ≤ 9223372036854775807 := by rw [← List.length_append]; omega
  rw [IntWalk.i64_in ((9223372036854775806 : Int) - (b : Int)) (by omega)]
  by_cases hg : a + b < 9223372036854775807
  · rw [cond_neg (by omega)]
    have e1 : Int.tmod (c : Int) 9 = ((c % 9 : Nat) : Int) := rfl
    have hk := Nat.mod_lt c (show 0 < 9 by omega)
    rw [e1, i64N (c % 9) (by omega), wrap1 (c % 9) (by omega)]
    generalize c % 9 = k at hk ⊢
    obtain ⟨L, h1, h2, h3⟩ := repS_items s l k1 k2 k
    rw [k3] at h3
    have hL : parseS (repS s (k + 1)) = totS L := by
      refine parse_items ?_ h2
      rw [repS, itemsS_blanks _ [9] (by decide), h1]
    have hlen := repS_len s (k + 1)
    have hlen' : (k + 1) * (s.length + 1) ≤ 9 * 151 := Nat.mul_le_mul (by omega) (by omega)
    have hloop := sums_loop n s (by omega) (k + 1) (by omega) n 0 (by omega) (by omega)
    rw [show repS s 0 = [] by rfl, show ((0 : Nat) : Int) = 0 by rfl] at hloop
    rw [hloop, Option.bind_some, show ((((k + 1 : Nat)) : Int) == 0) = false by rw [beq_eq_false_iff_ne]; omega, cond_false]
    have e2 : Int.tdiv (9223372036854775806 : Int) ((k + 1 : Nat) : Int) = ((9223372036854775806 / (k + 1) : Nat) : Int) := rfl
    have hd := Nat.div_le_self 9223372036854775806 (k + 1)
    have hdv := Nat.div_lt_iff_lt_mul (x := 9223372036854775806) (y := a) (Nat.succ_pos k)
    rw [Nat.mul_comm] at hdv
    rw [e2, i64N _ (by omega)]
    generalize 9223372036854775806 / (k + 1) = d at hd hdv ⊢
    generalize hp : (k + 1) * a = p at hdv h3
    by_cases hgt : d < a
    · have := hdv.1 hgt
      rw [cond_pos (by omega)]
      unfold clepsydralaw02_TimespanSums_j0 clepsydralaw02_TimespanSums_j0_b
      rw [is_no n _ (by omega) (by omega) (by rw [hL, tot_ge (by omega)]), Option.bind_some, cond_true, hw]
      rfl
    · have : ¬ 9223372036854775806 < p := fun h => hgt (hdv.2 h)
      rw [cond_neg (by omega), cond_pos (by simp only [List.length_cons, List.length_nil]; omega), cond_pos len2, ← Int.natCast_add, i64N (a + b) (by omega), is_yes n _ _ (by omega) (by omega) (by rw [t1, tot_lt s1 (by omega)]), Option.bind_some, cond_true,
        ← Int.natCast_mul, Nat.mul_comm a, hp, i64N p (by omega), is_yes n _ _ (by omega) (by omega) (by rw [hL, tot_lt h3 (by omega)]), Option.bind_some, cond_true, hw]
      rfl
  · rw [cond_pos (by omega)]
    unfold clepsydralaw02_TimespanSums_j1 clepsydralaw02_TimespanSums_j1_b
    rw [cond_pos (by simp only [List.length_cons, List.length_nil]; omega), cond_pos len2, is_no n _ (by omega) (by omega) (by rw [t1, tot_ge (by omega)]), Option.bind_some, cond_true, hw]
    rfl
theorem TimespanSums_law (n : Nat) (hn : 2000 ≤ n) (a b c : Int) (ha : a ≤ 9223372036854775807) (hb : b ≤ 9223372036854775807) (hc : 0 ≤ c ∧ c < 256) : clepsydralaw02_TimespanSums_f n a b c = some true := by
  by_cases h : a < 0 ∨ b < 0 ∨ a = 9223372036854775807 ∨ b = 9223372036854775807
  · unfold clepsydralaw02_TimespanSums_f clepsydralaw02_TimespanSums_b
    have hj2 : clepsydralaw02_TimespanSums_j2 n a b = some true := by
      unfold clepsydralaw02_TimespanSums_j2 clepsydralaw02_TimespanSums_j2_b
      by_cases h1 : a < 0
      · rw [cond_pos h1]
      · rw [cond_neg h1]
        by_cases h2 : b < 0
        · rw [cond_pos h2]
        · rw [cond_neg h2]
          by_cases h3 : a = 9223372036854775807
          · rw [h3]; rfl
          · rw [show (a == 9223372036854775807) = false by rw [beq_eq_false_iff_ne]; omega, cond_false, show b = 9223372036854775807 by omega]; rfl
    rw [hj2, Option.bind_some, cond_true, works_val n (by omega)]
    rfl
  · obtain ⟨a, rfl⟩ := Int.eq_ofNat_of_zero_le (show 0 ≤ a by omega)
    obtain ⟨b, rfl⟩ := Int.eq_ofNat_of_zero_le (show 0 ≤ b by omega)
    obtain ⟨c, rfl⟩ := Int.eq_ofNat_of_zero_le hc.1
    exact sums_nat n hn a b c (by omega) (by omega) (by omega)

/-! ### the known ones -/
theorem known_l2 (n : Nat) (hn : 2000 ≤ n) (l : List Str) (hl : l.length < 9223372036854775807) : ∀ (m i : Nat), l.length - i < m → i ≤ l.length → clepsydralaw02_TimespanKnown_l2 n m l (l.length : Int) (i : Int) = some (Sum.inr ())
  | 0, i, hm, _ => by omega
  | m + 1, i, hm, hi => by
    rw [clepsydralaw02_TimespanKnown_l2, clepsydralaw02_TimespanKnown_l2_b]
    by_cases h : i < l.length
    · have hj : clepsydralaw02_TimespanKnown_j1 n l[i] = some false := by
        unfold clepsydralaw02_TimespanKnown_j1 clepsydralaw02_TimespanKnown_j1_b
        rw [TimespanParse_law n hn, Option.bind_some, Bool.not_true, cond_false, TimespanOrder_law n hn, Option.bind_some, Bool.not_true, cond_false, TimespanOrder_law n hn, Option.bind_some]
        rfl
      rw [cond_pos (by omega), cond_pos (by omega), Int.toNat_natCast, List.getElem?_eq_getElem h, Option.bind_some, hj, Option.bind_some, cond_false, wrap1 i (by omega)]
      exact known_l2 n hn l hl m (i + 1) (by omega) (by omega)
    · rw [cond_neg (by omega)]
theorem known_l1 (n : Nat) (hn : 2000 ≤ n) (l : List Int) (hl : l.length < 9223372036854775807) (ha : ∀ a ∈ l, a ≤ 9223372036854775807) : ∀ (m i : Nat), l.length - i < m → i ≤ l.length → clepsydralaw02_TimespanKnown_l1 n m l (l.length : Int) (i : Int) = some (Sum.inr ())
  | 0, i, hm, _ => by omega
  | m + 1, i, hm, hi => by
    rw [clepsydralaw02_TimespanKnown_l1, clepsydralaw02_TimespanKnown_l1_b]
    by_cases h : i < l.length
    · rw [cond_pos (by omega), cond_pos (by omega), Int.toNat_natCast, List.getElem?_eq_getElem h, Option.bind_some, TimespanBack_law n hn _ (ha _ (List.getElem_mem h)), Option.bind_some, Bool.not_true, cond_false, wrap1 i (by omega)]
      exact known_l1 n hn l hl ha m (i + 1) (by omega) (by omega)
    · rw [cond_neg (by omega)]
theorem known_l0 (n : Nat) (hn : 2000 ≤ n) : ∀ (m i : Nat), 29 - i < m → i ≤ 29 → clepsydralaw02_TimespanKnown_l0 n m (i : Int) = some (Sum.inr ())
  | 0, i, hm, _ => by omega
  | m + 1, i, hm, hi => by
    rw [clepsydralaw02_TimespanKnown_l0, clepsydralaw02_TimespanKnown_l0_b]
    by_cases h : i < 29
    · have w32 : ∀ z : Int, 0 ≤ IntKind.u32.wrap z ∧ IntKind.u32.wrap z < 4294967296 := fun z => by rw [IntKind.wrap_u32]; omega
      have w8 : ∀ z : Int, 0 ≤ IntKind.u8.wrap z ∧ IntKind.u8.wrap z < 256 := fun z => by rw [IntKind.wrap_u8]; omega
      have hj : clepsydralaw02_TimespanKnown_j0 n (i : Int) = some false := by
        unfold clepsydralaw02_TimespanKnown_j0 clepsydralaw02_TimespanKnown_j0_b
        rw [TimespanUnits_law n hn _ _ _ (w32 _) (w32 _) (w8 _), Option.bind_some, Bool.not_true, cond_false, TimespanUnits_law n hn _ _ _ (by omega) (by omega) (w8 _), Option.bind_some]
        rfl
      rw [cond_pos (by omega), hj, Option.bind_some, cond_false, wrap1 i (by omega)]
      exact known_l0 n hn m (i + 1) (by omega) (by omega)
    · rw [cond_neg (by omega)]
theorem TimespanKnown_law (n : Nat) (hn : 2000 ≤ n) : clepsydralaw02_TimespanKnown_f n = some true := by
  unfold clepsydralaw02_TimespanKnown_f clepsydralaw02_TimespanKnown_b
  have e0 : clepsydralaw02_TimespanKnown_c0.length = 47 := rfl
  have e1 : clepsydralaw02_TimespanKnown_c1.length = 16 := rfl
  have h2 := known_l2 n hn clepsydralaw02_TimespanKnown_c0 (by omega) n 0 (by omega) (by omega)
  have h1 := known_l1 n hn clepsydralaw02_TimespanKnown_c1 (by omega) (by decide) n 0 (by omega) (by omega)
  have h0 := known_l0 n hn n 0 (by omega) (by omega)
  rw [show ((0 : Nat) : Int) = 0 by rfl] at h2 h1 h0
  rw [h2, Option.bind_some, Sum.elim_inr, h1, Option.bind_some, Sum.elim_inr, h0, Option.bind_some, Sum.elim_inr, works_val n (by omega)]
  rfl
end Go.Proofs.YtmdnbpndhnjiaaaDoor.H

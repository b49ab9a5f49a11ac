/- Chapter 02: the reference's parser of a whole text; the law TimespanParse. -/
import Derived.Test.YtmdnbpndhnjiaaaDoorU4
namespace Go.Proofs.YtmdnbpndhnjiaaaDoor.H
open Go.Sh Go.RowKit
set_option linter.unusedSimpArgs false
set_option linter.unusedVariables false

theorem take_get {α : Type} (s : List α) (b i : Nat) : (s.take b)[i]? = if i < b then s[i]? else none := by rw [List.getElem?_take]
/-- Blanks passed over, up to b. -/
theorem skip_val (n : Nat) (s : Str) (b : Nat) (hb : b ≤ s.length) (hl : s.length < 9223372036854775807) (i : Nat) (hi : i ≤ b) (hn : s.length < n) : clepsydraref02_Parse_l1 n n s (i : Int) (b : Int) = some (((i + (((s.take b).drop i).takeWhile blkB).length : Nat) : Int)) := by
  have hlen : (s.take b).length = b := by rw [List.length_take]; omega
  exact idxL (s.take b) (fun m i => clepsydraref02_Parse_l1 n m s i (b : Int)) (fun m i c r hd => by
    obtain ⟨k1, k2, k3⟩ := drop_cons hd
    rw [hlen] at k3
    rw [take_get, if_pos k3] at k1
    rw [clepsydraref02_Parse_l1, clepsydraref02_Parse_l1_b, clepsydraref02_Parse_j0, clepsydraref02_Parse_j0_b, cond_pos (by omega), cond_pos (by omega), Int.toNat_natCast, k1]
    simp only [Option.bind_some, rblank_val, wrap1 i (by omega)]
    cases blkB c <;> rfl) (fun m i hd => by
    have := drop_nil hd
    rw [hlen] at this
    rw [clepsydraref02_Parse_l1, clepsydraref02_Parse_l1_b, clepsydraref02_Parse_j0, clepsydraref02_Parse_j0_b, cond_neg (by omega)]
    rfl) n i (by omega) (by omega)
theorem skip0_val (n : Nat) (s : Str) (hl : s.length < 9223372036854775807) (hn : s.length < n) : clepsydraref02_Parse_l3 n n s 0 (s.length : Int) = some (((s.takeWhile blkB).length : Nat) : Int) := by
  have h := idxL s (p := blkB) (fun m i => clepsydraref02_Parse_l3 n m s i (s.length : Int)) (fun m i c r hd => by
    obtain ⟨k1, k2, k3⟩ := drop_cons hd
    rw [clepsydraref02_Parse_l3, clepsydraref02_Parse_l3_b, clepsydraref02_Parse_j4, clepsydraref02_Parse_j4_b, cond_pos (by omega), cond_pos (by omega), Int.toNat_natCast, k1]
    simp only [Option.bind_some, rblank_val, wrap1 i (by omega)]
    cases blkB c <;> rfl) (fun m i hd => by
    have := drop_nil hd
    rw [clepsydraref02_Parse_l3, clepsydraref02_Parse_l3_b, clepsydraref02_Parse_j4, clepsydraref02_Parse_j4_b, cond_neg (by omega)]
    rfl) n 0 (by omega) (by omega)
  simp only [List.drop_zero, Nat.zero_add] at h
  exact h
theorem rstrip_snoc (X : Str) (c : UInt8) : ((X ++ [c]).reverse.dropWhile blkB).reverse = if blkB c then (X.reverse.dropWhile blkB).reverse else X ++ [c] := by
  rw [List.reverse_append, List.reverse_singleton, List.singleton_append]
  cases hc : blkB c with
  | true => rw [List.dropWhile_cons_of_pos hc]; rfl
  | false => rw [List.dropWhile_cons_of_neg (by simp [hc])]; simp
theorem rstrip_prefix (X : Str) : (X.reverse.dropWhile blkB).reverse <+: X := by
  have h := List.dropWhile_suffix blkB (l := X.reverse)
  obtain ⟨t, ht⟩ := h
  refine ⟨t.reverse, ?_⟩
  rw [← List.reverse_append, ht, List.reverse_reverse]
theorem back_val (n : Nat) (s : Str) (a : Nat) (hl : s.length < 9223372036854775807) : ∀ (m b : Nat), b - a < m → a ≤ b → b ≤ s.length → clepsydraref02_Parse_l2 n m s (a : Int) (b : Int) = some (((a + ((((s.take b).drop a).reverse.dropWhile blkB).reverse).length : Nat) : Int))
  | 0, b, hm, _, _ => by omega
  | m + 1, b, hm, ha, hb => by
    rw [clepsydraref02_Parse_l2, clepsydraref02_Parse_l2_b, clepsydraref02_Parse_j3, clepsydraref02_Parse_j3_b]
    by_cases h : a < b
    · have hw : IntKind.i64.wrap ((b : Int) - 1) = ((b - 1 : Nat) : Int) := by rw [IntWalk.i64_in _ (by omega)]; omega
      have hlt : b - 1 < s.length := by omega
      have hX : (s.take b).drop a = (s.take (b - 1)).drop a ++ [s[b - 1]] := by
        have : s.take b = s.take (b - 1) ++ [s[b - 1]] := by
          conv => lhs; rw [show b = (b - 1) + 1 by omega]
          rw [List.take_add_one, List.getElem?_eq_getElem hlt]; rfl
        rw [this, List.drop_append_of_le_length (by rw [List.length_take]; omega)]
      rw [cond_pos (by omega), hw, cond_pos (by omega), Int.toNat_natCast, List.getElem?_eq_getElem hlt]
      simp only [Option.bind_some, rblank_val]
      rw [hX, rstrip_snoc]
      cases hc : blkB s[b - 1] with
      | true =>
        rw [if_pos rfl, cond_true, back_val n s a hl m (b - 1) (by omega) (by omega) (by omega)]
      | false =>
        rw [if_neg (by simp), cond_false]
        congr 2
        simp only [List.length_append, List.length_drop, List.length_take, List.length_singleton]
        omega
    · have : b = a := by omega
      subst this
      rw [cond_neg (by omega)]
      simp
/-- A sum that is too great stays so. -/
theorem rj2_val (n sum : Nat) (great : Bool) (v : Nat) (hs : sum < 9223372036854775807) : clepsydraref02_Parse_j2 n (sum : Int) great (if v < 9223372036854775807 then (v : Int) else -1) = some (if great = false ∧ sum + v < 9223372036854775807 then (((sum + v : Nat) : Int), false) else ((sum : Int), true)) := by
  unfold clepsydraref02_Parse_j2 clepsydraref02_Parse_j2_b clepsydraref02_Parse_j1 clepsydraref02_Parse_j1_b
  by_cases h1 : v < 9223372036854775807
  · rw [if_pos h1, cond_neg (by omega)]
    cases great with
    | true => simp
    | false =>
      rw [IntWalk.i64_in ((9223372036854775806 : Int) - (v : Int)) (by omega)]
      by_cases h2 : sum + v < 9223372036854775807
      · rw [decide_eq_false (by omega), if_pos ⟨rfl, h2⟩]
        simp only [cond_false, Option.bind_some]
        rw [IntWalk.i64_in _ (by omega)]
        congr 2
      · rw [decide_eq_true (by omega), if_neg (fun h => h2 h.2)]
        rfl
  · rw [if_neg h1, cond_pos (by omega), if_neg (fun h => by omega)]
    rfl
theorem rparse_loop (n : Nat) (s : Str) (b : Nat) (hb : b ≤ s.length) (hn : s.length < n) (hn9 : 9 < n) (hl : s.length < 281474976710656) : ∀ (m i sum : Nat) (great : Bool), b - i < m → i ≤ b → ((s.take b).drop i).dropWhile blkB = (s.take b).drop i → sum < 9223372036854775807 →
    match itemsS ((s.take b).drop i) with
    | none => clepsydraref02_Parse_l0 n m s (i : Int) (b : Int) (sum : Int) great = some (.inl ())
    | some l => ∃ sum' : Nat, clepsydraref02_Parse_l0 n m s (i : Int) (b : Int) (sum : Int) great = some (.inr ((sum' : Int), great || !decide (sum + l.sum < 9223372036854775807))) ∧ (great = false → sum + l.sum < 9223372036854775807 → sum' = sum + l.sum)
  | 0, i, sum, great, hm, _, _, _ => by omega
  | m + 1, i, sum, great, hm, hi, hs, hsum => by
    have hlen : (s.take b).length = b := by rw [List.length_take]; omega
    rw [clepsydraref02_Parse_l0, clepsydraref02_Parse_l0_b]
    by_cases h : i < b
    · have hne : (s.take b).drop i ≠ [] := by
        intro e
        have := drop_nil e
        omega
      have hs' : ((s.take b).drop i).dropWhile blkB ≠ [] := by rw [hs]; exact hne
      rw [cond_pos (by omega), cond_pos (by omega), cond_pos (by omega), Int.toNat_natCast, List.drop_zero]
      have hp := rpart_val n (s.take b) i (by omega) (by omega) hn9 (by omega)
      cases hps : partS ((s.take b).drop i) with
      | none =>
        rw [itemsS_none hs' (by rw [hs]; exact hps)]
        rw [hps] at hp
        simp only at hp ⊢
        rw [hp]
        rfl
      | some x =>
        obtain ⟨v, r⟩ := x
        rw [itemsS_some hs' (by rw [hs]; exact hps)]
        rw [hps] at hp
        obtain ⟨k, hp, hk1, hk2, hk3⟩ := hp
        rw [hlen] at hk2
        rw [hp]
        simp only [Option.bind_some]
        rw [cond_neg (by omega), rj2_val n sum great v hsum]
        simp only [Option.bind_some]
        rw [skip_val n s b hb (by omega) k hk2 hn]
        simp only [Option.bind_some]
        have htl := tw_len (p := blkB) ((s.take b).drop k)
        have hdl := drop_len (s.take b) k
        have hdd : (s.take b).drop (k + (((s.take b).drop k).takeWhile blkB).length) = ((s.take b).drop k).dropWhile blkB := by rw [← List.drop_drop, tw_drop]
        have hit : itemsS ((s.take b).drop (k + (((s.take b).drop k).takeWhile blkB).length)) = itemsS r := by rw [hdd, hk3, itemsS_dw]
        have hdw : ((s.take b).drop (k + (((s.take b).drop k).takeWhile blkB).length)).dropWhile blkB = (s.take b).drop (k + (((s.take b).drop k).takeWhile blkB).length) := by rw [hdd, dw_dw]
        by_cases hg : great = false ∧ sum + v < 9223372036854775807
        · rw [if_pos hg]
          have ih := rparse_loop n s b hb hn hn9 hl m (k + (((s.take b).drop k).takeWhile blkB).length) (sum + v) false (by omega) (by omega) hdw hg.2
          rw [hit] at ih
          cases hi2 : itemsS r with
          | none => rw [hi2] at ih; exact ih
          | some l =>
            rw [hi2] at ih
            obtain ⟨sum', h1, h2⟩ := ih
            refine ⟨sum', ?_, fun _ h4 => ?_⟩
            · rw [hg.1, List.sum_cons, ← Nat.add_assoc]; exact h1
            · simp only [List.sum_cons] at h4 ⊢
              rw [h2 rfl (by omega)]; omega
        · rw [if_neg hg]
          have ih := rparse_loop n s b hb hn hn9 hl m (k + (((s.take b).drop k).takeWhile blkB).length) sum true (by omega) (by omega) hdw hsum
          rw [hit] at ih
          cases hi2 : itemsS r with
          | none => rw [hi2] at ih; exact ih
          | some l =>
            rw [hi2] at ih
            obtain ⟨sum', h1, h2⟩ := ih
            refine ⟨sum', ?_, fun h3 h4 => ?_⟩
            · rw [h1]
              congr 3
              cases great with
              | true => rfl
              | false =>
                have : ¬ (sum + v < 9223372036854775807) := fun h => hg ⟨rfl, h⟩
                have e : decide (sum + (v :: l).sum < 9223372036854775807) = false := decide_eq_false (by rw [List.sum_cons]; omega)
                rw [e]
                rfl
            · simp only [List.sum_cons] at h4
              exact absurd ⟨h3, (show sum + v < 9223372036854775807 by omega)⟩ hg
    · have : (s.take b).drop i = [] := by rw [List.drop_eq_nil_of_le (by omega)]
      rw [this, itemsS_nil rfl, cond_neg (by omega)]
      refine ⟨sum, ?_, fun _ _ => by simp⟩
      have e : decide (sum + ([] : List Nat).sum < 9223372036854775807) = true := decide_eq_true (by simpa using hsum)
      rw [e]
      cases great <;> rfl
/-- What the reference tells. -/
def refS (s : Str) : Int × Int :=
  if trimS s = [105, 110, 102, 105, 110, 105, 116, 121] then (9223372036854775807, 0)
  else if trimS s = [] then (0, 1)
  else match itemsS (trimS s) with
    | none => (0, 1)
    | some l => if l.sum < 9223372036854775807 then ((l.sum : Nat), 0) else (0, 2)
theorem rParse_val (n : Nat) (s : Str) (hn : s.length < n) (hn9 : 9 < n) (hl : s.length < 281474976710656) : clepsydraref02_Parse_f n s = some (refS s) := by
  have h1 := skip0_val n s (by omega) hn
  have ha := tw_len (p := blkB) s
  have h2 := back_val n s (s.takeWhile blkB).length (by omega) n s.length (by omega) ha (Nat.le_refl _)
  rw [List.take_length, tw_drop] at h2
  have hpre := rstrip_prefix (s.dropWhile blkB)
  have hple := hpre.length_le
  have hsum := tw_dw_len (p := blkB) s
  have htr : ((s.dropWhile blkB).reverse.dropWhile blkB).reverse = trimS s := rfl
  rw [htr] at h2 hpre hple
  have hcut : (s.take ((s.takeWhile blkB).length + (trimS s).length)).drop (s.takeWhile blkB).length = trimS s := by
    rw [List.drop_take, tw_drop, Nat.add_sub_cancel_left]
    exact (List.prefix_iff_eq_take.1 hpre).symm
  unfold clepsydraref02_Parse_f clepsydraref02_Parse_b
  rw [h1]
  simp only [Option.bind_some]
  rw [h2]
  simp only [Option.bind_some]
  rw [cond_pos (by omega), cond_pos (by omega), cond_pos (by omega), cond_pos (by omega)]
  simp only [Int.toNat_natCast, hcut]
  unfold refS
  by_cases g1 : trimS s = [105, 110, 102, 105, 110, 105, 116, 121]
  · rw [if_pos g1, g1]; rfl
  · rw [if_neg g1, show (trimS s == [105, 110, 102, 105, 110, 105, 116, 121]) = false by simpa using g1, cond_false]
    by_cases g2 : trimS s = []
    · rw [if_pos g2, g2]
      simp
    · have hpos := List.length_pos_iff.2 g2
      rw [if_neg g2, show ((((s.takeWhile blkB).length : Nat) : Int) == (((s.takeWhile blkB).length + (trimS s).length : Nat) : Int)) = false by simp; omega, cond_false]
      have h := rparse_loop n s ((s.takeWhile blkB).length + (trimS s).length) (by omega) hn hn9 hl n (s.takeWhile blkB).length 0 false (by omega) (by omega) (by rw [hcut, trimS_head]) (by omega)
      rw [hcut] at h
      cases hi : itemsS (trimS s) with
      | none =>
        rw [hi] at h
        rw [show (0 : Int) = ((0 : Nat) : Int) by rfl, h]
        rfl
      | some l =>
        rw [hi] at h
        obtain ⟨sum', h3, h4⟩ := h
        simp only
        rw [show (clepsydraref02_Parse_l0 n n s ((s.takeWhile blkB).length : Int) (((s.takeWhile blkB).length + (trimS s).length : Nat) : Int) 0 false) = (clepsydraref02_Parse_l0 n n s ((s.takeWhile blkB).length : Int) (((s.takeWhile blkB).length + (trimS s).length : Nat) : Int) ((0 : Nat) : Int) false) by rfl, h3]
        simp only [Option.bind_some, Sum.elim_inr, Bool.false_or, Nat.zero_add]
        by_cases h5 : l.sum < 9223372036854775807
        · rw [decide_eq_true h5, if_pos h5, h4 rfl (by rw [Nat.zero_add]; exact h5), Nat.zero_add]
          rfl
        · rw [decide_eq_false h5, if_neg h5]
          rfl
end Go.Proofs.YtmdnbpndhnjiaaaDoor.H

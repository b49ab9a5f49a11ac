/- Chapter 12: WordsKnown. -/
import Derived.Test.YtgcjkimkoppocaaDoorU6
namespace Go.Proofs.YtgcjkimkoppocaaDoor.H
open Go.Sh Go.RowKit
set_option linter.unusedSimpArgs false

theorem kj1 (n : Nat) (hn : 300000 ≤ n) (s : Str) (hs : s.length ≤ 1000) : clepsydralaw12_WordsKnown_j1 n s = some false := by
  unfold clepsydralaw12_WordsKnown_j1 clepsydralaw12_WordsKnown_j1_b
  rw [WordsSplit_law n (by omega)]
  simp only [Option.bind_some, Bool.not_true, cond_false]
  rw [cond_pos (by simp; omega), WordsBack_law n hn]
  simp only [Option.bind_some, Bool.not_true, cond_false, WordsMore_law n (show 2000 ≤ n by omega), WordsPlain_law n (show 2000 ≤ n by omega)]
theorem kj0 (n : Nat) (hn : 300000 ≤ n) (c : Int) : clepsydralaw12_WordsKnown_j0 n c = some false := by
  unfold clepsydralaw12_WordsKnown_j0 clepsydralaw12_WordsKnown_j0_b
  rw [WordsBack_law n hn]
  simp only [Option.bind_some, Bool.not_true, cond_false, strOf_length, List.length_append, List.length_cons, List.length_nil]
  rw [cond_pos (by omega), WordsSplit_law n (by omega)]
  simp only [Option.bind_some, Bool.not_true, cond_false]
  rw [cond_pos (by omega), cond_pos (by omega), WordsSplit_law n (by omega)]
  rfl
theorem kl2 (n : Nat) (hn : 300000 ≤ n) (l : List Str) (hl : l.length ≤ 1000) (hw : ∀ s ∈ l, s.length ≤ 1000) : ∀ (k i : Nat), l.length - i ≤ k → i ≤ l.length → ∀ (m : Nat), k < m →
    clepsydralaw12_WordsKnown_l2 n m l (l.length : Int) (i : Int) = some (.inr ()) := by
  intro k
  induction k with
  | zero =>
    intro i hk hi m hm
    obtain ⟨m, rfl⟩ : ∃ j, m = j + 1 := ⟨m - 1, by omega⟩
    simp only [clepsydralaw12_WordsKnown_l2, clepsydralaw12_WordsKnown_l2_b]
    rw [cond_neg (by omega)]
  | succ k ih =>
    intro i hk hi m hm
    obtain ⟨m, rfl⟩ : ∃ j, m = j + 1 := ⟨m - 1, by omega⟩
    simp only [clepsydralaw12_WordsKnown_l2, clepsydralaw12_WordsKnown_l2_b]
    by_cases h : i < l.length
    · rw [cond_pos (by omega), cond_pos (by omega), Int.toNat_natCast, List.getElem?_eq_getElem h]
      simp only [Option.bind_some]
      rw [kj1 n hn _ (hw _ (List.getElem_mem h))]
      simp only [Option.bind_some, cond_false]
      rw [wrap1 i (by omega)]
      exact ih (i + 1) (by omega) (by omega) m (by omega)
    · rw [cond_neg (by omega)]
theorem kl0 (n : Nat) (hn : 300000 ≤ n) : ∀ (k i : Nat), 256 - i ≤ k → ∀ (m : Nat), k < m → i ≤ 256 → clepsydralaw12_WordsKnown_l0 n m (i : Int) = some (.inr ()) := by
  intro k
  induction k with
  | zero =>
    intro i hk m hm hi
    obtain ⟨m, rfl⟩ : ∃ j, m = j + 1 := ⟨m - 1, by omega⟩
    simp only [clepsydralaw12_WordsKnown_l0, clepsydralaw12_WordsKnown_l0_b]
    rw [cond_neg (by omega)]
  | succ k ih =>
    intro i hk m hm hi
    obtain ⟨m, rfl⟩ : ∃ j, m = j + 1 := ⟨m - 1, by omega⟩
    simp only [clepsydralaw12_WordsKnown_l0, clepsydralaw12_WordsKnown_l0_b]
    by_cases h : i < 256
    · rw [cond_pos (by omega), kj0 n hn]
      simp only [Option.bind_some, cond_false]
      rw [wrap1 i (by omega)]
      exact ih (i + 1) (by omega) m (by omega) (by omega)
    · rw [cond_neg (by omega)]
theorem kl1 (n : Nat) : ∀ (k i : Nat), 64 - i ≤ k → ∀ (m : Nat) (s : Str), k < m → i ≤ 64 → s.length ≤ 2 * i → ∃ v, clepsydralaw12_WordsKnown_l1 n m s (i : Int) = some v ∧ v.length ≤ 128 := by
  intro k
  induction k with
  | zero =>
    intro i hk m s hm hi hs
    obtain ⟨m, rfl⟩ : ∃ j, m = j + 1 := ⟨m - 1, by omega⟩
    simp only [clepsydralaw12_WordsKnown_l1, clepsydralaw12_WordsKnown_l1_b]
    rw [cond_neg (by omega)]
    exact ⟨s, rfl, by omega⟩
  | succ k ih =>
    intro i hk m s hm hi hs
    obtain ⟨m, rfl⟩ : ∃ j, m = j + 1 := ⟨m - 1, by omega⟩
    simp only [clepsydralaw12_WordsKnown_l1, clepsydralaw12_WordsKnown_l1_b]
    by_cases h : i < 64
    · rw [cond_pos (by omega), cond_pos (by simp; omega), wrap1 i (by omega)]
      exact ih (i + 1) (by omega) m _ (by omega) (by omega) (by simp; omega)
    · rw [cond_neg (by omega)]
      exact ⟨s, rfl, by omega⟩
theorem WordsKnown_law (n : Nat) (hn : 300000 ≤ n) : clepsydralaw12_WordsKnown_f n = some true := by
  unfold clepsydralaw12_WordsKnown_f clepsydralaw12_WordsKnown_b
  have h1 := fun (l : List Str) (hl : l.length ≤ 1000) (hw : ∀ s ∈ l, s.length ≤ 1000) => kl2 n hn l hl hw l.length 0 (by omega) (by omega) n (by omega)
  rw [show (0 : Int) = ((0 : Nat) : Int) from rfl, h1 _ (by decide) (by decide)]
  simp only [Option.bind_some, Sum.elim_inr]
  obtain ⟨v, hv, hvl⟩ := kl1 n 64 0 (by omega) n [] (by omega) (by omega) (by simp)
  rw [hv]
  simp only [Option.bind_some]
  rw [kl0 n hn 256 0 (by omega) n (by omega) (by omega)]
  simp only [Option.bind_some, Sum.elim_inr]
  rw [WordsSplit_law n (by omega)]
  simp only [Option.bind_some, cond_true]
  rw [cond_pos (by simp; omega), WordsSplit_law n (by omega)]
  simp only [Option.bind_some, cond_true]
  rw [WordsPlain_law n (by omega)]
  simp only [Option.bind_some, cond_true]
  rw [cond_pos (by simp; omega), WordsPlain_law n (by omega)]
  simp only [Option.bind_some, cond_true]
  rw [WordsBack_law n hn]
  simp only [Option.bind_some, cond_true]
  rw [join_val n [] (by simp; omega) (by simp) (by simp), works_val n (by omega)]
  rfl
end Go.Proofs.YtgcjkimkoppocaaDoor.H

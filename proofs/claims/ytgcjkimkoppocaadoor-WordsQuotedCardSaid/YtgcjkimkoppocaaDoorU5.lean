/- Chapter 12: WordsSplit, WordsMore, WordsPlain, WordsQuoted, as plain laws. -/
import Derived.Test.YtgcjkimkoppocaaDoorU4
namespace Go.Proofs.YtgcjkimkoppocaaDoor.H
open Go.Sh Go.RowKit
set_option linter.unusedSimpArgs false

theorem sp_len : ∀ (s : Str) (c : Sc) (l : List Str), sp c s = some l → l.length ≤ s.length + 1
  | [], .out, l, h => by simp [sp] at h; subst h; simp
  | [], .word q w, l, h => by
    simp only [sp] at h
    split at h
    · injection h with h; subst h; simp
    · cases h
  | [], .esc _ _, l, h => by simp [sp] at h
  | [], .hx _ _, l, h => by simp [sp] at h
  | [], .hy _ _ _, l, h => by simp [sp] at h
  | c :: r, .out, l, h => by
    simp only [sp] at h
    split at h
    · have := sp_len r _ l h; simp; omega
    · have := sp_len r _ l h; simp; omega
  | c :: r, .word q w, l, h => by
    simp only [sp] at h
    split at h
    · cases hx : sp .out r with
      | none => rw [hx] at h; cases h
      | some l' =>
        rw [hx] at h
        injection h with h
        subst h
        have := sp_len r _ l' hx
        simp; omega
    · have := sp_len r _ l h; simp; omega
  | c :: r, .esc q w, l, h => by
    simp only [sp] at h
    split at h
    · have := sp_len r _ l h; simp; omega
    · split at h
      · have := sp_len r _ l h; simp; omega
      · cases h
  | c :: r, .hx q w, l, h => by
    simp only [sp] at h
    split at h
    · have := sp_len r _ l h; simp; omega
    · cases h
  | c :: r, .hy q w x, l, h => by
    simp only [sp] at h
    split at h
    · have := sp_len r _ l h; simp; omega
    · cases h

theorem WordsSplit_law (n : Nat) (hn : 2000 ≤ n) (s : Str) : clepsydralaw12_WordsSplit_f n s = some true := by
  unfold clepsydralaw12_WordsSplit_f clepsydralaw12_WordsSplit_b
  rw [works_val n (by omega)]
  by_cases h : s.length > 1000
  · rw [cond_pos (by omega)]; rfl
  rw [cond_neg (by omega), split_val n s (by omega) (by omega), rsplit_val n s (by omega) (by omega)]
  simp only [Option.bind_some, clepsydralaw12_WordsSplit_j0, clepsydralaw12_WordsSplit_j0_b, clepsydralaw12_WordsSplit_j1, clepsydralaw12_WordsSplit_j1_b, works_val n (show 100 ≤ n by omega)]
  cases hx : sp .out s with
  | none => rfl
  | some l =>
    have hl := sp_len s _ l hx
    simp only [splitR, List.length_nil, Nat.zero_add, List.nil_append, Bool.not_true, cond_false]
    by_cases h64 : 64 < l.length
    · rw [cond_pos (by omega), if_pos h64]; rfl
    · rw [cond_neg (by omega), if_neg h64, same_val n l l (by omega) (by omega)]
      simp

/-- The words of two values, one behind the other. -/
theorem sp_append (b : Str) (x : UInt8) (hx : blankB x = true) : ∀ (a : Str) (c : Sc) (l : List Str), sp c a = some l → sp c (a ++ x :: b) = (sp .out b).map (l ++ ·)
  | [], .out, l, h => by simp [sp] at h; subst h; simp [sp, hx]
  | [], .word q w, l, h => by
    simp only [sp] at h
    split at h
    · rename_i hq
      injection h with h; subst h
      simp [sp, hx, hq]
    · cases h
  | [], .esc _ _, l, h => by simp [sp] at h
  | [], .hx _ _, l, h => by simp [sp] at h
  | [], .hy _ _ _, l, h => by simp [sp] at h
  | c :: r, .out, l, h => by
    simp only [sp, List.cons_append] at h ⊢
    split at h
    · rename_i hc; rw [if_pos hc]; exact sp_append b x hx r _ l h
    · rename_i hc; rw [if_neg hc]; exact sp_append b x hx r _ l h
  | c :: r, .word q w, l, h => by
    simp only [sp, List.cons_append] at h ⊢
    split at h
    · rename_i hc
      rw [if_pos hc]
      cases hr : sp .out r with
      | none => rw [hr] at h; cases h
      | some l' =>
        rw [hr] at h
        injection h with h
        subst h
        rw [sp_append b x hx r _ l' hr]
        cases sp .out b <;> rfl
    · rename_i hc; rw [if_neg hc]; exact sp_append b x hx r _ l h
  | c :: r, .esc q w, l, h => by
    simp only [sp, List.cons_append] at h ⊢
    split at h
    · exact sp_append b x hx r _ l h
    · split at h
      · rename_i hc; rw [if_pos hc]; exact sp_append b x hx r _ l h
      · cases h
  | c :: r, .hx q w, l, h => by
    simp only [sp, List.cons_append] at h ⊢
    split at h
    · exact sp_append b x hx r _ l h
    · cases h
  | c :: r, .hy q w y, l, h => by
    simp only [sp, List.cons_append] at h ⊢
    split at h
    · exact sp_append b x hx r _ l h
    · cases h
theorem splitR_ok {r : Option (List Str)} : (splitR [] r).2 = 0 → ∃ l, r = some l ∧ l.length ≤ 64 ∧ splitR [] r = (l, 0) := by
  intro h
  cases r with
  | none => cases h
  | some l =>
    simp only [splitR, List.length_nil, Nat.zero_add, List.nil_append] at h ⊢
    by_cases h64 : 64 < l.length
    · rw [if_pos h64] at h; cases h
    · exact ⟨l, rfl, by omega, by rw [if_neg h64]⟩
theorem splitR_val (l : List Str) (h : l.length ≤ 64) : splitR [] (some l) = (l, 0) := by
  simp only [splitR, List.length_nil, Nat.zero_add, List.nil_append]
  rw [if_neg (by omega)]
theorem WordsMore_law (n : Nat) (hn : 2000 ≤ n) (a b : Str) : clepsydralaw12_WordsMore_f n a b = some true := by
  unfold clepsydralaw12_WordsMore_f clepsydralaw12_WordsMore_b clepsydralaw12_WordsMore_j1 clepsydralaw12_WordsMore_j1_b
  rw [works_val n (by omega)]
  by_cases h : a.length > 400
  · rw [cond_pos (by omega)]; rfl
  by_cases h' : b.length > 400
  · rw [cond_neg (by omega), decide_eq_true (show (b.length : Int) > 400 by omega)]; rfl
  rw [cond_neg (by omega), decide_eq_false (show ¬(b.length : Int) > 400 by omega), split_val n a (by omega) (by omega), split_val n b (by omega) (by omega)]
  simp only [Option.bind_some, cond_false]
  unfold clepsydralaw12_WordsMore_j0 clepsydralaw12_WordsMore_j0_b
  by_cases h1 : (splitR [] (sp .out a)).2 = 0
  · by_cases h2 : (splitR [] (sp .out b)).2 = 0
    · obtain ⟨l, e1, l1, v1⟩ := splitR_ok h1
      obtain ⟨m, e2, l2, v2⟩ := splitR_ok h2
      rw [v1, v2]
      simp only [bne_self_eq_false, cond_false, Option.bind_some]
      rw [IntWalk.i64_in _ (by omega)]
      by_cases h3 : l.length + m.length > 64
      · rw [decide_eq_true (show (l.length : Int) + (m.length : Int) > 64 by omega)]; rfl
      · rw [decide_eq_false (show ¬(l.length : Int) + (m.length : Int) > 64 by omega)]
        simp only [cond_false, List.nil_append, List.length_nil, List.length_append, List.length_cons]
        rw [cond_pos (by omega), cond_pos (by omega), cond_pos (by omega), cond_pos (by omega), split_val n _ (by simp; omega) (by simp; omega)]
        simp only [Option.bind_some]
        rw [cond_pos (by omega), cond_pos (by omega), cond_pos (by omega), cond_pos (by omega), split_val n _ (by simp; omega) (by simp; omega)]
        simp only [Option.bind_some]
        have e3 : sp .out (a ++ [32] ++ b) = some (l ++ m) := by
          rw [List.append_assoc, List.singleton_append, sp_append b 32 (by decide) a .out l e1, e2]; rfl
        have e4 : sp .out ([32, 9] ++ a ++ [9] ++ b ++ [32]) = some (l ++ m) := by
          have : sp .out (a ++ 9 :: (b ++ 32 :: [])) = some (l ++ m) := by
            rw [sp_append _ 9 (by decide) a .out l e1, sp_append _ 32 (by decide) b .out m e2]
            simp [sp]
          have h5 : ([32, 9] ++ a ++ [9] ++ b ++ [32] : Str) = 32 :: 9 :: (a ++ 9 :: (b ++ 32 :: [])) := by simp
          rw [h5, sp, if_pos (by decide), sp, if_pos (by decide), this]
        rw [e3, e4, splitR_val _ (by simp; omega)]
        simp only [beq_self_eq_true, cond_true]
        rw [same_val n _ _ (by simp; omega) (by simp; omega)]
        simp only [decide_true, Option.bind_some, cond_true]
    · have : ((splitR [] (sp .out b)).2 != 0) = true := by simpa using h2
      rw [this]
      cases (splitR [] (sp .out a)).2 != 0 <;> rfl
  · have : ((splitR [] (sp .out a)).2 != 0) = true := by simpa using h1
    rw [this]
    rfl

/-! ### a value without quotes and backslashes -/
def plainB (c : UInt8) : Bool := !(c == 34 || c == 39 || c == 92)
theorem pj4 (n : Nat) (c : UInt8) : clepsydralaw12_WordsPlain_j4 n (c.toNat : Int) = some (!plainB c) := by
  have h := byte_all (p := fun x => clepsydralaw12_WordsPlain_j4 0 (x : Int) = some (!plainB (UInt8.ofNat x))) (by decide +kernel) c
  rw [UInt8.ofNat_toNat] at h
  exact h
theorem pj3 (n : Nat) (c : UInt8) : clepsydralaw12_WordsPlain_j3 n (c.toNat : Int) = some (!blankB c) := by
  have h := byte_all (p := fun x => clepsydralaw12_WordsPlain_j3 0 (x : Int) = some (!blankB (UInt8.ofNat x))) (by decide +kernel) c
  rw [UInt8.ofNat_toNat] at h
  exact h
def stOf (w : Str) : Sc := if w = [] then .out else .word 0 w
/-- What is wanted, behind a word. -/
def putW (want : List Str) (w : Str) : List Str := if w = [] then want else want ++ [w]
theorem putW_len (want : List Str) (w : Str) (i : Nat) (h : want.length ≤ i) : (putW want w).length ≤ i + 1 := by
  unfold putW
  split
  · omega
  · simp; omega
theorem pj2 (n : Nat) (want : List Str) (w : Str) (h : want.length ≤ 1000000) : clepsydralaw12_WordsPlain_j2 n want w = some (putW want w) := by
  unfold clepsydralaw12_WordsPlain_j2 clepsydralaw12_WordsPlain_j2_b putW
  by_cases hw : w = []
  · subst hw; rfl
  · have : (w == ([] : Str)) = false := by simpa using hw
    rw [this, if_neg hw]
    simp only [Bool.not_false, cond_true]
    rw [cond_pos (by simp; omega)]
theorem pj1 (n : Nat) (want : List Str) (w : Str) (h : want.length ≤ 1000000) : clepsydralaw12_WordsPlain_j1 n want w = some (putW want w) := pj2 n want w h
theorem sp_plain (c : UInt8) (r w : Str) (h1 : plainB c = true) (h2 : blankB c = false) : sp (stOf w) (c :: r) = sp (stOf (w ++ [c])) r := by
  have hs : stepW 0 w c = .word 0 (w ++ [c]) := by
    unfold stepW
    have hq : ¬quoteB c = true := by
      unfold plainB at h1
      unfold quoteB
      simp only [Bool.not_eq_true', Bool.or_eq_false_iff] at h1
      simp [h1.1.1, h1.1.2]
    have h3 : c ≠ 92 := by
      unfold plainB at h1
      simp only [Bool.not_eq_true', Bool.or_eq_false_iff] at h1
      simpa using h1.2
    rw [if_neg (fun h => hq h.2), if_neg (fun h => h.2 rfl), if_neg (fun h => h3 h.1)]
  have e : stOf (w ++ [c]) = .word 0 (w ++ [c]) := by simp [stOf]
  rw [e]
  by_cases hw : w = []
  · subst hw
    simp only [stOf, if_true, sp, h2, Bool.false_eq_true, if_false, hs]
  · simp only [stOf, if_neg hw, sp, h2, Bool.false_eq_true, and_false, if_false, hs]
theorem sp_blank (c : UInt8) (r w : Str) (h2 : blankB c = true) : ∀ l, sp .out r = some l → sp (stOf w) (c :: r) = some (if w = [] then l else w :: l) := by
  intro l hl
  by_cases hw : w = []
  · subst hw
    simp only [stOf, if_true, sp, h2, hl]
  · simp only [stOf, if_neg hw, sp, h2, and_self, if_true, hl, Option.map_some]
theorem plain_loop (n : Nat) (s : Str) (hl : s.length ≤ 500) : ∀ (k i : Nat), s.length - i ≤ k → i ≤ s.length → ∀ (m : Nat) (t : Str) (want : List Str) (w : Str), k < m → t.length ≤ i → want.length ≤ i → w.length ≤ i →
    ∃ want2 w2 L, clepsydralaw12_WordsPlain_l0 n m s t want w (i : Int) = some (t ++ (s.drop i).filter plainB, want2, w2) ∧ sp (stOf w) ((s.drop i).filter plainB) = some L ∧ putW want2 w2 = want ++ L ∧ want2.length ≤ s.length := by
  intro k
  have fin : ∀ (t : Str) (want : List Str) (w : Str), ∃ L, sp (stOf w) [] = some L ∧ putW want w = want ++ L := by
    intro t want w
    by_cases hw : w = []
    · subst hw
      exact ⟨[], rfl, by simp [putW]⟩
    · exact ⟨[w], by simp [stOf, hw, sp], by simp [putW, hw]⟩
  induction k with
  | zero =>
    intro i hk hi m t want w hm ht hwa hw
    obtain ⟨m, rfl⟩ : ∃ j, m = j + 1 := ⟨m - 1, by omega⟩
    have h : s.drop i = [] := List.drop_eq_nil_of_le (by omega)
    simp only [clepsydralaw12_WordsPlain_l0, clepsydralaw12_WordsPlain_l0_b, h, List.filter_nil, List.append_nil]
    rw [cond_neg (by omega)]
    obtain ⟨L, h1, h2⟩ := fin t want w
    exact ⟨want, w, L, rfl, h1, h2, by omega⟩
  | succ k ih =>
    intro i hk hi m t want w hm ht hwa hw
    obtain ⟨m, rfl⟩ : ∃ j, m = j + 1 := ⟨m - 1, by omega⟩
    simp only [clepsydralaw12_WordsPlain_l0, clepsydralaw12_WordsPlain_l0_b]
    cases h : s.drop i with
    | nil =>
      have := drop_nil h
      rw [cond_neg (by omega)]
      obtain ⟨L, h1, h2⟩ := fin t want w
      exact ⟨want, w, L, by simp, h1, h2, by omega⟩
    | cons c r =>
      obtain ⟨h1, h2, h3⟩ := drop_cons h
      rw [cond_pos (by omega)]
      simp only [clepsydralaw12_WordsPlain_j5, clepsydralaw12_WordsPlain_j5_b]
      rw [cond_pos (by omega), Int.toNat_natCast, h1]
      simp only [Option.bind_some, pj4, pj3, strOf_one]
      have hwr := wrap1 i (by omega)
      cases hp : plainB c with
      | false =>
        simp only [Bool.not_false, cond_true, Option.bind_some, hwr]
        obtain ⟨want2, w2, L, e1, e2, e3, e4⟩ := ih (i + 1) (by omega) (by omega) m t want w (by omega) (by omega) (by omega) (by omega)
        rw [h2] at e1 e2
        exact ⟨want2, w2, L, by rw [e1, List.filter_cons_of_neg (by simp [hp])], by rw [List.filter_cons_of_neg (by simp [hp])]; exact e2, e3, e4⟩
      | true =>
        simp only [Bool.not_true, cond_false]
        rw [List.filter_cons_of_pos (by simp [hp])]
        rw [cond_pos (by simp; omega)]
        cases hb : blankB c with
        | false =>
          simp only [Bool.not_false, cond_true]
          rw [cond_pos (by simp; omega)]
          simp only [Option.bind_some, hwr]
          obtain ⟨want2, w2, L, e1, e2, e3, e4⟩ := ih (i + 1) (by omega) (by omega) m (t ++ [c]) want (w ++ [c]) (by omega) (by simp; omega) (by omega) (by simp; omega)
          rw [h2] at e1 e2
          exact ⟨want2, w2, L, by rw [e1]; simp, by rw [sp_plain c _ w hp hb]; exact e2, e3, e4⟩
        | true =>
          simp only [Bool.not_true, cond_false, pj2 n want w (by omega), Option.bind_some, hwr]
          obtain ⟨want2, w2, L, e1, e2, e3, e4⟩ := ih (i + 1) (by omega) (by omega) m (t ++ [c]) (putW want w) [] (by omega) (by simp; omega) (putW_len want w i (by omega)) (by simp)
          rw [h2] at e1 e2
          refine ⟨want2, w2, _, by rw [e1]; simp, sp_blank c _ w hb L e2, ?_, e4⟩
          rw [e3]
          unfold putW
          split <;> simp
theorem WordsPlain_law (n : Nat) (hn : 2000 ≤ n) (s : Str) : clepsydralaw12_WordsPlain_f n s = some true := by
  unfold clepsydralaw12_WordsPlain_f clepsydralaw12_WordsPlain_b
  rw [works_val n (by omega)]
  by_cases h : s.length > 500
  · rw [cond_pos (by omega)]; rfl
  obtain ⟨want, w, L, e1, e2, e3, e4⟩ := plain_loop n s (by omega) s.length 0 (by omega) (by omega) n [] [] [] (by omega) (by simp) (by simp) (by simp)
  rw [List.drop_zero] at e1 e2
  change clepsydralaw12_WordsPlain_l0 n n s ([] : Str) ([] : List Str) ([] : Str) (0 : Int) = _ at e1
  change sp .out (s.filter plainB) = some L at e2
  have hfl : (s.filter plainB).length ≤ s.length := List.length_filter_le _ _
  rw [cond_neg (by omega), e1]
  simp only [Option.bind_some, pj1 n want w (by omega), List.nil_append, e3]
  rw [split_val n _ (by omega) (by omega), e2]
  simp only [Option.bind_some, splitR, List.length_nil, Nat.zero_add, List.nil_append]
  have hL := sp_len _ _ _ e2
  by_cases h64 : 64 < L.length
  · rw [cond_pos (by omega), if_pos h64]
    unfold clepsydralaw12_WordsPlain_j0 clepsydralaw12_WordsPlain_j0_b
    rw [works_val n (by omega)]
    rfl
  · rw [cond_neg (by omega), if_neg h64, same_val n L L (by omega) (by omega)]
    simp

/-! ### texts in quotes -/
theorem sp_q39 (t : Str) : ∀ (s w : Str), (∀ c ∈ s, c ≠ 39) → sp (.word 39 w) (s ++ t) = sp (.word 39 (w ++ s)) t
  | [], w, _ => by simp
  | c :: r, w, h => by
    have hc := h c (by simp)
    rw [List.cons_append, sp, if_neg (by simp)]
    unfold stepW
    rw [if_neg (by simp), if_neg (fun e => hc e.1), if_neg (by simp), sp_q39 t r _ (fun c hc => h c (by simp [hc]))]
    simp
theorem sp_end39 (w t : Str) : sp (.word 39 w) (39 :: t) = sp (.word 0 w) t := by
  rw [sp, if_neg (by simp)]
  unfold stepW
  rw [if_neg (by simp), if_pos (by simp)]
theorem sp_end34 (w t : Str) : sp (.word 34 w) (34 :: t) = sp (.word 0 w) t := by
  rw [sp, if_neg (by simp)]
  unfold stepW
  rw [if_neg (by simp), if_pos (by simp)]
theorem sp_beg39 (w t : Str) : sp (.word 0 w) (39 :: t) = sp (.word 39 w) t := by
  rw [sp, if_neg (by decide)]
  unfold stepW
  rw [if_pos (by decide)]
theorem sp_beg34 (w t : Str) : sp (.word 0 w) (34 :: t) = sp (.word 34 w) t := by
  rw [sp, if_neg (by decide)]
  unfold stepW
  rw [if_pos (by decide)]
/-- A byte with its backslash. -/
def tB (c : UInt8) : Str := if c = 34 ∨ c = 92 then [92, c] else [c]
theorem sp_tB (c : UInt8) (w t : Str) : sp (.word 34 w) (tB c ++ t) = sp (.word 34 (w ++ [c])) t := by
  unfold tB
  by_cases h : c = 34 ∨ c = 92
  · rw [if_pos h]
    simp only [List.cons_append, List.nil_append]
    rw [sp, if_neg (by simp)]
    unfold stepW
    rw [if_neg (by simp), if_neg (by simp), if_pos (by simp), sp]
    rcases h with h | h <;> subst h <;> rfl
  · rw [if_neg h]
    simp only [not_or] at h
    simp only [List.cons_append, List.nil_append]
    rw [sp, if_neg (by simp)]
    unfold stepW
    rw [if_neg (by simp), if_neg (fun e => h.1 e.1), if_neg (fun e => h.2 e.1)]
theorem sp_tBs (t : Str) : ∀ (s w : Str), sp (.word 34 w) (s.flatMap tB ++ t) = sp (.word 34 (w ++ s)) t
  | [], w => by simp
  | c :: r, w => by rw [List.flatMap_cons, List.append_assoc, sp_tB, sp_tBs t r]; simp
theorem sp_word_nil (w : Str) : sp (.word 0 w) [] = some [w] := rfl
theorem tB_len (s : Str) : (s.flatMap tB).length ≤ 2 * s.length := by
  induction s with
  | nil => simp
  | cons c r ih =>
    have : (tB c).length ≤ 2 := by unfold tB; split <;> simp
    simp only [List.flatMap_cons, List.length_append, List.length_cons]; omega
theorem wq2 (n : Nat) (s one t : Str) (i : Nat) (c : UInt8) (h : s[i]? = some c) (h1 : one.length + t.length ≤ 9223372036854775807) : clepsydralaw12_WordsQuoted_j2 n s one (i : Int) t = some (if c ≠ 39 then one ++ t else one) := by
  have e : ((c.toNat : Int) != (39 : Int)) = (c != 39) := bne_byte c 39
  unfold clepsydralaw12_WordsQuoted_j2 clepsydralaw12_WordsQuoted_j2_b
  rw [cond_pos (by omega), Int.toNat_natCast, h]
  simp only [Option.bind_some, e]
  by_cases hc : c = 39
  · subst hc; rfl
  · have : (c != 39) = true := by simpa using hc
    rw [this, cond_true, cond_pos h1, if_pos hc]
theorem wq1 (n : Nat) (s two : Str) (i : Nat) (c : UInt8) (h : s[i]? = some c) (h1 : two.length + 1 ≤ 9223372036854775807) : clepsydralaw12_WordsQuoted_j1 n s two (i : Int) = some (if c = 34 ∨ c = 92 then two ++ [92] else two) := by
  have e : ((c.toNat : Int) == (34 : Int)) = (c == 34) := beq_byte c 34
  have e2 : ((c.toNat : Int) == (92 : Int)) = (c == 92) := beq_byte c 92
  unfold clepsydralaw12_WordsQuoted_j1 clepsydralaw12_WordsQuoted_j1_b clepsydralaw12_WordsQuoted_j0 clepsydralaw12_WordsQuoted_j0_b
  rw [cond_pos (by omega), Int.toNat_natCast, h]
  simp only [Option.bind_some, e, e2]
  rw [cond_pos (by omega)]
  by_cases hc : c = 34
  · subst hc
    simp only [beq_self_eq_true, cond_true, Option.bind_some, List.length_cons, List.length_nil]
    rw [cond_pos (by omega)]
    simp
  · have : (c == 34) = false := by simpa using hc
    by_cases hc2 : c = 92
    · subst hc2
      simp only [this, cond_false, beq_self_eq_true, cond_true, Option.bind_some, List.length_cons, List.length_nil]
      rw [cond_pos (by omega)]
      simp
    · have h2 : (c == 92) = false := by simpa using hc2
      simp only [this, h2, cond_false, Option.bind_some]
      rw [if_neg (by simp [hc, hc2])]
theorem quotedLaw_loop (n : Nat) (s : Str) (hl : s.length ≤ 300) : ∀ (k i : Nat), s.length - i ≤ k → i ≤ s.length → ∀ (m : Nat) (one two t : Str), k < m → one.length ≤ i → two.length ≤ 2 * i → t.length ≤ i →
    clepsydralaw12_WordsQuoted_l0 n m s one two t (i : Int) = some (one ++ (s.drop i).filter (· ≠ 39), two ++ (s.drop i).flatMap tB, t ++ s.drop i) := by
  intro k
  induction k with
  | zero =>
    intro i hk hi m one two t hm h1 h2 h3
    obtain ⟨m, rfl⟩ : ∃ j, m = j + 1 := ⟨m - 1, by omega⟩
    have h : s.drop i = [] := List.drop_eq_nil_of_le (by omega)
    simp only [clepsydralaw12_WordsQuoted_l0, clepsydralaw12_WordsQuoted_l0_b, h, List.filter_nil, List.flatMap_nil, List.append_nil]
    rw [cond_neg (by omega)]
  | succ k ih =>
    intro i hk hi m one two t hm ho htw ht
    obtain ⟨m, rfl⟩ : ∃ j, m = j + 1 := ⟨m - 1, by omega⟩
    simp only [clepsydralaw12_WordsQuoted_l0, clepsydralaw12_WordsQuoted_l0_b]
    cases h : s.drop i with
    | nil =>
      have := drop_nil h
      rw [cond_neg (by omega)]
      simp
    | cons c r =>
      obtain ⟨h1, h2, h3⟩ := drop_cons h
      rw [cond_pos (by omega), cond_pos (by omega), Int.toNat_natCast, h1]
      simp only [Option.bind_some, strOf_one]
      rw [wq2 n s one [c] i c h1 (by simp; omega)]
      simp only [Option.bind_some]
      rw [wq1 n s two i c h1 (by omega)]
      simp only [Option.bind_some]
      have hq : ((if c = 34 ∨ c = 92 then two ++ [92] else two) ++ [c]) = two ++ tB c := by unfold tB; split <;> simp
      have hq2 : (if c = 34 ∨ c = 92 then two ++ [92] else two).length ≤ two.length + 1 := by split <;> simp
      rw [cond_pos (by simp only [List.length_cons, List.length_nil]; omega), cond_pos (by simp; omega), hq, wrap1 i (by omega)]
      have hone : (if c ≠ 39 then one ++ [c] else one).length ≤ i + 1 := by
        split
        · simp; omega
        · omega
      have htB : (tB c).length ≤ 2 := by unfold tB; split <;> simp
      rw [ih (i + 1) (by omega) (by omega) m _ _ _ (by omega) hone (by simp; omega) (by simp; omega), h2, List.flatMap_cons]
      by_cases hc : c = 39
      · subst hc; simp
      · simp [hc]
theorem WordsQuoted_law (n : Nat) (hn : 2000 ≤ n) (s : Str) : clepsydralaw12_WordsQuoted_f n s = some true := by
  unfold clepsydralaw12_WordsQuoted_f clepsydralaw12_WordsQuoted_b
  rw [works_val n (by omega)]
  by_cases h : s.length > 300
  · rw [cond_pos (by omega)]; rfl
  have e := quotedLaw_loop n s (by omega) s.length 0 (by omega) (by omega) n [] [] [] (by omega) (by simp) (by simp) (by simp)
  change clepsydralaw12_WordsQuoted_l0 n n s ([] : Str) ([] : Str) ([] : Str) (0 : Int) = _ at e
  rw [cond_neg (by omega), e]
  simp only [Option.bind_some, List.nil_append, List.drop_zero]
  have ho : ∀ c ∈ s.filter (· ≠ 39), c ≠ 39 := fun c hc => by simpa using (List.mem_filter.1 hc).2
  have hol : (s.filter (· ≠ 39)).length ≤ s.length := List.length_filter_le _ _
  have htl := tB_len s
  generalize s.filter (· ≠ 39) = one at *
  generalize htw : s.flatMap tB = two at *
  have a1 : sp .out ([39] ++ one ++ [39]) = some [one] := by
    rw [show ([39] ++ one ++ [39] : Str) = 39 :: (one ++ 39 :: []) by simp, sp_out_word _ _ (by decide), sp_beg39, sp_q39 _ one _ ho, sp_end39]
    rfl
  have a2 : sp .out ([32, 34] ++ two ++ [34, 9]) = some [s] := by
    rw [show ([32, 34] ++ two ++ [34, 9] : Str) = 32 :: 34 :: (two ++ 34 :: 9 :: []) by simp, sp, if_pos (by decide), sp_out_word _ _ (by decide), sp_beg34, ← htw, sp_tBs, sp_end34]
    rfl
  have a3 : sp .out ([39] ++ one ++ [39, 34] ++ two ++ [34]) = some [one ++ s] := by
    rw [show ([39] ++ one ++ [39, 34] ++ two ++ [34] : Str) = 39 :: (one ++ 39 :: 34 :: (two ++ 34 :: [])) by simp, sp_out_word _ _ (by decide), sp_beg39, sp_q39 _ one _ ho, sp_end39, sp_beg34, ← htw, sp_tBs, sp_end34]
    rfl
  simp only [List.length_append, List.length_cons, List.length_nil]
  rw [cond_pos (by omega), cond_pos (by omega), split_val n _ (by simp; omega) (by simp; omega), a1]
  simp only [Option.bind_some]
  rw [cond_pos (by omega), cond_pos (by omega), split_val n _ (by simp; omega) (by simp; omega), a2]
  simp only [Option.bind_some]
  rw [cond_pos (by omega), cond_pos (by omega), cond_pos (by omega), cond_pos (by omega), split_val n _ (by simp; omega) (by simp; omega), a3]
  simp only [Option.bind_some, splitR_val _ (show ([one] : List Str).length ≤ 64 by simp), splitR_val _ (show ([s] : List Str).length ≤ 64 by simp), splitR_val _ (show ([one ++ s] : List Str).length ≤ 64 by simp), beq_self_eq_true, cond_true,
    same_val n [one] _ (by simp; omega) (by simp), same_val n [s] _ (by simp; omega) (by simp), same_val n [one ++ s] _ (by simp; omega) (by simp), decide_true]
  rw [cond_pos (by omega)]
end Go.Proofs.YtgcjkimkoppocaaDoor.H

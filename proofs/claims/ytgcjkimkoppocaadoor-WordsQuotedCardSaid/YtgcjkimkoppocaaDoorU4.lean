/- Chapter 12: rows that are the same; the chapter's examples; the program's Join. -/
import Derived.Test.YtgcjkimkoppocaaDoorU3
namespace Go.Proofs.YtgcjkimkoppocaaDoor.H
open Go.Sh Go.RowKit
set_option linter.unusedSimpArgs false

theorem same_loop (n : Nat) (a b : List Str) (hl : a.length = b.length) (hb : a.length < 1000000000000) : ∀ (k i : Nat), a.length - i ≤ k → i ≤ a.length → ∀ m, k < m →
    clepsydralaw12_same_l0 n m a b (i : Int) = some (if a.drop i = b.drop i then .inr () else .inl ()) := by
  intro k
  induction k with
  | zero =>
    intro i hk hi m hm
    obtain ⟨m, rfl⟩ : ∃ j, m = j + 1 := ⟨m - 1, by omega⟩
    have h : a.drop i = [] := List.drop_eq_nil_of_le (by omega)
    have h' : b.drop i = [] := List.drop_eq_nil_of_le (by omega)
    simp only [clepsydralaw12_same_l0, clepsydralaw12_same_l0_b, h, h', if_true]
    rw [cond_neg (by omega)]
  | succ k ih =>
    intro i hk hi m hm
    obtain ⟨m, rfl⟩ : ∃ j, m = j + 1 := ⟨m - 1, by omega⟩
    simp only [clepsydralaw12_same_l0, clepsydralaw12_same_l0_b]
    cases h : a.drop i with
    | nil =>
      have := drop_nil h
      have h' : b.drop i = [] := List.drop_eq_nil_of_le (by omega)
      rw [cond_neg (by omega), h', if_pos rfl]
    | cons c r =>
      obtain ⟨h1, h2, h3⟩ := drop_cons h
      cases h' : b.drop i with
      | nil => have := drop_nil h'; omega
      | cons d u =>
        obtain ⟨g1, g2, g3⟩ := drop_cons h'
        rw [cond_pos (by omega), cond_pos (by omega), Int.toNat_natCast, h1]
        simp only [Option.bind_some]
        rw [cond_pos (by omega), g1]
        simp only [Option.bind_some]
        by_cases e : c = d
        · subst e
          simp only [beq_self_eq_true, Bool.not_true, cond_false]
          rw [wrap1 i (by omega), ih (i + 1) (by omega) (by omega) m (by omega), h2, g2]
          simp
        · have : (c == d) = false := by simpa using e
          simp only [this, Bool.not_false, cond_true]
          rw [if_neg]
          intro h; injection h with h; exact e h
theorem same_val (n : Nat) (a b : List Str) (hn : a.length < n) (hb : a.length < 1000000000000) : clepsydralaw12_same_f n a b = some (decide (a = b)) := by
  unfold clepsydralaw12_same_f clepsydralaw12_same_b
  by_cases hl : a.length = b.length
  · have e : ((a.length : Int) != (b.length : Int)) = false := by simp [hl]
    have h := same_loop n a b hl hb a.length 0 (by omega) (by omega) n hn
    change clepsydralaw12_same_l0 n n a b (0 : Int) = _ at h
    rw [e, h]
    simp only [cond_false, Option.bind_some, List.drop_zero]
    by_cases h2 : a = b
    · simp [h2]
    · simp [h2]
  · have e : ((a.length : Int) != (b.length : Int)) = true := by rw [bne_iff_ne]; omega
    rw [e]
    have : ¬ a = b := fun h => hl (by rw [h])
    simp [this]

/-! ### Join -/
def strangeB (b : UInt8) : Bool := decide (b ≤ 32) || b == 127 || b == 92 || quoteB b
theorem strange_val (n : Nat) (b : UInt8) : words_strange_f n (b.toNat : Int) = some (strangeB b) := by
  have h := byte_all (p := fun x => words_strange_f 0 (x : Int) = some (strangeB (UInt8.ofNat x))) (by decide +kernel) b
  rw [UInt8.ofNat_toNat] at h
  exact h
theorem index_loop (n : Nat) (s : Str) (hl : s.length < 1000000000000) : ∀ (k i : Nat), s.length - i ≤ k → i ≤ s.length → ∀ m, k < m →
    ∃ o, slices_IndexFunc_byte_byte_l0 n m (intsOf s) (s.length : Int) (i : Int) = some o ∧ decide ((Sum.elim (fun x => x) (fun _ => (-1 : Int)) o) ≥ (0 : Int)) = (s.drop i).any strangeB := by
  intro k
  induction k with
  | zero =>
    intro i hk hi m hm
    obtain ⟨m, rfl⟩ : ∃ j, m = j + 1 := ⟨m - 1, by omega⟩
    have h : s.drop i = [] := List.drop_eq_nil_of_le (by omega)
    simp only [slices_IndexFunc_byte_byte_l0, slices_IndexFunc_byte_byte_l0_b, h]
    rw [cond_neg (by omega)]
    exact ⟨_, rfl, rfl⟩
  | succ k ih =>
    intro i hk hi m hm
    obtain ⟨m, rfl⟩ : ∃ j, m = j + 1 := ⟨m - 1, by omega⟩
    simp only [slices_IndexFunc_byte_byte_l0, slices_IndexFunc_byte_byte_l0_b]
    cases h : s.drop i with
    | nil =>
      have := drop_nil h
      rw [cond_neg (by omega)]
      exact ⟨_, rfl, rfl⟩
    | cons c r =>
      obtain ⟨h1, h2, h3⟩ := drop_cons h
      have hi2 : (intsOf s)[i]? = some (c.toNat : Int) := by simp [intsOf, h1]
      rw [cond_pos (by omega), cond_pos (by omega), Int.toNat_natCast, hi2]
      simp only [Option.bind_some, strange_val]
      cases hs : strangeB c with
      | true =>
        simp only [cond_true]
        refine ⟨_, rfl, ?_⟩
        simp [hs]
      | false =>
        simp only [cond_false]
        rw [wrap1 i (by omega)]
        obtain ⟨o, ho, h4⟩ := ih (i + 1) (by omega) (by omega) m (by omega)
        refine ⟨o, ho, ?_⟩
        rw [h4, h2]
        simp [hs]
theorem contains_val (n : Nat) (s : Str) (hn : s.length < n) (hl : s.length < 1000000000000) : slices_ContainsFunc_byte_byte_f n (intsOf s) = some (s.any strangeB) := by
  obtain ⟨o, ho, h⟩ := index_loop n s hl s.length 0 (by omega) (by omega) n hn
  change slices_IndexFunc_byte_byte_l0 n n (intsOf s) (s.length : Int) (0 : Int) = some o at ho
  unfold slices_ContainsFunc_byte_byte_f slices_ContainsFunc_byte_byte_b slices_IndexFunc_byte_byte_f slices_IndexFunc_byte_byte_b
  rw [intsOf_length, ho]
  rw [List.drop_zero] at h
  cases o <;> simpa using h

def digB (k : UInt8) : UInt8 := ([48, 49, 50, 51, 52, 53, 54, 55, 56, 57, 97, 98, 99, 100, 101, 102] : Str).getD k.toNat 0
/-- A byte in quotes. -/
def qB (c : UInt8) : Str := if c = 10 then [92, 110] else if c = 9 then [92, 116] else if c < 32 ∨ c = 127 then [92, 120, digB (c / 16), digB (c % 16)] else if c = 92 ∨ c = 34 then [92, c] else [c]
theorem qB_len (c : UInt8) : (qB c).length ≤ 4 := by unfold qB; split; · simp
                                                     split; · simp
                                                     split; · simp
                                                     split <;> simp
theorem qj1 (n : Nat) (c : UInt8) : words_quoted_j1 n (c.toNat : Int) = some (decide (c < 32) || c == 127) := by
  have e : decide ((c.toNat : Int) < 32) = decide (c < 32) := lt_byte c 32
  have e2 : ((c.toNat : Int) == (127 : Int)) = (c == 127) := beq_byte c 127
  unfold words_quoted_j1 words_quoted_j1_b
  rw [e, e2]
  cases decide (c < 32) <;> rfl
theorem qj0 (n : Nat) (c : UInt8) : words_quoted_j0 n (c.toNat : Int) = some (c == 92 || c == 34) := by
  have e : ((c.toNat : Int) == (92 : Int)) = (c == 92) := beq_byte c 92
  have e2 : ((c.toNat : Int) == (((34 : UInt8).toNat : Nat) : Int)) = (c == 34) := beq_byte c 34
  unfold words_quoted_j0 words_quoted_j0_b
  simp only [List.getElem?_cons_zero, Option.bind_some]
  rw [e, e2]
  cases c == 92 <;> rfl
theorem dig_hi (c : UInt8) : decide (0 ≤ (Int.fdiv (c.toNat : Int) (2 ^ 4))) = true ∧ ([48, 49, 50, 51, 52, 53, 54, 55, 56, 57, 97, 98, 99, 100, 101, 102] : Str)[(Int.fdiv (c.toNat : Int) (2 ^ 4)).toNat]? = some (digB (c / 16)) := by
  have h := byte_all (p := fun x => decide (0 ≤ (Int.fdiv (x : Int) (2 ^ 4))) = true ∧ ([48, 49, 50, 51, 52, 53, 54, 55, 56, 57, 97, 98, 99, 100, 101, 102] : Str)[(Int.fdiv (x : Int) (2 ^ 4)).toNat]? = some (digB (UInt8.ofNat x / 16))) (by decide +kernel) c
  rw [UInt8.ofNat_toNat] at h
  exact h
theorem dig_lo (c : UInt8) : decide (0 ≤ (IntKind.u8.wrap ((BitVec.ofInt 8 (c.toNat : Int) &&& BitVec.ofInt 8 (15 : Int)).toNat : Int))) = true ∧ ([48, 49, 50, 51, 52, 53, 54, 55, 56, 57, 97, 98, 99, 100, 101, 102] : Str)[(IntKind.u8.wrap ((BitVec.ofInt 8 (c.toNat : Int) &&& BitVec.ofInt 8 (15 : Int)).toNat : Int)).toNat]? = some (digB (c % 16)) := by
  have h := byte_all (p := fun x => decide (0 ≤ (IntKind.u8.wrap ((BitVec.ofInt 8 (x : Int) &&& BitVec.ofInt 8 (15 : Int)).toNat : Int))) = true ∧ ([48, 49, 50, 51, 52, 53, 54, 55, 56, 57, 97, 98, 99, 100, 101, 102] : Str)[(IntKind.u8.wrap ((BitVec.ofInt 8 (x : Int) &&& BitVec.ofInt 8 (15 : Int)).toNat : Int)).toNat]? = some (digB (UInt8.ofNat x % 16))) (by decide +kernel) c
  rw [UInt8.ofNat_toNat] at h
  exact h
theorem qj2 (n : Nat) (s out : Str) (i : Nat) (c : UInt8) (h : s[i]? = some c) (hl : out.length + 4 ≤ 140737488355328) : words_quoted_j2 n s (intsOf out) (i : Int) = some (intsOf (out ++ qB c)) := by
  have e1 : ((c.toNat : Int) == (10 : Int)) = (c == 10) := beq_byte c 10
  have e2 : ((c.toNat : Int) == (9 : Int)) = (c == 9) := beq_byte c 9
  have k : ∀ x : Nat, x ≤ 4 → decide (((intsOf out).length + x) * 1 ≤ 140737488355328) = true := by intro x hx; rw [intsOf_length]; exact decide_eq_true (by omega)
  unfold words_quoted_j2 words_quoted_j2_b
  rw [cond_pos (by omega), Int.toNat_natCast, h]
  simp only [Option.bind_some, e1, e2, qj1, qj0, List.length_cons, List.length_nil, k _ (show 0 + 1 ≤ 4 by omega), k _ (show 0 + 1 + 1 ≤ 4 by omega), k _ (show 0 + 1 + 1 + 1 + 1 ≤ 4 by omega), cond_true, dig_hi, dig_lo]
  unfold qB
  by_cases g1 : c = 10
  · subst g1; simp [intsOf]
  have f1 : (c == 10) = false := by simpa using g1
  rw [f1, if_neg g1]
  simp only [cond_false]
  by_cases g2 : c = 9
  · subst g2; simp [intsOf]
  have f2 : (c == 9) = false := by simpa using g2
  rw [f2, if_neg g2]
  simp only [cond_false]
  by_cases g3 : c < 32 ∨ c = 127
  · have f3 : (decide (c < 32) || c == 127) = true := by rcases g3 with h | h <;> simp [h]
    rw [f3, if_pos g3]
    simp only [cond_true]
    simp [intsOf]
  have f3 : (decide (c < 32) || c == 127) = false := by simp only [not_or] at g3; simp [g3.1, g3.2]
  rw [f3, if_neg g3]
  simp only [cond_false]
  by_cases g4 : c = 92 ∨ c = 34
  · have f4 : (c == 92 || c == 34) = true := by rcases g4 with h | h <;> simp [h]
    rw [f4, if_pos g4]
    simp only [cond_true]
    simp [intsOf]
  have f4 : (c == 92 || c == 34) = false := by simp only [not_or] at g4; simp [g4.1, g4.2]
  rw [f4, if_neg g4]
  simp [intsOf]
theorem quoted_loop (n : Nat) (s : Str) (hl : s.length < 1000000000000) : ∀ (k i : Nat), s.length - i ≤ k → i ≤ s.length → ∀ (m : Nat) (out : Str), k < m → out.length + 4 * (s.length - i) + 4 ≤ 140737488355328 →
    words_quoted_l0 n m s (intsOf out) (s.length : Int) (i : Int) = some (intsOf (out ++ (s.drop i).flatMap qB)) := by
  intro k
  induction k with
  | zero =>
    intro i hk hi m out hm ho
    obtain ⟨m, rfl⟩ : ∃ j, m = j + 1 := ⟨m - 1, by omega⟩
    have h : s.drop i = [] := List.drop_eq_nil_of_le (by omega)
    simp only [words_quoted_l0, words_quoted_l0_b, h, List.flatMap_nil, List.append_nil]
    rw [cond_neg (by omega)]
  | succ k ih =>
    intro i hk hi m out hm ho
    obtain ⟨m, rfl⟩ : ∃ j, m = j + 1 := ⟨m - 1, by omega⟩
    simp only [words_quoted_l0, words_quoted_l0_b]
    cases h : s.drop i with
    | nil =>
      have := drop_nil h
      rw [cond_neg (by omega), List.flatMap_nil, List.append_nil]
    | cons c r =>
      obtain ⟨h1, h2, h3⟩ := drop_cons h
      have := qB_len c
      rw [cond_pos (by omega), qj2 n s out i c h1 (by omega)]
      simp only [Option.bind_some]
      rw [wrap1 i (by omega), ih (i + 1) (by omega) (by omega) m (out ++ qB c) (by omega) (by simp; omega), h2, List.flatMap_cons, List.append_assoc]
def quotedS (s : Str) : Str := 34 :: (s.flatMap qB ++ [34])
theorem flat_len (s : Str) : (s.flatMap qB).length ≤ 4 * s.length := by
  induction s with
  | nil => simp
  | cons c r ih => have := qB_len c; simp only [List.flatMap_cons, List.length_append, List.length_cons]; omega
theorem quoted_val (n : Nat) (s : Str) (hn : s.length < n) (hl : s.length < 1000000000000) : words_quoted_f n s = some (quotedS s) := by
  have h := quoted_loop n s hl s.length 0 (by omega) (by omega) n [34] hn (by simp; omega)
  change words_quoted_l0 n n s ([(((34 : UInt8).toNat : Nat) : Int)] : List Int) (s.length : Int) (0 : Int) = _ at h
  unfold words_quoted_f words_quoted_b
  simp only [List.getElem?_cons_zero, Option.bind_some]
  rw [h]
  have hf := flat_len s
  have hk : decide (((intsOf ([34] ++ (s.drop 0).flatMap qB)).length + ([(((34 : UInt8).toNat : Nat) : Int)] : List Int).length) * 1 ≤ 140737488355328) = true := by simp only [intsOf_length, List.length_append, List.length_cons, List.length_nil, List.drop_zero]; exact decide_eq_true (by omega)
  simp only [Option.bind_some]
  rw [hk, intsOf_snoc, strOf_intsOf]
  simp [quotedS]
def needS (s : Str) : Bool := s == [] || s.any strangeB
/-- A word, as it stands in a value. -/
def jW (s : Str) : Str := if needS s = true then quotedS s else s
theorem jW_len (s : Str) : (jW s).length ≤ 4 * s.length + 2 := by
  have := flat_len s
  unfold jW
  split
  · simp only [quotedS, List.length_cons, List.length_append, List.length_nil]; omega
  · omega
theorem jj0 (n : Nat) (s : Str) (h : List Str) (hn : s.length < n) (hl : s.length < 1000000000000) : words_Join_j0 n s h = some (needS s, h) := by
  unfold words_Join_j0 words_Join_j0_b needS
  rw [contains_val n s hn hl]
  cases s == ([] : Str) <;> rfl
theorem join_loop (n : Nat) (l0 : List Str) (hb : l0.length < 1000000000000) (hw : ∀ s ∈ l0, s.length < n ∧ s.length < 1000000000000) : ∀ (k i : Nat), l0.length - i ≤ k → i ≤ l0.length → ∀ (m : Nat), k < m →
    words_Join_l0_1 n m l0.length l0.length (l0.length : Int) (i : Int) ((l0.take i).map jW ++ l0.drop i) = some (l0.map jW) := by
  intro k
  induction k with
  | zero =>
    intro i hk hi m hm
    obtain ⟨m, rfl⟩ : ∃ j, m = j + 1 := ⟨m - 1, by omega⟩
    have h : l0.drop i = [] := List.drop_eq_nil_of_le (by omega)
    have h2 : l0.take i = l0 := List.take_of_length_le (by omega)
    simp only [words_Join_l0_1, words_Join_l0_1_b, h, h2, List.append_nil]
    rw [cond_neg (by omega)]
  | succ k ih =>
    intro i hk hi m hm
    obtain ⟨m, rfl⟩ : ∃ j, m = j + 1 := ⟨m - 1, by omega⟩
    simp only [words_Join_l0_1, words_Join_l0_1_b]
    cases h : l0.drop i with
    | nil =>
      have := drop_nil h
      have h2 : l0.take i = l0 := List.take_of_length_le (by omega)
      rw [cond_neg (by omega), h2, List.append_nil]
    | cons c r =>
      obtain ⟨h1, h2, h3⟩ := drop_cons h
      have hc : c ∈ l0 := List.mem_of_getElem? h1
      obtain ⟨hcn, hcl⟩ := hw c hc
      have hlen : ((l0.take i).map jW).length = i := by simp; omega
      have hg : ((l0.take i).map jW ++ c :: r)[0 + i * 1]? = some c := by
        rw [show 0 + i * 1 = i by omega, List.getElem?_append_right (by omega), hlen, Nat.sub_self]
        rfl
      have hr : r.length = l0.length - (i + 1) := by rw [← h2]; simp
      have hset : jW c ≠ c → ((l0.take i).map jW ++ c :: r).set (0 + i * 1) (jW c) = (l0.take (i + 1)).map jW ++ l0.drop (i + 1) := by
        intro _
        rw [show 0 + i * 1 = i by omega, List.set_append_right _ _ (by omega), hlen, Nat.sub_self, h2, List.take_add_one, h1]
        simp
      have hset' : ((l0.take i).map jW ++ c :: r).set (0 + i * 1) (jW c) = (l0.take (i + 1)).map jW ++ l0.drop (i + 1) := by
        rw [show 0 + i * 1 = i by omega, List.set_append_right _ _ (by omega), hlen, Nat.sub_self, h2, List.take_add_one, h1]
        simp
      rw [cond_pos (by omega)]
      simp only [words_Join_j1_1, words_Join_j1_1_b]
      rw [cond_pos (by omega), cond_pos (by omega), Int.toNat_natCast, hg]
      simp only [Option.bind_some, jj0 n c _ hcn hcl]
      cases hne : needS c with
      | true =>
        simp only [cond_true, quoted_val n c hcn hcl, Option.bind_some]
        have hj : quotedS c = jW c := by rw [jW, if_pos hne]
        have hlt : 0 + i * 1 < ((l0.take i).map jW ++ c :: r).length := by simp; omega
        rw [cond_pos (by omega), cond_pos (by omega), cond_pos hlt, hj, hset']
        simp only [Option.bind_some]
        rw [wrap1 i (by omega)]
        exact ih (i + 1) (by omega) (by omega) m (by omega)
      | false =>
        simp only [cond_false, Option.bind_some]
        have hj : jW c = c := by rw [jW, if_neg (by simp [hne])]
        rw [wrap1 i (by omega), ← ih (i + 1) (by omega) (by omega) m (by omega), h2, List.take_add_one, h1]
        simp [hj]
def joinS (l : List Str) : Str := Lib.join (l.map jW) [32]
theorem joinTail_len (r : List Str) (B : Nat) (h : ∀ s ∈ r, s.length ≤ B) : (Lib.joinTail [32] r).length ≤ r.length * (B + 1) := by
  induction r with
  | nil => simp [Lib.joinTail]
  | cons x r ih =>
    have h1 := h x (by simp)
    have h2 := ih fun s hs => h s (by simp [hs])
    simp only [Lib.joinTail, List.map_cons, List.flatten_cons, List.length_append, List.length_cons, List.length_nil] at h2 ⊢
    rw [Nat.add_mul]
    omega
theorem joinS_len (l : List Str) (h : ∀ s ∈ l, s.length ≤ 1000) : (joinS l).length ≤ l.length * 4003 := by
  unfold joinS
  cases l with
  | nil => simp [Lib.join]
  | cons x r =>
    rw [List.map_cons, Lib.join_cons]
    have h1 := jW_len x
    have h2 := h x (by simp)
    have h3 := joinTail_len (r.map jW) 4002 (fun s hs => by
      obtain ⟨y, hy, rfl⟩ := List.mem_map.1 hs
      have := jW_len y
      have := h y (by simp [hy])
      omega)
    simp only [List.length_append, List.length_cons, List.length_map] at h3 ⊢
    omega
theorem join_val (n : Nat) (l : List Str) (hn : l.length < n) (hb : l.length < 10000) (h : ∀ s ∈ l, s.length < n ∧ s.length ≤ 1000) : words_Join_f n l = some (joinS l) := by
  unfold words_Join_f words_Join_b
  cases l with
  | nil =>
    obtain ⟨n, rfl⟩ : ∃ j, n = j + 1 := ⟨n - 1, by simp at hn; omega⟩
    rfl
  | cons x r =>
    have h1 := join_loop n (x :: r) (by omega) (fun s hs => ⟨(h s hs).1, by have := (h s hs).2; omega⟩) (x :: r).length 0 (by omega) (by omega) n hn
    have h2 := joinS_len (x :: r) (fun s hs => (h s hs).2)
    change words_Join_l0_1 n n (x :: r).length (x :: r).length ((x :: r).length : Int) (0 : Int) (x :: r) = _ at h1
    have e : (x :: r).isEmpty = false := rfl
    simp only [e, cond_false]
    rw [cond_pos (by omega), h1]
    simp only [Option.bind_some]
    have e2 : (decide ((x :: r).length = ((x :: r).map jW).length) && decide (0 < ((x :: r).map jW).length) && decide (((x :: r).map jW).length ≤ 140737488355328)) = true := by
      simp only [List.length_map, decide_true, Bool.true_and, List.length_cons, Nat.zero_lt_succ]
      exact decide_eq_true (by simp only [List.length_cons] at hb; omega)
    rw [e2]
    simp only [cond_true]
    rw [cond_pos (by show (joinS (x :: r)).length ≤ _; omega)]
    rfl
/-- The chapter's examples. -/
theorem works_val (n : Nat) (hn : 100 ≤ n) : clepsydralaw12_works_f n = some true := by
  unfold clepsydralaw12_works_f clepsydralaw12_works_b
  rw [split_val n _ (by simp; omega) (by simp), split_val n _ (by simp; omega) (by simp), join_val n _ (by simp; omega) (by simp) (by intro s hs; simp at hs; rcases hs with rfl | rfl <;> simp <;> omega)]
  simp only [Option.bind_some]
  rw [show splitR [] (sp .out [97, 32, 34, 98, 32, 99, 34, 32, 39, 100, 92, 110, 39, 32, 101, 92, 120, 52, 49]) = ([[97], [98, 32, 99], [100, 92, 110], [101, 65]], 0) by decide +kernel, show splitR [] (sp .out [34, 97]) = ([], 120) by decide +kernel, same_val n _ _ (by simp; omega) (by simp), show joinS [[97, 32, 98], []] = [34, 97, 32, 98, 34, 32, 34, 34] by decide +kernel]
  rfl
end Go.Proofs.YtgcjkimkoppocaaDoor.H

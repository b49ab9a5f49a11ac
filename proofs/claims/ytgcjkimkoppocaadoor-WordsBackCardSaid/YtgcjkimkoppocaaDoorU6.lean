/- Chapter 12: the reference's Join; WordsBack. -/
import Derived.Test.YtgcjkimkoppocaaDoorU5
namespace Go.Proofs.YtgcjkimkoppocaaDoor.H
open Go.Sh Go.RowKit
set_option linter.unusedSimpArgs false

/-- What the reference puts for a byte. -/
def oneJ (n : Nat) (c : Int) (s : Str) : Option Str := (clepsydraref12_Join_j5 n c s).bind fun o124 => (clepsydraref12_Join_j3 n c o124).bind fun o126 => (clepsydraref12_Join_j1 n c o126).bind fun o127 => clepsydraref12_Join_j0 n c o127
theorem oneJ_val (n : Nat) (c : UInt8) : oneJ n (c.toNat : Int) [c] = some (qB c) := by
  have h := byte_all (p := fun x => oneJ 0 (x : Int) [UInt8.ofNat x] = some (qB (UInt8.ofNat x))) (by decide +kernel) c
  rw [UInt8.ofNat_toNat] at h
  exact h
theorem rj7 (n : Nat) (p : Bool) (c : UInt8) : clepsydraref12_Join_j7 n p (c.toNat : Int) = some (p && !strangeB c) := by
  have h := byte_all (p := fun x => clepsydraref12_Join_j6 0 (x : Int) = some (strangeB (UInt8.ofNat x))) (by decide +kernel) c
  rw [UInt8.ofNat_toNat] at h
  change clepsydraref12_Join_j6 n (c.toNat : Int) = _ at h
  unfold clepsydraref12_Join_j7 clepsydraref12_Join_j7_b
  rw [h]
  cases strangeB c <;> cases p <;> rfl
theorem rin_loop (n : Nat) (l : List Str) (j : Nat) (s : Str) (hj : l[j]? = some s) (hl : s.length ≤ 1000) : ∀ (k i : Nat), s.length - i ≤ k → i ≤ s.length → ∀ (m : Nat) (p : Bool) (q : Str), k < m → q.length ≤ 4 * i + 1 →
    clepsydraref12_Join_l1 n m l (j : Int) p q (i : Int) = some (p && !(s.drop i).any strangeB, q ++ (s.drop i).flatMap qB) := by
  intro k
  induction k with
  | zero =>
    intro i hk hi m p q hm hq
    obtain ⟨m, rfl⟩ : ∃ j, m = j + 1 := ⟨m - 1, by omega⟩
    have h : s.drop i = [] := List.drop_eq_nil_of_le (by omega)
    simp only [clepsydraref12_Join_l1, clepsydraref12_Join_l1_b, h, List.flatMap_nil, List.append_nil, List.any_nil, Bool.not_false, Bool.and_true]
    rw [cond_pos (by omega), Int.toNat_natCast, hj]
    simp only [Option.bind_some]
    rw [cond_neg (by omega)]
  | succ k ih =>
    intro i hk hi m p q hm hq
    obtain ⟨m, rfl⟩ : ∃ j, m = j + 1 := ⟨m - 1, by omega⟩
    simp only [clepsydraref12_Join_l1, clepsydraref12_Join_l1_b]
    rw [cond_pos (by omega), Int.toNat_natCast, hj]
    simp only [Option.bind_some]
    cases h : s.drop i with
    | nil =>
      have := drop_nil h
      rw [cond_neg (by omega)]
      simp
    | cons c r =>
      obtain ⟨h1, h2, h3⟩ := drop_cons h
      rw [cond_pos (by omega), cond_pos (by omega)]
      rw [cond_pos (by omega), Int.toNat_natCast, h1]
      simp only [Option.bind_some, strOf_one, rj7]
      have ho := oneJ_val n c
      unfold oneJ at ho
      obtain ⟨a1, b1, ho⟩ := Option.bind_eq_some_iff.1 ho
      obtain ⟨a2, b2, ho⟩ := Option.bind_eq_some_iff.1 ho
      obtain ⟨a3, b3, ho⟩ := Option.bind_eq_some_iff.1 ho
      have hqb := qB_len c
      rw [b1]; simp only [Option.bind_some]
      rw [b2]; simp only [Option.bind_some]
      rw [b3]; simp only [Option.bind_some]
      rw [ho]; simp only [Option.bind_some]
      rw [cond_pos (by omega), wrap1 i (by omega), ih (i + 1) (by omega) (by omega) m _ _ (by omega) (by simp; omega), h2]
      simp [Bool.and_assoc]
theorem rj9 (n : Nat) (l : List Str) (j : Nat) (s out : Str) (hj : l[j]? = some s) (hl : s.length ≤ 1000) (hn : s.length < n) (ho : out.length ≤ 1000000000000) :
    clepsydraref12_Join_j9 n l out (j : Int) = some ((if j = 0 then out else out ++ [32]) ++ jW s) := by
  have h8 : clepsydraref12_Join_j8 n out (j : Int) = some (if j = 0 then out else out ++ [32]) := by
    unfold clepsydraref12_Join_j8 clepsydraref12_Join_j8_b
    by_cases h0 : j = 0
    · rw [cond_neg (by omega), if_pos h0]
    · rw [cond_pos (by omega), if_neg h0, cond_pos (by simp; omega)]
  have hf := flat_len s
  have hout : (if j = 0 then out else out ++ [32]).length ≤ out.length + 1 := by split <;> simp
  have hin := rin_loop n l j s hj hl s.length 0 (by omega) (by omega) n (!(s == ([] : Str))) [34] hn (by simp)
  change clepsydraref12_Join_l1 n n l (j : Int) (!(s == ([] : Str))) ([34] : Str) (0 : Int) = _ at hin
  rw [List.drop_zero] at hin
  unfold clepsydraref12_Join_j9 clepsydraref12_Join_j9_b
  rw [h8]
  simp only [Option.bind_some]
  rw [cond_pos (by omega), Int.toNat_natCast, hj]
  simp only [Option.bind_some]
  rw [hin]
  simp only [Option.bind_some]
  generalize (if j = 0 then out else out ++ [32]) = o2 at *
  have e : (!(s == ([] : Str)) && !s.any strangeB) = !needS s := by unfold needS; cases s == ([] : Str) <;> simp
  rw [e]
  cases hne : needS s with
  | true =>
    simp only [Bool.not_true, cond_false]
    have hj : jW s = quotedS s := by rw [jW, if_pos hne]
    rw [cond_pos (by simp only [List.length_append, List.length_cons, List.length_nil]; omega), cond_pos (by simp only [List.length_append, List.length_cons, List.length_nil]; omega), hj]
    simp [quotedS]
  | false =>
    simp only [Bool.not_false, cond_true]
    have hj : jW s = s := by rw [jW, if_neg (by simp [hne])]
    rw [cond_pos (by omega), cond_pos (by omega), hj]
theorem rout_loop (n : Nat) (l : List Str) (hl : l.length ≤ 10000) (hw : ∀ s ∈ l, s.length ≤ 1000 ∧ s.length < n) : ∀ (k i : Nat), l.length - i ≤ k → i ≤ l.length → ∀ (m : Nat) (out : Str), k < m → out.length ≤ i * 4003 →
    clepsydraref12_Join_l0 n m l out (i : Int) = some (if i = 0 then out ++ joinS (l.drop i) else out ++ Lib.joinTail [32] ((l.drop i).map jW)) := by
  intro k
  induction k with
  | zero =>
    intro i hk hi m out hm ho
    obtain ⟨m, rfl⟩ : ∃ j, m = j + 1 := ⟨m - 1, by omega⟩
    have h : l.drop i = [] := List.drop_eq_nil_of_le (by omega)
    simp only [clepsydraref12_Join_l0, clepsydraref12_Join_l0_b, h]
    rw [cond_neg (by omega)]
    split <;> simp [joinS, Lib.join, Lib.joinTail]
  | succ k ih =>
    intro i hk hi m out hm ho
    obtain ⟨m, rfl⟩ : ∃ j, m = j + 1 := ⟨m - 1, by omega⟩
    simp only [clepsydraref12_Join_l0, clepsydraref12_Join_l0_b]
    cases h : l.drop i with
    | nil =>
      have := drop_nil h
      rw [cond_neg (by omega)]
      split <;> simp [joinS, Lib.join, Lib.joinTail]
    | cons s r =>
      obtain ⟨h1, h2, h3⟩ := drop_cons h
      obtain ⟨w1, w2⟩ := hw s (List.mem_of_getElem? h1)
      have hj := jW_len s
      rw [cond_pos (by omega), rj9 n l i s out h1 w1 w2 (by omega)]
      simp only [Option.bind_some]
      have hb : ((if i = 0 then out else out ++ [32]) ++ jW s).length ≤ (i + 1) * 4003 := by
        rw [List.length_append]
        have : (if i = 0 then out else out ++ [32]).length ≤ out.length + 1 := by split <;> simp
        omega
      rw [wrap1 i (by omega), ih (i + 1) (by omega) (by omega) m _ (by omega) hb, if_neg (by omega), h2]
      by_cases hi0 : i = 0
      · rw [if_pos hi0, if_pos hi0, joinS, List.map_cons, Lib.join_cons, List.append_assoc]
      · rw [if_neg hi0, if_neg hi0]
        simp [Lib.joinTail]
theorem rjoin_val (n : Nat) (l : List Str) (hl : l.length ≤ 10000) (hn : l.length < n) (hw : ∀ s ∈ l, s.length ≤ 1000 ∧ s.length < n) : clepsydraref12_Join_f n l = some (joinS l) := by
  have h := rout_loop n l hl hw l.length 0 (by omega) (by omega) n [] hn (by simp)
  change clepsydraref12_Join_l0 n n l ([] : Str) (0 : Int) = _ at h
  unfold clepsydraref12_Join_f clepsydraref12_Join_b
  rw [h]
  simp

/-! ### split as they were -/
theorem sp_qB (c : UInt8) (w t : Str) : sp (.word 34 w) (qB c ++ t) = sp (.word 34 (w ++ [c])) t := by
  unfold qB
  have st : ∀ r : Str, sp (.word 34 w) (92 :: r) = sp (.esc 34 w) r := by
    intro r
    rw [sp, if_neg (by simp)]
    unfold stepW
    rw [if_neg (by simp), if_neg (by simp), if_pos (by simp)]
  by_cases g1 : c = 10
  · rw [if_pos g1]; subst g1
    simp only [List.cons_append, List.nil_append]
    rw [st, sp]; rfl
  rw [if_neg g1]
  by_cases g2 : c = 9
  · rw [if_pos g2]; subst g2
    simp only [List.cons_append, List.nil_append]
    rw [st, sp]; rfl
  rw [if_neg g2]
  by_cases g3 : c < 32 ∨ c = 127
  · rw [if_pos g3]
    simp only [List.cons_append, List.nil_append]
    have hh := byte_all (p := fun x => (hexB (digB (UInt8.ofNat x / 16))) = some (x / 16) ∧ hexB (digB (UInt8.ofNat x % 16)) = some (x % 16) ∧ UInt8.ofNat (x / 16 * 16 + x % 16) = UInt8.ofNat x) (by decide +kernel) c
    rw [UInt8.ofNat_toNat] at hh
    rw [st, sp]
    have e : letB 120 = none := rfl
    rw [e]
    simp only [if_true]
    rw [sp, hh.1]
    simp only
    rw [sp, hh.2.1]
    simp only
    rw [hh.2.2]
  rw [if_neg g3]
  by_cases g4 : c = 92 ∨ c = 34
  · rw [if_pos g4]
    simp only [List.cons_append, List.nil_append]
    rw [st, sp]
    rcases g4 with h | h <;> subst h <;> rfl
  rw [if_neg g4]
  simp only [not_or] at g4
  simp only [List.cons_append, List.nil_append]
  rw [sp, if_neg (by simp)]
  unfold stepW
  rw [if_neg (by simp), if_neg (fun e => g4.2 e.1), if_neg (fun e => g4.1 e.1)]
theorem sp_qBs (t : Str) : ∀ (s w : Str), sp (.word 34 w) (s.flatMap qB ++ t) = sp (.word 34 (w ++ s)) t
  | [], w => by simp
  | c :: r, w => by rw [List.flatMap_cons, List.append_assoc, sp_qB, sp_qBs t r]; simp
theorem sp_notstrange (t : Str) : ∀ (s w : Str), s.any strangeB = false → sp (.word 0 w) (s ++ t) = sp (.word 0 (w ++ s)) t
  | [], w, _ => by simp
  | c :: r, w, h => by
    simp only [List.any_cons, Bool.or_eq_false_iff] at h
    have hc := h.1
    have hh := byte_all (p := fun x => strangeB (UInt8.ofNat x) = true ∨ (blankB (UInt8.ofNat x) = false ∧ quoteB (UInt8.ofNat x) = false ∧ UInt8.ofNat x ≠ 92)) (by decide +kernel) c
    rw [UInt8.ofNat_toNat, hc] at hh
    obtain ⟨h1, h2, h3⟩ := hh.resolve_left (by simp)
    rw [List.cons_append, sp, if_neg (by simp [h1])]
    unfold stepW
    rw [if_neg (by simp [h2]), if_neg (by simp), if_neg (fun e => h3 e.1), sp_notstrange t r _ h.2]
    simp
theorem sp_jW (s t : Str) : sp .out (jW s ++ t) = sp (.word 0 s) t := by
  unfold jW
  by_cases hn : needS s = true
  · rw [if_pos hn, quotedS, List.cons_append, sp_out_word _ _ (by decide), sp_beg34, List.append_assoc, sp_qBs, List.cons_append, sp_end34]
    simp
  · rw [if_neg hn]
    unfold needS at hn
    simp only [Bool.not_eq_true, Bool.or_eq_false_iff] at hn
    cases s with
    | nil => simp at hn
    | cons c r =>
      have h := hn.2
      simp only [List.any_cons, Bool.or_eq_false_iff] at h
      have hh := byte_all (p := fun x => strangeB (UInt8.ofNat x) = true ∨ blankB (UInt8.ofNat x) = false) (by decide +kernel) c
      rw [UInt8.ofNat_toNat, h.1] at hh
      have hb := hh.resolve_left (by simp)
      rw [List.cons_append, sp_out_word _ _ hb, ← List.cons_append, sp_notstrange t (c :: r) [] hn.2]
      simp
theorem sp_tail (s : Str) : ∀ (r : List Str), sp (.word 0 s) (Lib.joinTail [32] (r.map jW)) = some (s :: r)
  | [] => rfl
  | x :: r => by
    have e : Lib.joinTail [32] ((x :: r).map jW) = 32 :: (jW x ++ Lib.joinTail [32] (r.map jW)) := by simp [Lib.joinTail]
    rw [e, sp, if_pos (by decide), sp_jW, sp_tail x r]
    rfl
theorem sp_joinS (l : List Str) : sp .out (joinS l) = some l := by
  cases l with
  | nil => rfl
  | cons x r => rw [joinS, List.map_cons, Lib.join_cons, sp_jW, sp_tail]

theorem back_loop (n : Nat) (hn : 100 ≤ n) (l : List Str) (hl : l.length ≤ 64) : ∀ (k i : Nat), l.length - i ≤ k → i ≤ l.length → ∀ (m : Nat), k < m →
    clepsydralaw12_WordsBack_l0 n m l (l.take i) (i : Int) = some (if (l.drop i).any (fun s => decide (100 < s.length)) = true then .inl true else .inr l) := by
  intro k
  induction k with
  | zero =>
    intro i hk hi m hm
    obtain ⟨m, rfl⟩ : ∃ j, m = j + 1 := ⟨m - 1, by omega⟩
    have h : l.drop i = [] := List.drop_eq_nil_of_le (by omega)
    have h2 : l.take i = l := List.take_of_length_le (by omega)
    simp only [clepsydralaw12_WordsBack_l0, clepsydralaw12_WordsBack_l0_b, h, h2]
    rw [cond_neg (by omega)]
    rfl
  | succ k ih =>
    intro i hk hi m hm
    obtain ⟨m, rfl⟩ : ∃ j, m = j + 1 := ⟨m - 1, by omega⟩
    simp only [clepsydralaw12_WordsBack_l0, clepsydralaw12_WordsBack_l0_b]
    cases h : l.drop i with
    | nil =>
      have := drop_nil h
      have h2 : l.take i = l := List.take_of_length_le (by omega)
      rw [cond_neg (by omega), h2]
      rfl
    | cons s r =>
      obtain ⟨h1, h2, h3⟩ := drop_cons h
      rw [cond_pos (by omega), cond_pos (by omega), Int.toNat_natCast, h1, works_val n hn]
      simp only [Option.bind_some]
      by_cases h100 : 100 < s.length
      · rw [cond_pos (by omega)]
        simp [h100]
      · rw [cond_neg (by omega), cond_pos (by omega)]
        have ht : l.take i ++ [s] = l.take (i + 1) := by rw [List.take_add_one, h1]; rfl
        have htl : (l.take i).length ≤ 64 := by simp; omega
        rw [cond_pos (by simp only [List.length_cons, List.length_nil]; omega), ht, wrap1 i (by omega), ih (i + 1) (by omega) (by omega) m (by omega), h2]
        simp [h100]
theorem WordsBack_law (n : Nat) (hn : 300000 ≤ n) (l : List Str) : clepsydralaw12_WordsBack_f n l = some true := by
  unfold clepsydralaw12_WordsBack_f clepsydralaw12_WordsBack_b
  rw [works_val n (by omega)]
  by_cases h : l.length > 64
  · rw [cond_pos (by omega)]; rfl
  have e := back_loop n (by omega) l (by omega) l.length 0 (by omega) (by omega) n (by omega)
  change clepsydralaw12_WordsBack_l0 n n l ([] : List Str) (0 : Int) = _ at e
  rw [cond_neg (by omega), e, List.drop_zero]
  by_cases h100 : l.any (fun s => decide (100 < s.length)) = true
  · rw [if_pos h100]; rfl
  · rw [if_neg h100]
    have hw : ∀ s ∈ l, s.length ≤ 100 := by
      intro s hs
      by_cases h : s.length ≤ 100
      · exact h
      · exact absurd (List.any_eq_true.2 ⟨s, hs, decide_eq_true (by omega)⟩) h100
    have hjl := joinS_len l (fun s hs => by have := hw s hs; omega)
    simp only [Option.bind_some, Sum.elim_inr]
    rw [join_val n l (by omega) (by omega) (fun s hs => ⟨by have := hw s hs; omega, by have := hw s hs; omega⟩)]
    simp only [Option.bind_some]
    rw [split_val n _ (by omega) (by omega), rjoin_val n l (by omega) (by omega) (fun s hs => ⟨by have := hw s hs; omega, by have := hw s hs; omega⟩), sp_joinS, splitR_val l (by omega)]
    simp only [Option.bind_some, beq_self_eq_true, cond_true, same_val n l l (by omega) (by omega), decide_true]
end Go.Proofs.YtgcjkimkoppocaaDoor.H

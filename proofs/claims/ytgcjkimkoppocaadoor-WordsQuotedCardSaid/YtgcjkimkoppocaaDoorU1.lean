/- Chapter 12: what single bytes do; the words of a value, byte by byte. -/
import Derived.Test.YtgcjkimkoppocaaDoorT
import Derived.Test.YtgcjkimkoppocaaDoorPA
namespace Go.Proofs.YtgcjkimkoppocaaDoor.H
open Go.Sh Go.RowKit
set_option linter.unusedSimpArgs false

def blankB (b : UInt8) : Bool := b == 32 || b == 9
def quoteB (b : UInt8) : Bool := b == 34 || b == 39
theorem blank_val (n : Nat) (b : UInt8) : words_blank_f n (b.toNat : Int) = some (blankB b) := by
  have h := byte_all (p := fun x => words_blank_f 0 (x : Int) = some (blankB (UInt8.ofNat x))) (by decide +kernel) b
  rw [UInt8.ofNat_toNat] at h
  exact h
theorem rblank_val (n : Nat) (b : UInt8) : clepsydraref12_blank_f n (b.toNat : Int) = some (blankB b) := by
  have h := byte_all (p := fun x => clepsydraref12_blank_f 0 (x : Int) = some (blankB (UInt8.ofNat x))) (by decide +kernel) b
  rw [UInt8.ofNat_toNat] at h
  exact h
theorem quote_val (n : Nat) (b : UInt8) : (strings_IndexByte_f n ([34, 39] : Str) (b.toNat : Int)).map (fun o => decide (o ≥ (0 : Int))) = some (quoteB b) := by
  have h := byte_all (p := fun x => (strings_IndexByte_f 0 ([34, 39] : Str) (x : Int)).map (fun o => decide (o ≥ (0 : Int))) = some (quoteB (UInt8.ofNat x))) (by decide +kernel) b
  rw [UInt8.ofNat_toNat] at h
  exact h
/-- A digit to the base 16. -/
def hexB (b : UInt8) : Option Nat := if 48 ≤ b ∧ b ≤ 57 then some (b.toNat - 48) else if 97 ≤ b ∧ b ≤ 102 then some (b.toNat - 87) else if 65 ≤ b ∧ b ≤ 70 then some (b.toNat - 55) else none
theorem hexB_lt (b : UInt8) : ∀ x, hexB b = some x → x < 16 := by
  have h := byte_all (p := fun x => (hexB (UInt8.ofNat x)).all (fun y => decide (y < 16)) = true) (by decide +kernel) b
  rw [UInt8.ofNat_toNat] at h
  intro x hx
  rw [hx] at h
  simpa using h
theorem hex_val (n : Nat) (b : UInt8) : ∃ v : Int, words_hex_f n (b.toNat : Int) = some (match hexB b with | some x => ((x : Int), true) | none => (v, false)) := by
  have h := byte_all (p := fun x => (words_hex_f 0 (x : Int)).map (fun o => (if o.2 then some o.1 else none)) = some ((hexB (UInt8.ofNat x)).map fun x => (x : Int))) (by decide +kernel) b
  rw [UInt8.ofNat_toNat] at h
  change (words_hex_f n (b.toNat : Int)).map _ = _ at h
  cases hx : words_hex_f n (b.toNat : Int) with
  | none => rw [hx] at h; cases h
  | some o =>
    obtain ⟨v, k⟩ := o
    rw [hx] at h
    refine ⟨v, ?_⟩
    cases hb : hexB b with
    | none => rw [hb] at h; cases k <;> simp_all
    | some x => rw [hb] at h; cases k <;> simp_all
theorem rhex_val (n : Nat) (b : UInt8) : clepsydraref12_hex_f n (b.toNat : Int) = some (match hexB b with | some x => (x : Int) | none => -1) := by
  have h := byte_all (p := fun x => clepsydraref12_hex_f 0 (x : Int) = some (match hexB (UInt8.ofNat x) with | some x => (x : Int) | none => -1)) (by decide +kernel) b
  rw [UInt8.ofNat_toNat] at h
  exact h
/-- The plain letters behind a backslash. -/
def letB (b : UInt8) : Option UInt8 := if b = 110 then some 10 else if b = 116 then some 9 else if b = 115 then some 32 else if b = 92 ∨ b = 34 ∨ b = 39 then some b else none
/-- What stands behind a backslash: the byte, and what is left. -/
def escS : Str → Option (UInt8 × Str)
  | [] => none
  | c :: r => match letB c with
    | some x => some (x, r)
    | none => if c = 120 then match r with
      | a :: b :: r' => match hexB a, hexB b with
        | some x, some y => some (UInt8.ofNat (x * 16 + y), r')
        | _, _ => none
      | _ => none
      else none
theorem escS_len {s : Str} {x : UInt8} {r : Str} (h : escS s = some (x, r)) : r.length < s.length := by
  unfold escS at h
  split at h
  · cases h
  · split at h
    · injection h with h; injection h with _ h; subst h; simp
    · split at h
      · split at h
        · split at h
          · injection h with h; injection h with _ h; subst h; simp; omega
          · cases h
        · cases h
      · cases h

/-- Where one is: between words; in a word; behind a backslash; behind its x; behind a digit. -/
inductive Sc where
  | out
  | word (q : UInt8) (w : Str)
  | esc (q : UInt8) (w : Str)
  | hx (q : UInt8) (w : Str)
  | hy (q : UInt8) (w : Str) (a : Nat)
/-- What a byte of a word does. -/
def stepW (q : UInt8) (w : Str) (c : UInt8) : Sc :=
  if q = 0 ∧ quoteB c = true then .word c w
  else if c = q ∧ q ≠ 0 then .word 0 w
  else if c = 92 ∧ q ≠ 39 then .esc q w
  else .word q (w ++ [c])
/-- The words of a value; none: it is wrong. -/
def sp : Sc → Str → Option (List Str)
  | .out, [] => some []
  | .out, c :: r => if blankB c = true then sp .out r else sp (stepW 0 [] c) r
  | .word q w, [] => if q = 0 then some [w] else none
  | .word q w, c :: r => if q = 0 ∧ blankB c = true then (sp .out r).map (w :: ·) else sp (stepW q w c) r
  | .esc _ _, [] => none
  | .esc q w, c :: r => match letB c with
    | some x => sp (.word q (w ++ [x])) r
    | none => if c = 120 then sp (.hx q w) r else none
  | .hx _ _, [] => none
  | .hx q w, c :: r => match hexB c with
    | some x => sp (.hy q w x) r
    | none => none
  | .hy _ _ _, [] => none
  | .hy q w x, c :: r => match hexB c with
    | some y => sp (.word q (w ++ [UInt8.ofNat (x * 16 + y)])) r
    | none => none
theorem sp_esc (q : UInt8) (w : Str) (s : Str) : sp (.esc q w) s = match escS s with | some (x, r) => sp (.word q (w ++ [x])) r | none => none := by
  cases s with
  | nil => rfl
  | cons c r =>
    simp only [sp, escS]
    cases hl : letB c with
    | some x => rfl
    | none =>
      simp only
      by_cases h : c = 120
      · rw [if_pos h, if_pos h]
        cases r with
        | nil => rfl
        | cons a r =>
          simp only [sp]
          cases r with
          | nil => cases hexB a <;> rfl
          | cons b r => cases ha : hexB a <;> cases hb : hexB b <;> simp only [sp, ha, hb]
      · rw [if_neg h, if_neg h]
theorem sp_out_drop (s : Str) : sp .out s = sp .out (s.dropWhile blankB) := by
  induction s with
  | nil => rfl
  | cons c r ih =>
    by_cases h : blankB c = true
    · rw [List.dropWhile_cons_of_pos h, ← ih, sp, if_pos h]
    · rw [List.dropWhile_cons_of_neg h]
theorem sp_out_word (c : UInt8) (r : Str) (h : blankB c = false) : sp .out (c :: r) = sp (.word 0 []) (c :: r) := by
  simp [sp, h]
/-- A word's begin: quote, word, what is left. -/
theorem sp_step (q : UInt8) (w : Str) (c : UInt8) (r : Str) (h : (q == 0 && blankB c) = false) : sp (.word q w) (c :: r) = sp (stepW q w c) r := by
  rw [sp, if_neg]
  rintro ⟨h1, h2⟩
  simp [h1, h2] at h
end Go.Proofs.YtgcjkimkoppocaaDoor.H

/- Plain lemmas: tests, numbers, bytes, rows. -/
import Derived.Test.YtcbgfjghebopoaaDoorST
import Derived.Test.YtcbgfjghebopoaaDoorSX
import Derived.IntWalk
namespace Go.Sh
open Go.RowKit
set_option linter.unusedSimpArgs false

theorem cond_pos {α : Type} {p : Prop} [Decidable p] (h : p) (x y : α) : cond (decide p) x y = x := by rw [decide_eq_true h]; rfl
theorem cond_neg {α : Type} {p : Prop} [Decidable p] (h : ¬p) (x y : α) : cond (decide p) x y = y := by rw [decide_eq_false h]; rfl
theorem cond_ite {α : Type} {p : Prop} [Decidable p] (x y : α) : cond (decide p) x y = if p then x else y := by by_cases h : p <;> simp [h]
theorem wrap1 (i : Nat) (h : i < 9223372036854775807) : IntKind.i64.wrap ((i : Int) + 1) = ((i + 1 : Nat) : Int) := by
  rw [IntWalk.i64_in _ (by omega)]
  omega
theorem wrapk (i k : Nat) (h : i + k ≤ 9223372036854775807) : IntKind.i64.wrap ((i : Int) + (k : Int)) = ((i + k : Nat) : Int) := by
  rw [IntWalk.i64_in _ (by omega)]
  omega

/-! ### bytes -/
theorem byte_all {p : Nat → Prop} [DecidablePred p] (h : ((List.range 256).all fun x => decide (p x)) = true) (b : UInt8) : p b.toNat :=
  of_decide_eq_true (List.all_eq_true.1 h _ (List.mem_range.2 b.toNat_lt))
theorem beq_byte (c d : UInt8) : ((c.toNat : Int) == (d.toNat : Int)) = (c == d) := by
  rw [Bool.eq_iff_iff, beq_iff_eq, beq_iff_eq]
  constructor
  · intro h
    exact UInt8.toNat_inj.1 (by omega)
  · intro h
    rw [h]
theorem bne_byte (c d : UInt8) : ((c.toNat : Int) != (d.toNat : Int)) = (c != d) := by rw [bne, bne, beq_byte]
theorem le_byte (c d : UInt8) : decide ((c.toNat : Int) ≤ (d.toNat : Int)) = decide (c ≤ d) := by
  rw [decide_eq_decide, UInt8.le_iff_toNat_le]; omega
theorem lt_byte (c d : UInt8) : decide ((c.toNat : Int) < (d.toNat : Int)) = decide (c < d) := by
  rw [decide_eq_decide, UInt8.lt_iff_toNat_lt]; omega
theorem ofNat_byte (b : UInt8) : UInt8.ofNat ((b.toNat : Int)).toNat = b := by simp

/-! ### bytes and numbers -/
theorem intsOf_nil : intsOf [] = [] := rfl
theorem intsOf_cons (c : UInt8) (s : Str) : intsOf (c :: s) = (c.toNat : Int) :: intsOf s := rfl
theorem intsOf_append (s t : Str) : intsOf (s ++ t) = intsOf s ++ intsOf t := by simp [intsOf]
theorem intsOf_length (s : Str) : (intsOf s).length = s.length := by simp [intsOf]
theorem intsOf_snoc (s : Str) (c : UInt8) : intsOf s ++ [(c.toNat : Int)] = intsOf (s ++ [c]) := by simp [intsOf]
theorem strOf_append (s t : List Int) : strOf (s ++ t) = strOf s ++ strOf t := by simp [strOf]
theorem strOf_one (c : UInt8) : strOf [(c.toNat : Int)] = [c] := by simp [strOf]
theorem strOf_intsOf (s : Str) : strOf (intsOf s) = s := by
  unfold strOf intsOf
  rw [List.map_map]
  conv => rhs; rw [← List.map_id s]
  exact List.map_congr_left fun b _ => by simp
theorem strOf_length (s : List Int) : (strOf s).length = s.length := by simp [strOf]

/-! ### rows -/
theorem drop_cons {α : Type} {s r : List α} {i : Nat} {c : α} (h : s.drop i = c :: r) : s[i]? = some c ∧ s.drop (i + 1) = r ∧ i < s.length := by
  have hi : i < s.length := by
    by_cases hi : i < s.length
    · exact hi
    · rw [List.drop_eq_nil_of_le (by omega)] at h; cases h
  rw [List.drop_eq_getElem_cons hi] at h
  injection h with h1 h2
  exact ⟨by rw [List.getElem?_eq_getElem hi, h1], h2, hi⟩
theorem drop_nil {α : Type} {s : List α} {i : Nat} (h : s.drop i = []) : s.length ≤ i := by simpa using h
theorem drop_len {α : Type} (s : List α) (i : Nat) : (s.drop i).length = s.length - i := by simp
end Go.Sh

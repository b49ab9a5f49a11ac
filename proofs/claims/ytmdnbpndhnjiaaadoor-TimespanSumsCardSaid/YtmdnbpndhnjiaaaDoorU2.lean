/- Chapter 02: the program's parser says just what a text says. -/
import Derived.Test.YtmdnbpndhnjiaaaDoorU1
namespace Go.Proofs.YtmdnbpndhnjiaaaDoor.H
open Go.Sh Go.RowKit
set_option linter.unusedSimpArgs false
set_option linter.unusedVariables false

/-! ### a part -/
/-- A fraction, in millionths, and what is left; none: it is none. -/
def fracS : Str → Option (Nat × Str)
  | [] => some (0, [])
  | c :: r => if c = 46 then (if r.takeWhile digB = [] ∨ 6 < (r.takeWhile digB).length then none else some (valN (r.takeWhile digB) * 10 ^ (6 - (r.takeWhile digB).length), r.dropWhile digB)) else some (0, c :: r)
/-- A part's length: none: too great. -/
def longS (w f u : Nat) : Nat := w * u + (u / 1000000 * f + u % 1000000 * f / 1000000)
/-- A part, and what is left; none: there is none. -/
def partS (s : Str) : Option (Nat × Str) :=
  if s.takeWhile digB = [] then none else
  match fracS (s.dropWhile digB) with
  | none => none
  | some (f, r) =>
    if unitN ((r.dropWhile blkB).takeWhile letB) = 0 then none
    else some (longS (valN (s.takeWhile digB)) f (unitN ((r.dropWhile blkB).takeWhile letB)), (r.dropWhile blkB).dropWhile letB)
theorem fracS_len {s r : Str} {f : Nat} (h : fracS s = some (f, r)) : r.length ≤ s.length := by
  cases s with
  | nil => simp only [fracS] at h; injection h with h; injection h with _ h; subst h; simp
  | cons c t =>
    simp only [fracS] at h
    split at h
    · split at h
      · cases h
      · injection h with h; injection h with _ h; subst h
        have := dw_len (p := digB) t
        simp only [List.length_cons]; omega
    · injection h with h; injection h with _ h; subst h; exact Nat.le_refl _
theorem fracS_lt {s r : Str} {f : Nat} (h : fracS s = some (f, r)) : f < 1000000 := by
  cases s with
  | nil => simp only [fracS] at h; injection h with h; injection h with h _; omega
  | cons c t =>
    simp only [fracS] at h
    split at h
    · split at h
      · cases h
      · rename_i h1
        simp only [not_or] at h1
        injection h with h; injection h with h _
        have h2 : valN (t.takeWhile digB) < 10 ^ (t.takeWhile digB).length := by
          have := valA_lt (t.takeWhile digB) 0 0 (by omega) (tw_all t)
          rwa [Nat.zero_add] at this
        have h3 : 10 ^ (t.takeWhile digB).length * 10 ^ (6 - (t.takeWhile digB).length) = 1000000 := by
          rw [← Nat.pow_add, show (t.takeWhile digB).length + (6 - (t.takeWhile digB).length) = 6 by omega]
        have h4 := Nat.mul_lt_mul_of_pos_right h2 (Nat.pow_pos (n := 6 - (t.takeWhile digB).length) (show 0 < 10 by omega))
        omega
    · injection h with h; injection h with h _; omega
theorem partS_len {s r : Str} {v : Nat} (h : partS s = some (v, r)) : r.length < s.length := by
  unfold partS at h
  split at h
  · cases h
  · rename_i hw
    split at h
    · cases h
    · rename_i f q hf
      split at h
      · cases h
      · injection h with h; injection h with _ h; subst h
        have h1 := fracS_len hf
        have h2 := tw_dw_len (p := digB) s
        have h3 := dw_len (p := blkB) q
        have h4 := dw_len (p := letB) (q.dropWhile blkB)
        have : 0 < (s.takeWhile digB).length := List.length_pos_iff.2 hw
        omega
/-- All parts. -/
def itemsS (s : Str) : Option (List Nat) :=
  if s.dropWhile blkB = [] then some [] else
  match h : partS (s.dropWhile blkB) with
  | none => none
  | some (v, r) => (itemsS r).map (v :: ·)
termination_by s.length
decreasing_by
  have h1 := partS_len h
  have h2 := dw_len (p := blkB) s
  omega
theorem itemsS_nil {s : Str} (h : s.dropWhile blkB = []) : itemsS s = some [] := by rw [itemsS, if_pos h]
theorem itemsS_none {s : Str} (h : s.dropWhile blkB ≠ []) (hp : partS (s.dropWhile blkB) = none) : itemsS s = none := by
  rw [itemsS, if_neg h]
  split
  · rfl
  · rename_i v r h1; rw [hp] at h1; cases h1
theorem itemsS_some {s r : Str} {v : Nat} (h : s.dropWhile blkB ≠ []) (hp : partS (s.dropWhile blkB) = some (v, r)) : itemsS s = (itemsS r).map (v :: ·) := by
  rw [itemsS, if_neg h]
  split
  · rename_i h1; rw [hp] at h1; cases h1
  · rename_i v' r' h1; rw [hp] at h1; injection h1 with h1; injection h1 with h1 h2; subst h1; subst h2; rfl
theorem itemsS_dw (s : Str) : itemsS (s.dropWhile blkB) = itemsS s := by
  by_cases h : s.dropWhile blkB = []
  · rw [itemsS_nil h, itemsS_nil (by rw [dw_dw]; exact h)]
  · cases hp : partS (s.dropWhile blkB) with
    | none => rw [itemsS_none h hp, itemsS_none (by rw [dw_dw]; exact h) (by rw [dw_dw]; exact hp)]
    | some x =>
      obtain ⟨v, r⟩ := x
      rw [itemsS_some h hp, itemsS_some (by rw [dw_dw]; exact h) (by rw [dw_dw]; exact hp)]

def sumL (l : List Nat) : Nat := l.sum
/-- What parts are together. -/
def totS (l : List Nat) : Int × Int := if l.sum < 9223372036854775807 then ((l.sum : Nat), 0) else (0, 6)
def trimS (s : Str) : Str := ((s.dropWhile blkB).reverse.dropWhile blkB).reverse
def parseS (s : Str) : Int × Int :=
  if trimS s = [105, 110, 102, 105, 110, 105, 116, 121] then (9223372036854775807, 0)
  else if trimS s = [] then (0, 20)
  else match itemsS (trimS s) with
    | none => (0, 20)
    | some l => totS l

/-! ### the program -/
theorem hp_dot (s : Str) : Lib.hasPrefix s [46] = match s with | [] => false | c :: _ => decide (c = 46) := by
  cases s with
  | nil => rfl
  | cons c r =>
    simp only [Lib.hasPrefix, List.isPrefixOf]
    by_cases h : c = 46
    · subst h; simp
    · simp [h, Ne.symm h]
theorem rep_val (k : Nat) : Lib.repeatL [48] k = List.replicate k 48 := by
  induction k with
  | zero => rfl
  | succ k ih => rw [Lib.repeatL, ih]; rfl
theorem j1_val (n : Nat) (h : Str) (w : Str) (u : Int) (hn : h.length < n) (hl : h.length < 281474976710656) : timespan_text_part_j1 n h [] 0 0 w 0 u =
    match fracS h with
    | none => (timespan_text_part_j1 n h [] 0 0 w 0 u)
    | some (f, r) => some (Sum.inr (r, [], 0, 0, w, (f : Int), u)) := by
  cases h with
  | nil => rfl
  | cons c t =>
    simp only [fracS]
    by_cases hc : c = 46
    · rw [if_pos hc]
      by_cases h1 : t.takeWhile digB = [] ∨ 6 < (t.takeWhile digB).length
      · rw [if_pos h1]
      · rw [if_neg h1]
        have h1' := h1
        simp only [not_or] at h1'
        simp only [List.length_cons] at hn hl
        have hd := tw_all (p := digB) t
        have hlen := tw_len (p := digB) t
        unfold timespan_text_part_j1 timespan_text_part_j1_b strings_HasPrefix_f
        simp only [Option.bind_some, hp_dot, decide_eq_true hc, cond_true]
        rw [cond_pos (by simp only [List.length_cons]; omega), List.drop_one, List.tail_cons, runD_val n t (by omega) (by omega)]
        simp only [Option.bind_some]
        have hj : timespan_text_part_j0 n (t.takeWhile digB) = some false := by
          unfold timespan_text_part_j0 timespan_text_part_j0_b
          rw [show (t.takeWhile digB == []) = false by simpa using h1'.1, cond_false, decide_eq_false (by omega)]
        rw [hj]
        simp only [Option.bind_some, cond_false]
        have hw : IntKind.i64.wrap ((6 : Int) - ((t.takeWhile digB).length : Int)) = ((6 - (t.takeWhile digB).length : Nat) : Int) := by
          rw [IntWalk.i64_in _ (by omega)]; omega
        rw [hw]
        have hr : strings_Repeat_f n [48] ((6 - (t.takeWhile digB).length : Nat) : Int) = some (List.replicate (6 - (t.takeWhile digB).length) 48) := by
          unfold strings_Repeat_f
          rw [Int.toNat_natCast, rep_val, decide_eq_true (by omega), decide_eq_true (by omega), decide_eq_true (by simp; omega)]
          rfl
        rw [hr]
        simp only [Option.bind_some]
        rw [cond_pos (by simp; omega)]
        have hall : (t.takeWhile digB ++ List.replicate (6 - (t.takeWhile digB).length) 48).all digB = true := by
          rw [List.all_append, hd, Bool.true_and, List.all_eq_true]
          intro x hx
          rw [(List.mem_replicate.1 hx).2]; rfl
        have hv : valN (t.takeWhile digB ++ List.replicate (6 - (t.takeWhile digB).length) 48) = valN (t.takeWhile digB) * 10 ^ (6 - (t.takeWhile digB).length) := by
          unfold valN; rw [valA_append, valA_zeros]
        have hlt := fracS_lt (s := c :: t) (r := t.dropWhile digB) (f := valN (t.takeWhile digB) * 10 ^ (6 - (t.takeWhile digB).length)) (by simp only [fracS]; rw [if_pos hc, if_neg h1])
        obtain ⟨v, hp⟩ := parse_val n _ hall (by simp [h1'.1]) (by simp; omega)
        rw [hp, hv, if_pos (by omega)]
        rfl
    · rw [if_neg hc]
      unfold timespan_text_part_j1 timespan_text_part_j1_b strings_HasPrefix_f
      simp only [Option.bind_some, hp_dot, decide_eq_false hc, cond_false]
      rfl
theorem j1_none (n : Nat) (h : Str) (w : Str) (hn : h.length < n) (hl : h.length < 281474976710656) (hf : fracS h = none) : ∃ r, r.length < h.length ∧ timespan_text_part_j1 n h [] 0 0 w 0 0 = some (Sum.inl (r, w, 0, 0, w, 0, 0)) := by
  cases h with
  | nil => simp [fracS] at hf
  | cons c t =>
    simp only [fracS] at hf
    split at hf
    · rename_i hc
      split at hf
      · rename_i h1
        simp only [List.length_cons] at hn hl
        refine ⟨t.dropWhile digB, by have := dw_len (p := digB) t; simp only [List.length_cons]; omega, ?_⟩
        unfold timespan_text_part_j1 timespan_text_part_j1_b strings_HasPrefix_f
        simp only [Option.bind_some, hp_dot, decide_eq_true hc, cond_true]
        rw [cond_pos (by simp only [List.length_cons]; omega), List.drop_one, List.tail_cons, runD_val n t (by omega) (by omega)]
        simp only [Option.bind_some]
        have hj : timespan_text_part_j0 n (t.takeWhile digB) = some true := by
          unfold timespan_text_part_j0 timespan_text_part_j0_b
          rcases h1 with h1 | h1
          · rw [h1]; rfl
          · cases (t.takeWhile digB == []) with
            | true => rfl
            | false => rw [cond_false, decide_eq_true (by omega)]
        rw [hj]
        rfl
      · cases hf
    · cases hf
/-- A part, as the program reads it: its number's text, its fraction, its unit, whether it is one, what is left. -/
theorem part_val (n : Nat) (s : Str) (hn : s.length < n) (hl : s.length < 281474976710656) :
    match partS s with
    | none => ∃ a b c r, timespan_text_part_f n s = some (a, b, c, false, r)
    | some (v, r) => ∃ f u : Nat, timespan_text_part_f n s = some (s.takeWhile digB, (f : Int), (u : Int), true, r) ∧ v = longS (valN (s.takeWhile digB)) f u ∧ f < 1000000 ∧ 0 < u ∧ u ≤ 31557600000000 ∧ s.takeWhile digB ≠ [] := by
  have hd := dw_len (p := digB) s
  unfold partS timespan_text_part_f timespan_text_part_b
  rw [runD_val n s hn (by omega)]
  simp only [Option.bind_some]
  by_cases hw : s.takeWhile digB = []
  · rw [if_pos hw]
    simp only
    rw [hw]
    exact ⟨_, _, _, _, rfl⟩
  · rw [if_neg hw, show (s.takeWhile digB == []) = false by simpa using hw]
    simp only [cond_false]
    cases hf : fracS (s.dropWhile digB) with
    | none =>
      obtain ⟨r, _, hj⟩ := j1_none n _ (s.takeWhile digB) (by omega) (by omega) hf
      rw [hj]
      exact ⟨_, _, _, _, rfl⟩
    | some x =>
      obtain ⟨f, r⟩ := x
      have hj := j1_val n (s.dropWhile digB) (s.takeWhile digB) 0 (by omega) (by omega)
      rw [hf] at hj
      have hr := fracS_len hf
      have hb := dw_len (p := blkB) r
      simp only at hj ⊢
      rw [hj]
      simp only [Option.bind_some, Sum.elim_inr]
      rw [runB_val n r (by omega) (by omega)]
      simp only [Option.bind_some]
      rw [runC_val n _ (by omega) (by omega)]
      simp only [Option.bind_some, unit_val]
      by_cases hu : unitN ((r.dropWhile blkB).takeWhile letB) = 0
      · rw [if_pos hu, hu]
        exact ⟨_, _, _, _, rfl⟩
      · rw [if_neg hu]
        simp only
        rw [decide_eq_true (by omega)]
        exact ⟨f, _, rfl, rfl, fracS_lt hf, by omega, unitN_le _, hw⟩
end Go.Proofs.YtmdnbpndhnjiaaaDoor.H

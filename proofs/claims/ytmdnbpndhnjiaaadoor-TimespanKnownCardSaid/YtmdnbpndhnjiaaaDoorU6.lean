/- Chapter 02: texts put behind each other. -/
import Derived.Test.YtmdnbpndhnjiaaaDoorU3
namespace Go.Proofs.YtmdnbpndhnjiaaaDoor.H
open Go.Sh Go.RowKit
set_option linter.unusedSimpArgs false
set_option linter.unusedVariables false

/-! ### what may stand behind -/
/-- Nothing, or a blank ahead. -/
def Gap (t : Str) : Prop := ∀ c r, t = c :: r → blkB c = true
/-- Behind blanks no letter. -/
def NoLet (t : Str) : Prop := ∀ c r, t.dropWhile blkB = c :: r → letB c = false
section
variable {p : UInt8 → Bool}
theorem tw_gap (hp : ∀ c, blkB c = true → p c = false) (s t : Str) (ht : Gap t) : (s ++ t).takeWhile p = s.takeWhile p ∧ (s ++ t).dropWhile p = s.dropWhile p ++ t := by
  induction s with
  | nil =>
    cases t with
    | nil => exact ⟨rfl, rfl⟩
    | cons c r =>
      have := hp c (ht c r rfl)
      rw [List.nil_append, List.takeWhile_cons_of_neg (by simp [this]), List.dropWhile_cons_of_neg (by simp [this])]
      exact ⟨rfl, rfl⟩
  | cons x s ih =>
    rw [List.cons_append]
    by_cases hx : p x = true
    · rw [List.takeWhile_cons_of_pos hx, List.dropWhile_cons_of_pos hx, List.takeWhile_cons_of_pos hx, List.dropWhile_cons_of_pos hx, ih.1, ih.2]
      exact ⟨rfl, rfl⟩
    · rw [List.takeWhile_cons_of_neg hx, List.dropWhile_cons_of_neg hx, List.takeWhile_cons_of_neg hx, List.dropWhile_cons_of_neg hx]
      exact ⟨rfl, rfl⟩
end
theorem dw_append (s t : Str) : (s ++ t).dropWhile blkB = if s.dropWhile blkB = [] then t.dropWhile blkB else s.dropWhile blkB ++ t := by
  rw [List.dropWhile_append]
  by_cases h : s.dropWhile blkB = []
  · rw [if_pos h, h]; rfl
  · rw [if_neg h, if_neg (by simpa using h)]
theorem fracS_gap (s t : Str) (ht : Gap t) : fracS (s ++ t) = (fracS s).map fun x => (x.1, x.2 ++ t) := by
  cases s with
  | nil =>
    cases t with
    | nil => rfl
    | cons c r =>
      have := (blk_off (ht c r rfl)).2.2
      simp only [List.nil_append, fracS, if_neg this]
      rfl
  | cons c r =>
    obtain ⟨h1, h2⟩ := tw_gap (p := digB) (fun c hc => (blk_off hc).2.1) r t ht
    simp only [List.cons_append, fracS, h1, h2]
    by_cases hc : c = 46
    · rw [if_pos hc, if_pos hc]
      split <;> rfl
    · rw [if_neg hc, if_neg hc]
      rfl
theorem partS_gap (s t : Str) (ht : Gap t) (hl : NoLet t) :
    match partS s with
    | none => partS (s ++ t) = none
    | some (v, r) => ∃ r', partS (s ++ t) = some (v, r') ∧ r'.dropWhile blkB = (r ++ t).dropWhile blkB := by
  obtain ⟨h1, h2⟩ := tw_gap (p := digB) (fun c hc => (blk_off hc).2.1) s t ht
  unfold partS
  rw [h1, h2, fracS_gap _ t ht]
  by_cases h0 : s.takeWhile digB = []
  · rw [if_pos h0, if_pos h0]
  · rw [if_neg h0, if_neg h0]
    cases hf : fracS (s.dropWhile digB) with
    | none => rfl
    | some x =>
      obtain ⟨f, q⟩ := x
      simp only [Option.map_some]
      have key : ((q ++ t).dropWhile blkB).takeWhile letB = (q.dropWhile blkB).takeWhile letB ∧ (((q ++ t).dropWhile blkB).dropWhile letB).dropWhile blkB = ((q.dropWhile blkB).dropWhile letB ++ t).dropWhile blkB := by
        rw [dw_append]
        by_cases hq : q.dropWhile blkB = []
        · rw [if_pos hq, hq]
          cases htd : t.dropWhile blkB with
          | nil => exact ⟨rfl, by simp [htd]⟩
          | cons c r =>
            have hc := hl c r htd
            rw [List.takeWhile_cons_of_neg (by simp [hc]), List.dropWhile_cons_of_neg (by simp [hc])]
            refine ⟨rfl, ?_⟩
            simp only [List.dropWhile_nil, List.nil_append, htd]
            rw [← htd, dw_dw]
        · rw [if_neg hq]
          obtain ⟨k1, k2⟩ := tw_gap (p := letB) (fun c hc => (blk_off hc).1) (q.dropWhile blkB) t ht
          rw [k1, k2]
          exact ⟨rfl, rfl⟩
      rw [key.1]
      by_cases hu : unitN ((q.dropWhile blkB).takeWhile letB) = 0
      · rw [if_pos hu, if_pos hu]
      · rw [if_neg hu, if_neg hu]
        exact ⟨_, rfl, key.2⟩
theorem itemsS_gap (t : Str) (ht : Gap t) (hl : NoLet t) : ∀ (k : Nat) (s : Str), s.length < k → itemsS (s ++ t) = (itemsS s).bind fun l => (itemsS t).map (l ++ ·)
  | 0, s, h => by omega
  | k + 1, s, h => by
    have hd := dw_append s t
    by_cases h0 : s.dropWhile blkB = []
    · rw [if_pos h0] at hd
      rw [itemsS_nil h0, ← itemsS_dw (s ++ t), hd, itemsS_dw]
      cases itemsS t <;> rfl
    · rw [if_neg h0] at hd
      have hne : (s ++ t).dropWhile blkB ≠ [] := by rw [hd]; simp [h0]
      have hp := partS_gap (s.dropWhile blkB) t ht hl
      cases hps : partS (s.dropWhile blkB) with
      | none =>
        rw [hps] at hp
        rw [itemsS_none h0 hps, itemsS_none hne (by rw [hd]; exact hp)]
        rfl
      | some x =>
        obtain ⟨v, r⟩ := x
        rw [hps] at hp
        obtain ⟨r', h1, h2⟩ := hp
        have hr := partS_len hps
        have hdl := dw_len (p := blkB) s
        rw [itemsS_some h0 hps, itemsS_some hne (by rw [hd]; exact h1), ← itemsS_dw r', h2, itemsS_dw, itemsS_gap t ht hl k r (by omega)]
        cases itemsS r with
        | none => rfl
        | some l => cases itemsS t <;> simp
theorem gap_blanks {b : Str} (h : b.all blkB = true) : Gap b ∧ NoLet b ∧ b.dropWhile blkB = [] := by
  have hd : b.dropWhile blkB = [] := by
    induction b with
    | nil => rfl
    | cons c r ih =>
      simp only [List.all_cons, Bool.and_eq_true] at h
      rw [List.dropWhile_cons_of_pos h.1]
      exact ih h.2
  refine ⟨fun c r e => ?_, fun c r e => ?_, hd⟩
  · subst e
    simp only [List.all_cons, Bool.and_eq_true] at h
    exact h.1
  · rw [hd] at e; cases e
theorem itemsS_blanks (s b : Str) (h : b.all blkB = true) : itemsS (s ++ b) = itemsS s := by
  obtain ⟨h1, h2, h3⟩ := gap_blanks h
  rw [itemsS_gap b h1 h2 (s.length + 1) s (by omega), itemsS_nil h3]
  cases itemsS s <;> simp
theorem trim_split (s : Str) : ∃ b : Str, b.all blkB = true ∧ s.dropWhile blkB = trimS s ++ b := by
  refine ⟨((s.dropWhile blkB).reverse.takeWhile blkB).reverse, ?_, ?_⟩
  · rw [List.all_reverse]; exact tw_all _
  · unfold trimS
    rw [← List.reverse_append, List.takeWhile_append_dropWhile, List.reverse_reverse]
theorem itemsS_trim (s : Str) : itemsS (trimS s) = itemsS s := by
  obtain ⟨b, h1, h2⟩ := trim_split s
  rw [← itemsS_dw s, h2, itemsS_blanks _ _ h1]
/-- A text of parts. -/
theorem parse_items {s : Str} {l : List Nat} (h : itemsS s = some l) (hne : l ≠ []) : parseS s = totS l := by
  have ht := itemsS_trim s
  rw [h] at ht
  unfold parseS
  have h1 : trimS s ≠ [] := by
    intro e
    rw [e, itemsS_nil rfl] at ht
    injection ht with ht
    exact hne ht.symm
  have h2 : trimS s ≠ [105, 110, 102, 105, 110, 105, 116, 121] := by
    intro e
    rw [e, itemsS_none (by decide) (by rfl)] at ht
    cases ht
  rw [if_neg h2, if_neg h1, ht]
theorem items_parse {s : Str} {m : Int} (h : parseS s = (m, 0)) (hm : m ≠ 9223372036854775807) : ∃ l : List Nat, itemsS s = some l ∧ l ≠ [] ∧ m = (l.sum : Int) ∧ l.sum < 9223372036854775807 := by
  unfold parseS at h
  by_cases h1 : trimS s = [105, 110, 102, 105, 110, 105, 116, 121]
  · rw [if_pos h1] at h
    injection h with h _
    exact absurd h.symm hm
  · rw [if_neg h1] at h
    by_cases h2 : trimS s = []
    · rw [if_pos h2] at h
      injection h with _ h
      cases h
    · rw [if_neg h2] at h
      cases hi : itemsS (trimS s) with
      | none => rw [hi] at h; injection h with _ h; cases h
      | some l =>
        rw [hi] at h
        simp only [totS] at h
        by_cases h3 : l.sum < 9223372036854775807
        · rw [if_pos h3] at h
          injection h with h _
          refine ⟨l, by rw [← itemsS_trim]; exact hi, ?_, h.symm, h3⟩
          intro e
          subst e
          have hd : (trimS s).dropWhile blkB ≠ [] := by rw [trimS_head]; exact h2
          cases hp : partS ((trimS s).dropWhile blkB) with
          | none => rw [itemsS_none hd hp] at hi; cases hi
          | some x =>
            rw [itemsS_some hd (v := x.1) (r := x.2) hp] at hi
            obtain ⟨q, _, hq⟩ := Option.map_eq_some_iff.1 hi
            cases hq
        · rw [if_neg h3] at h
          injection h with _ h
          cases h
/-- What has parts begins with a digit. -/
theorem items_head {s : Str} {l : List Nat} (h : itemsS s = some l) : NoLet s := by
  intro c r e
  have hd : s.dropWhile blkB ≠ [] := by rw [e]; simp
  cases hp : partS (s.dropWhile blkB) with
  | none => rw [itemsS_none hd hp] at h; cases h
  | some x =>
    unfold partS at hp
    by_cases h0 : (s.dropWhile blkB).takeWhile digB = []
    · rw [if_pos h0] at hp; cases hp
    · rw [e] at h0
      cases hc : digB c with
      | true => exact (dig_blk hc).2
      | false => rw [List.takeWhile_cons_of_neg (by simp [hc])] at h0; exact absurd rfl h0
/-- Two texts, a blank between. -/
theorem items_two {a b : Str} {c : UInt8} {l m : List Nat} (hc : blkB c = true) (ha : itemsS a = some l) (hb : itemsS b = some m) : itemsS (a ++ c :: b) = some (l ++ m) := by
  have hg : Gap (c :: b) := fun x r e => by injection e with e _; subst e; exact hc
  have hn : NoLet (c :: b) := fun x r e => by
    rw [List.dropWhile_cons_of_pos hc] at e
    exact items_head hb x r e
  have hi : itemsS (c :: b) = some m := by rw [← itemsS_dw, List.dropWhile_cons_of_pos hc, itemsS_dw, hb]
  rw [itemsS_gap _ hg hn (a.length + 1) a (by omega), ha, hi]
  rfl
end Go.Proofs.YtmdnbpndhnjiaaaDoor.H

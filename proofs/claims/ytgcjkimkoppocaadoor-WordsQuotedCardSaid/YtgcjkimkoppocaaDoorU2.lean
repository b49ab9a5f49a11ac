/- Chapter 12: the program's Split. -/
import Derived.Test.YtgcjkimkoppocaaDoorU1
namespace Go.Proofs.YtgcjkimkoppocaaDoor.H
open Go.Sh Go.RowKit
set_option linter.unusedSimpArgs false

theorem map_cond {α β : Type} (c : Bool) (x y : Option α) (f : α → β) : (cond c x y).map f = cond c (x.map f) (y.map f) := by cases c <;> rfl
theorem look_val (n : Nat) (b : UInt8) (r : Str) (w : List Int) : words_splitter_escape_j1 n (b.toNat : Int) r w = some (match letB b with | some x => ((x.toNat : Int), true, r, w) | none => (0, false, r, w)) := by
  have h := byte_all (p := fun x => (words_splitter_escape_j1 0 (x : Int) [] []).map (fun o => (o.1, o.2.1)) = some (match letB (UInt8.ofNat x) with | some x => ((x.toNat : Int), true) | none => (0, false))) (by decide +kernel) b
  rw [UInt8.ofNat_toNat] at h
  have e : ∀ (n : Nat) (r : Str) (w : List Int), words_splitter_escape_j1 n (b.toNat : Int) r w = (words_splitter_escape_j1 0 (b.toNat : Int) [] []).map fun o => (o.1, o.2.1, r, w) := by
    intro n r w
    unfold words_splitter_escape_j1 words_splitter_escape_j1_b words_named_f words_named_b
    simp only [Option.bind_some, map_cond, Option.map_some]
  rw [e]
  cases hx : words_splitter_escape_j1 0 (b.toNat : Int) [] [] with
  | none => rw [hx] at h; simp at h
  | some o =>
    rw [hx] at h
    simp only [Option.map_some] at h ⊢
    injection h with h
    cases hl : letB b with
    | none => rw [hl] at h; simp only at h ⊢; rw [Prod.mk.injEq] at h; rw [h.1, h.2]
    | some x => rw [hl] at h; simp only at h ⊢; rw [Prod.mk.injEq] at h; rw [h.1, h.2]
theorem hex_or (x y : Nat) (hx : x < 16) (hy : y < 16) : IntKind.u8.wrap ((BitVec.ofInt 8 (IntKind.u8.wrap ((x : Int) * 2 ^ 4)) ||| BitVec.ofInt 8 (y : Int)).toNat : Int) = ((UInt8.ofNat (x * 16 + y)).toNat : Int) := by
  have h : ((List.range 16).all fun x => (List.range 16).all fun y => decide (IntKind.u8.wrap ((BitVec.ofInt 8 (IntKind.u8.wrap ((x : Int) * 2 ^ 4)) ||| BitVec.ofInt 8 (y : Int)).toNat : Int) = ((UInt8.ofNat (x * 16 + y)).toNat : Int))) = true := by decide +kernel
  exact of_decide_eq_true (List.all_eq_true.1 (List.all_eq_true.1 h x (List.mem_range.2 hx)) y (List.mem_range.2 hy))
theorem esc_j0 (n : Nat) (c : UInt8) (r : Str) (w : List Int) (a1 a2 a3 a4 a5 a6 a7 a8 a9 a10 a11 a12 : Int) :
    words_splitter_escape_j0 n (c.toNat : Int) r w a1 a2 a3 a4 a5 a6 a7 a8 a9 a10 a11 a12 = some (c != 120 || decide (r.length < 2), r, w, a1, a2, a3, a4, a5, a6, a7, a8, a9, a10, a11, a12) := by
  have e : ((c.toNat : Int) != (120 : Int)) = (c != 120) := bne_byte c 120
  unfold words_splitter_escape_j0 words_splitter_escape_j0_b
  rw [e]
  have e2 : decide ((r.length : Int) < 2) = decide (r.length < 2) := by rw [decide_eq_decide]; omega
  rw [e2]
  cases c != 120 <;> simp
theorem esc_val (n : Nat) (rest : Str) (w : Str) (hw : w.length + 1 ≤ 140737488355328) :
    ∃ o, words_splitter_escape_f n rest (intsOf w) = some o ∧ (match escS rest with | some (x, r) => o = (true, r, intsOf (w ++ [x])) | none => o.1 = false) := by
  cases rest with
  | nil => exact ⟨_, rfl, rfl⟩
  | cons c r =>
    have h1 : ((c :: r : Str) == ([] : Str)) = false := rfl
    have h2 : decide ((1 : Int) ≤ ((c :: r : Str).length : Int)) = true := by simp; omega
    have hk : ∀ x : Int, decide (((intsOf w).length + ([x] : List Int).length) * 1 ≤ 140737488355328) = true := by intro x; simp [intsOf_length]; omega
    simp only [words_splitter_escape_f, words_splitter_escape_b, h1, cond_false, List.getElem?_cons_zero, Option.bind_some, h2, cond_true, List.drop_succ_cons, List.drop_zero, look_val]
    cases hl : letB c with
    | some x =>
      simp only [cond_true, hk, escS, hl, intsOf_snoc]
      exact ⟨_, rfl, rfl⟩
    | none =>
      simp only [cond_false, escS, hl, esc_j0, Option.bind_some]
      by_cases hc : c = 120
      · subst hc
        match r with
        | [] => exact ⟨_, rfl, rfl⟩
        | [a] => exact ⟨_, rfl, rfl⟩
        | a :: b :: r =>
          obtain ⟨v, hv⟩ := hex_val n a
          obtain ⟨v', hv'⟩ := hex_val n b
          have h3 : decide ((a :: b :: r).length < 2) = false := by simp
          have h4 : decide ((2 : Int) ≤ ((a :: b :: r : Str).length : Int)) = true := by simp; omega
          simp only [bne_self_eq_false, h3, Bool.or_self, cond_false, List.getElem?_cons_zero, Option.bind_some, hv, List.getElem?_cons_succ, hv', hk, cond_true, h4, List.drop_succ_cons, List.drop_zero, if_true]
          cases ha : hexB a with
          | none => exact ⟨_, rfl, rfl⟩
          | some x =>
            cases hb : hexB b with
            | none => exact ⟨_, rfl, rfl⟩
            | some y =>
              simp only [cond_true, hex_or x y (hexB_lt a x ha) (hexB_lt b y hb), intsOf_snoc]
              exact ⟨_, rfl, rfl⟩
      · have : (c != 120) = true := by simpa using hc
        simp only [this, Bool.true_or, cond_true, if_neg hc]
        exact ⟨_, rfl, rfl⟩

theorem nj3 (n : Nat) (q c : UInt8) : words_splitter_next_j3 n (q.toNat : Int) (c.toNat : Int) = some (q == 0 && blankB c) := by
  have e : ((q.toNat : Int) == (0 : Int)) = (q == 0) := beq_byte q 0
  unfold words_splitter_next_j3 words_splitter_next_j3_b
  rw [e, blank_val]
  cases q == 0 <;> rfl
theorem nj2 (n : Nat) (q c : UInt8) : words_splitter_next_j2 n (q.toNat : Int) (c.toNat : Int) = some (q == 0 && quoteB c) := by
  have e : ((q.toNat : Int) == (0 : Int)) = (q == 0) := beq_byte q 0
  have h := quote_val n c
  unfold words_splitter_next_j2 words_splitter_next_j2_b
  rw [e]
  cases q == 0
  · rfl
  · cases hx : strings_IndexByte_f n ([34, 39] : Str) (c.toNat : Int) with
    | none => rw [hx] at h; cases h
    | some o => rw [hx] at h; simpa using h
theorem nj1 (n : Nat) (q c : UInt8) : words_splitter_next_j1 n (q.toNat : Int) (c.toNat : Int) = some (c == q && q != 0) := by
  have e : ((q.toNat : Int) != (0 : Int)) = (q != 0) := bne_byte q 0
  unfold words_splitter_next_j1 words_splitter_next_j1_b
  rw [e, beq_byte]
  cases c == q <;> rfl
theorem nj0 (n : Nat) (q c : UInt8) : words_splitter_next_j0 n (q.toNat : Int) (c.toNat : Int) = some (c == 92 && q != 39) := by
  have e : ((c.toNat : Int) == (92 : Int)) = (c == 92) := beq_byte c 92
  have e2 : ((q.toNat : Int) != (((39 : UInt8).toNat : Nat) : Int)) = (q != 39) := bne_byte q 39
  unfold words_splitter_next_j0 words_splitter_next_j0_b
  simp only [List.getElem?_cons_succ, List.getElem?_cons_zero, Option.bind_some]
  rw [e, e2]
  cases c == 92 <;> rfl
/-- What a step of the loop tells. -/
def nx (o : (Bool × Str × List Int) ⊕ (Int × Str × List Int)) : Bool × Str × List Int := Sum.elim (fun o => (o.1, o.2.1, o.2.2)) (fun o => (o.1 == (0 : Int), o.2.1, o.2.2)) o
def NextOK (q : UInt8) (w : Str) (s : Str) (o : Bool × Str × List Int) : Prop :=
  (∃ w' r, o = (true, r, intsOf w') ∧ sp (.word q w) s = (sp .out r).map (w' :: ·) ∧ r.length ≤ s.length ∧ w'.length ≤ w.length + s.length) ∨ (o.1 = false ∧ sp (.word q w) s = none)
theorem NextOK.of {q q' : UInt8} {w w' : Str} {s s' : Str} {o : Bool × Str × List Int} (h : NextOK q' w' s' o) (e : sp (.word q w) s = sp (.word q' w') s') (h1 : s'.length ≤ s.length) (h2 : w'.length + s'.length ≤ w.length + s.length) : NextOK q w s o := by
  rcases h with ⟨w2, r, a, b, c, d⟩ | ⟨a, b⟩
  · exact .inl ⟨w2, r, a, e.trans b, by omega, by omega⟩
  · exact .inr ⟨a, e.trans b⟩
theorem next_loop (n : Nat) : ∀ (k : Nat) (s : Str), s.length ≤ k → ∀ (m : Nat) (q : UInt8) (w : Str), s.length < m → s.length + w.length < 140737488355328 →
    ∃ o, words_splitter_next_l0 n m (q.toNat : Int) s (intsOf w) = some o ∧ NextOK q w s (nx o) ∧ (∀ c r, s = c :: r → (q == 0 && blankB c) = false → (nx o).1 = true → (nx o).2.1.length < s.length) := by
  intro k
  induction k with
  | zero =>
    intro s hs m q w hm hw
    have : s = [] := List.length_eq_zero_iff.1 (by omega)
    subst this
    obtain ⟨m, rfl⟩ : ∃ j, m = j + 1 := ⟨m - 1, by simp at hm; omega⟩
    refine ⟨.inr ((q.toNat : Int), [], intsOf w), rfl, ?_, fun c r h => by cases h⟩
    have e : ((q.toNat : Int) == (0 : Int)) = (q == 0) := beq_byte q 0
    by_cases hq : q = 0
    · exact .inl ⟨w, [], by simp [nx, e, hq], by simp [sp, hq], by simp, by simp⟩
    · exact .inr ⟨by simp [nx, e, hq], by simp [sp, hq]⟩
  | succ k ih =>
    intro s hs m q w hm hw
    obtain ⟨m, rfl⟩ : ∃ j, m = j + 1 := ⟨m - 1, by omega⟩
    cases s with
    | nil =>
      refine ⟨.inr ((q.toNat : Int), [], intsOf w), rfl, ?_, fun c r h => by cases h⟩
      have e : ((q.toNat : Int) == (0 : Int)) = (q == 0) := beq_byte q 0
      by_cases hq : q = 0
      · exact .inl ⟨w, [], by simp [nx, e, hq], by simp [sp, hq], by simp, by simp⟩
      · exact .inr ⟨by simp [nx, e, hq], by simp [sp, hq]⟩
    | cons c r =>
      simp only [List.length_cons] at hs hm hw
      have h0 : (!((c :: r : Str) == ([] : Str))) = true := rfl
      have h2 : decide ((1 : Int) ≤ ((c :: r : Str).length : Int)) = true := by simp; omega
      have hk : decide (((intsOf w).length + ([(c.toNat : Int)] : List Int).length) * 1 ≤ 140737488355328) = true := by simp [intsOf_length]; omega
      simp only [words_splitter_next_l0, words_splitter_next_l0_b, h0, cond_true, List.getElem?_cons_zero, Option.bind_some, nj3, h2, List.drop_succ_cons, List.drop_zero, nj2, nj1, nj0, hk, intsOf_snoc]
      cases hb : (q == 0 && blankB c) with
      | true =>
        simp only [Bool.and_eq_true, beq_iff_eq] at hb
        refine ⟨_, rfl, .inl ⟨w, c :: r, rfl, ?_, Nat.le_refl _, by simp⟩, fun c' r' h h' => ?_⟩
        · simp [sp, hb.1, hb.2]
        · injection h with h _; subst h; simp [hb.1, hb.2] at h'
      | false =>
        simp only [cond_false]
        have hs2 := sp_step q w c r hb
        have fin : ∀ {o : (Bool × Str × List Int) ⊕ (Int × Str × List Int)} {q' w' s'}, NextOK q' w' s' (nx o) → s'.length ≤ r.length → (nx o).1 = true → (nx o).2.1.length < (c :: r).length := by
          intro o q' w' s' h hl ho
          rcases h with ⟨w2, r2, a, b, c2, d⟩ | ⟨a, b⟩
          · rw [a]; simp; omega
          · rw [a] at ho; cases ho
        cases hq : (q == 0 && quoteB c) with
        | true =>
          simp only [cond_true]
          simp only [Bool.and_eq_true, beq_iff_eq] at hq
          have e : sp (.word q w) (c :: r) = sp (.word c w) r := by rw [hs2, stepW, if_pos hq]
          obtain ⟨o, ho, h3, _⟩ := ih r (by omega) m c w (by omega) (by omega)
          exact ⟨o, ho, h3.of e (by simp) (by simp only [List.length_cons, List.length_append, List.length_nil]; omega), fun _ _ _ _ => fin h3 (Nat.le_refl _)⟩
        | false =>
          simp only [cond_false]
          have hq' : ¬(q = 0 ∧ quoteB c = true) := by rintro ⟨h1, h2⟩; simp [h1, h2] at hq
          cases hc : (c == q && q != 0) with
          | true =>
            simp only [cond_true]
            simp only [Bool.and_eq_true, beq_iff_eq, bne_iff_ne] at hc
            have e : sp (.word q w) (c :: r) = sp (.word 0 w) r := by rw [hs2, stepW, if_neg hq', if_pos hc]
            obtain ⟨o, ho, h3, _⟩ := ih r (by omega) m 0 w (by omega) (by omega)
            exact ⟨o, ho, h3.of e (by simp) (by simp only [List.length_cons, List.length_append, List.length_nil]; omega), fun _ _ _ _ => fin h3 (Nat.le_refl _)⟩
          | false =>
            simp only [cond_false]
            have hc' : ¬(c = q ∧ q ≠ 0) := by rintro ⟨h1, h2⟩; simp [h1, h2] at hc
            cases he : (c == 92 && q != 39) with
            | true =>
              simp only [cond_true]
              simp only [Bool.and_eq_true, beq_iff_eq, bne_iff_ne] at he
              have e : sp (.word q w) (c :: r) = sp (.esc q w) r := by rw [hs2, stepW, if_neg hq', if_neg hc', if_pos he]
              rw [sp_esc] at e
              obtain ⟨o, ho, h3⟩ := esc_val n r w (by omega)
              rw [ho]
              simp only [Option.bind_some]
              cases hx : escS r with
              | none =>
                rw [hx] at h3 e
                simp only at h3 e
                rw [h3]
                exact ⟨_, rfl, .inr ⟨rfl, e⟩, fun _ _ _ _ h => by cases h⟩
              | some p =>
                obtain ⟨x, r'⟩ := p
                rw [hx] at h3 e
                simp only at h3 e
                subst h3
                have hl := escS_len hx
                simp only [Bool.not_true, cond_false]
                obtain ⟨o, ho, h3, _⟩ := ih r' (by omega) m q (w ++ [x]) (by omega) (by simp; omega)
                exact ⟨o, ho, h3.of e (by simp; omega) (by simp; omega), fun _ _ _ _ => fin h3 (by omega)⟩
            | false =>
              simp only [cond_false]
              have he' : ¬(c = 92 ∧ q ≠ 39) := by rintro ⟨h1, h2⟩; simp [h1, h2] at he
              have e : sp (.word q w) (c :: r) = sp (.word q (w ++ [c])) r := by rw [hs2, stepW, if_neg hq', if_neg hc', if_neg he']
              obtain ⟨o, ho, h3, _⟩ := ih r (by omega) m q (w ++ [c]) (by omega) (by simp; omega)
              exact ⟨o, ho, h3.of e (by simp) (by simp only [List.length_cons, List.length_append, List.length_nil]; omega), fun _ _ _ _ => fin h3 (Nat.le_refl _)⟩
theorem next_val (n : Nat) (s : Str) (h : List Int) (c : UInt8) (r : Str) (hs : s = c :: r) (hb : blankB c = false) (hn : s.length < n) (hl : s.length < 140737488355328) :
    ∃ o, words_splitter_next_f n s h = some o ∧ NextOK 0 [] s o ∧ (o.1 = true → o.2.1.length < s.length) := by
  obtain ⟨o, ho, h1, h2⟩ := next_loop n s.length s (Nat.le_refl _) n 0 [] hn (by simpa using hl)
  refine ⟨nx o, ?_, h1, h2 c r hs (by simp [hb])⟩
  change words_splitter_next_l0 n n (0 : Int) s ([] : List Int) = some o at ho
  unfold words_splitter_next_f words_splitter_next_b
  rw [ho]
  cases o <;> rfl

/-- What Split answers. -/
def splitR (out : List Str) (r : Option (List Str)) : List Str × Int := match r with
  | none => ([], 120)
  | some l => if 64 < out.length + l.length then ([], 3) else (out ++ l, 0)
theorem trim_val (n : Nat) (s : Str) : strings_TrimLeft_f n s ([32, 9] : Str) = some (s.dropWhile blankB) := by
  unfold strings_TrimLeft_f
  have h1 : (decide (([32, 9] : Str).length < 4294967281) && ([32, 9] : Str).all fun b => decide (b.toNat < 128)) = true := by decide
  rw [h1]
  unfold Lib.trimLeftS
  have : (fun x : UInt8 => ([32, 9] : List UInt8).contains x) = blankB := by
    funext b
    have h := byte_all (p := fun x => ([32, 9] : List UInt8).contains (UInt8.ofNat x) = blankB (UInt8.ofNat x)) (by decide +kernel) b
    rw [UInt8.ofNat_toNat] at h
    exact h
  simp only [cond_true]
  rw [this]
theorem dropWhile_head {s : Str} {c : UInt8} {r : Str} (h : s.dropWhile blankB = c :: r) : blankB c = false := by
  induction s with
  | nil => cases h
  | cons a s ih =>
    by_cases ha : blankB a = true
    · rw [List.dropWhile_cons_of_pos ha] at h; exact ih h
    · rw [List.dropWhile_cons_of_neg ha] at h; injection h with h _; subst h; simpa using ha
theorem dropWhile_len (s : Str) : (s.dropWhile blankB).length ≤ s.length := (List.dropWhile_sublist blankB).length_le
theorem sj0 (n : Nat) (l : List Str) (s : Str) (w : List Int) : words_Split_j0 n l s w = some (s == [] && decide (64 < l.length), s, w) := by
  have e : decide ((l.length : Int) > 64) = decide (64 < l.length) := by rw [decide_eq_decide]; omega
  unfold words_Split_j0 words_Split_j0_b
  rw [e]
  cases s == ([] : Str) <;> rfl
theorem split_loop (n : Nat) : ∀ (k : Nat) (s : Str), s.length ≤ k → ∀ (m : Nat) (out : List Str) (h : List Int), s.length < m → s.length < n → s.length < 140737488355328 → out.length + s.length < 8000000000000 →
    ∃ o, words_Split_l0 n m out s h = some o ∧ (o.1, o.2.1) = splitR out (sp .out s) := by
  intro k
  induction k with
  | zero =>
    intro s hs m out h hm hn hl ho
    have : s = [] := List.length_eq_zero_iff.1 (by omega)
    subst this
    obtain ⟨m, rfl⟩ : ∃ j, m = j + 1 := ⟨m - 1, by simp at hm; omega⟩
    simp only [words_Split_l0, words_Split_l0_b, trim_val, Option.bind_some, List.dropWhile_nil, sj0, sp, splitR]
    by_cases h64 : 64 < out.length
    · simp [h64]
    · simp [h64]
  | succ k ih =>
    intro s hs m out h hm hn hl ho
    obtain ⟨m, rfl⟩ : ∃ j, m = j + 1 := ⟨m - 1, by omega⟩
    simp only [words_Split_l0, words_Split_l0_b, trim_val, Option.bind_some, sj0]
    rw [sp_out_drop]
    have hdl := dropWhile_len s
    cases hd : s.dropWhile blankB with
    | nil =>
      simp only [sp, splitR]
      by_cases h64 : 64 < out.length
      · simp [h64]
      · simp [h64]
    | cons c r =>
      rw [hd] at hdl
      have hb := dropWhile_head hd
      have e1 : ((c :: r : Str) == ([] : Str)) = false := rfl
      simp only [e1, Bool.false_and, cond_false]
      obtain ⟨o, h1, h2, h3⟩ := next_val n (c :: r) h c r rfl hb (by omega) (by omega)
      rw [h1]
      simp only [Option.bind_some]
      rw [sp_out_word c r hb]
      rcases h2 with ⟨w', r', rfl, h5, h6, h7⟩ | ⟨h5, h6⟩
      · have h8 := h3 rfl
        simp only at h8
        have hk : decide ((out.length + ([w'] : List Str).length) * 16 ≤ 140737488355328) = true := by simp; omega
        simp only [Bool.not_true, cond_false, hk, cond_true, strOf_intsOf]
        obtain ⟨o, h9, h10⟩ := ih r' (by omega) m (out ++ [w']) (intsOf w') (by omega) (by omega) (by omega) (by simp; omega)
        refine ⟨o, h9, ?_⟩
        rw [h10, h5]
        cases sp .out r' with
        | none => rfl
        | some l => simp only [splitR, Option.map_some, List.length_append, List.length_cons, List.length_nil, List.append_assoc, List.singleton_append]; rw [show out.length + (0 + 1) + l.length = out.length + (l.length + 1) by omega]
      · rw [h5, h6]
        exact ⟨_, rfl, rfl⟩
theorem split_val (n : Nat) (s : Str) (hn : s.length < n) (hl : s.length < 1000000000000) : words_Split_f n s = some (splitR [] (sp .out s)) := by
  obtain ⟨o, h1, h2⟩ := split_loop n s.length s (Nat.le_refl _) n [] [] hn hn (by omega) (by simp; omega)
  unfold words_Split_f words_Split_b
  rw [h1, ← h2]
  rfl
end Go.Proofs.YtgcjkimkoppocaaDoor.H

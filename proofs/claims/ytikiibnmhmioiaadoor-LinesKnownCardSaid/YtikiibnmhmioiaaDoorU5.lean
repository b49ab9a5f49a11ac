/- Chapter 11: entries written out and read again. -/
import Derived.Test.YtikiibnmhmioiaaDoorU4
import Derived.Test.YtikiibnmhmioiaaDoorT14
namespace Go.Proofs.YtikiibnmhmioiaaDoor.H
open Go.Sh Go.RowKit
set_option linter.unusedSimpArgs false
set_option linter.unusedVariables false

/-! ### ends -/
theorem trimS_headW (s : Str) : (trimS s).dropWhile blkB = trimS s := by
  have h := lr_strip s
  have e : trimS s = ((s.reverse.dropWhile blkB).reverse).dropWhile blkB := by rw [h]; rfl
  rw [e, dw_dw]
theorem dw_first {p : UInt8 → Bool} : ∀ (s : Str) {c : UInt8}, (s.dropWhile p).head? = some c → p c = false
  | [], c, h => by cases h
  | b :: l, c, h => by
    cases hb : p b with
    | true => rw [List.dropWhile_cons_of_pos hb] at h; exact dw_first l h
    | false => rw [List.dropWhile_cons_of_neg (by simp [hb])] at h; injection h with h; rw [← h, hb]
theorem trimS_first {s : Str} {c : UInt8} (h : (trimS s).head? = some c) : blkB c = false := by
  rw [← trimS_headW] at h
  exact dw_first _ h
theorem trimS_last {s : Str} {c : UInt8} (h : (trimS s).getLast? = some c) : blkB c = false := by
  unfold trimS at h
  rw [List.getLast?_reverse] at h
  exact dw_first _ h
theorem dw_keep {p : UInt8 → Bool} (s : Str) (h : ∀ c, s.head? = some c → p c = false) : s.dropWhile p = s := by
  cases s with
  | nil => rfl
  | cons b l => rw [List.dropWhile_cons_of_neg (by simp [h b rfl])]
theorem trimS_keep (s : Str) (h1 : ∀ c, s.head? = some c → blkB c = false) (h2 : ∀ c, s.getLast? = some c → blkB c = false) : trimS s = s := by
  unfold trimS
  rw [dw_keep s h1, dw_keep s.reverse (fun c hc => h2 c (by rw [← hc, List.head?_reverse])), List.reverse_reverse]
theorem trimS_trim (s : Str) : trimS (trimS s) = trimS s := trimS_keep _ (fun _ h => trimS_first h) (fun _ h => trimS_last h)
theorem trimS_mem {s : Str} {c : UInt8} (h : c ∈ trimS s) : c ∈ s := by
  unfold trimS at h
  rw [List.mem_reverse] at h
  have h2 := (List.dropWhile_sublist _).subset h
  rw [List.mem_reverse] at h2
  exact (List.dropWhile_sublist _).subset h2
theorem cutE_mem {d : UInt8} {s : Str} {c : UInt8} (h : c ∈ cutE d s) : c ∈ s := by
  unfold cutE at h
  split at h
  · exact List.dropLast_subset _ h
  · exact h

/-! ### no line's end in a line -/
theorem rowsS_no : ∀ (s : Str) (p : Str), p ∈ rowsS s → (10 : UInt8) ∉ p
  | [], p, h => by simp [rowsS] at h; subst h; simp
  | b :: l, p, h => by
    rw [rowsS] at h
    split at h
    · rcases List.mem_cons.1 h with h | h
      · subst h; simp
      · exact rowsS_no l p h
    · rename_i hb
      split at h
      · rename_i h2; exact absurd h2 (rowsS_ne l)
      · rename_i x r h2
        rcases List.mem_cons.1 h with h | h
        · subst h
          have := rowsS_no l x (by rw [h2]; exact List.mem_cons_self ..)
          simp only [List.mem_cons, not_or]
          exact ⟨Ne.symm hb, this⟩
        · exact rowsS_no l p (by rw [h2]; exact List.mem_cons_of_mem _ h)
theorem linesS_no (s : Str) (p : Str) (h : p ∈ linesS s) : (10 : UInt8) ∉ p := by
  unfold linesS at h
  obtain ⟨q, h1, rfl⟩ := List.mem_map.1 h
  exact fun h2 => rowsS_no s q h1 (cutE_mem h2)
theorem contS_no10 : ∀ (r : List Str) (p : Str), (10 : UInt8) ∉ p → (∀ q ∈ r, (10 : UInt8) ∉ q) → (10 : UInt8) ∉ (contS p r).1 ∧ ∀ q ∈ (contS p r).2, (10 : UInt8) ∉ q
  | [], p, hp, hr => by
    rw [contS]
    refine ⟨?_, fun q h => by cases h⟩
    split
    · simp only [List.mem_append, List.mem_singleton, not_or]
      exact ⟨fun h => hp (List.dropLast_subset _ h), by decide⟩
    · exact hp
  | q :: r, p, hp, hr => by
    rw [contS]
    have hr' : ∀ x ∈ r, (10 : UInt8) ∉ x := fun x hx => hr x (List.mem_cons_of_mem _ hx)
    split
    · split
      · exact contS_no10 r p hp hr'
      · have := contS_no10 r q (hr q (List.mem_cons_self ..)) hr'
        refine ⟨?_, this.2⟩
        simp only [List.mem_append, List.mem_cons, not_or]
        exact ⟨fun h => hp (List.dropLast_subset _ h), by decide, this.1⟩
    · exact ⟨hp, hr⟩
theorem logS_no10 (N : Nat) : ∀ (k : Nat) (ls : List Str), (∀ q ∈ ls, (10 : UInt8) ∉ q) → ∀ x ∈ logS N k ls, (10 : UInt8) ∉ x.2 ∧ trimS x.2 = x.2
  | 0, _, _, x, hx => by cases hx
  | k + 1, [], _, x, hx => by cases hx
  | k + 1, p :: r, h, x, hx => by
    rw [logS] at hx
    have hr : ∀ q ∈ r, (10 : UInt8) ∉ q := fun q hq => h q (List.mem_cons_of_mem _ hq)
    have hc := contS_no10 r p (h p (List.mem_cons_self ..)) hr
    split at hx
    · exact logS_no10 N k r hr x hx
    · rcases List.mem_cons.1 hx with hx | hx
      · subst hx
        exact ⟨fun h2 => hc.1 (trimS_mem h2), trimS_trim _⟩
      · exact logS_no10 N k _ hc.2 x hx

/-! ### what an entry is -/
structure SecOK (s : Str) : Prop where
  no : (10 : UInt8) ∉ s
  brk : s.any brkB = false
  len : s.length + 2 ≤ 4096
structure EntOK (e : Ent) : Prop where
  ne : e.2.1 ≠ []
  sec : SecOK e.2.1
  key : keyS e.2.2.1 = true
  trim : trimS e.2.2.2 = e.2.2.2
  no : (10 : UInt8) ∉ e.2.2.2
  len : e.2.2.1.length + 1 + e.2.2.2.length ≤ 4096
structure StaOK (st : Sta) : Prop where
  sec : SecOK st.1
  ents : ∀ e ∈ st.2.1, EntOK e
theorem tw_split {c : UInt8} : ∀ {s : Str}, s.contains c = true → s = s.takeWhile (· != c) ++ c :: (s.dropWhile (· != c)).drop 1
  | [], h => by cases h
  | b :: l, h => by
    by_cases hb : b = c
    · subst hb; simp
    · rw [List.contains_cons, show (c == b) = false by simpa using Ne.symm hb, Bool.false_or] at h
      have ih := tw_split h
      rw [List.takeWhile_cons_of_pos (by simpa using hb), List.dropWhile_cons_of_pos (by simpa using hb), List.cons_append, ← ih]
theorem innS_len {s : Str} (h : headS s = true) : (innS s).length + 2 ≤ s.length := by
  simp only [headS, Bool.and_eq_true] at h
  have h1 := h.2.1
  have h2 : 1 ≤ s.length := by
    cases s with
    | nil => cases h.1
    | cons b l => simp
  have h3 := endS_pos h1
  unfold innS cutE
  rw [h1]
  simp only [if_true, List.length_dropLast, List.length_drop] at h3 ⊢
  omega
theorem step_ok (st : Sta) (x : Nat × Str) (h : StaOK st) (hx : (10 : UInt8) ∉ x.2) : StaOK (stepS st x) := by
  unfold stepS
  have nil : SecOK [] := ⟨by simp, rfl, by decide⟩
  split
  · exact ⟨h.sec, h.ents⟩
  · rename_i hl
    split
    · rename_i hh
      have hlen := innS_len hh
      refine ⟨⟨fun hm => hx ?_, ?_, by simp only; omega⟩, h.ents⟩
      · exact List.drop_subset _ _ (cutE_mem hm)
      · simp only [headS, Bool.and_eq_true] at hh
        simpa using hh.2.2.2
    · split
      · exact ⟨nil, h.ents⟩
      · split
        · rename_i hc
          simp only [Bool.and_eq_true] at hc
          refine ⟨h.sec, fun e he => ?_⟩
          simp only at he
          rcases List.mem_append.1 he with he | he
          · exact h.ents e he
          · rw [List.mem_singleton] at he
            subst he
            have hs := tw_split hc.1
            have hlen := congrArg List.length hs
            rw [List.length_append, List.length_cons] at hlen
            have l1 := trimS_len (x.2.takeWhile (· != 61))
            have l2 := trimS_len ((x.2.dropWhile (· != 61)).drop 1)
            refine ⟨by simpa using hc.2.2, h.sec, hc.2.1, trimS_trim _, fun hm => hx ?_, by simp only; omega⟩
            exact (List.dropWhile_sublist _).subset (List.drop_subset _ _ (trimS_mem hm))
        · exact ⟨h.sec, h.ents⟩

/-! ### the entries' text -/
def lineE (e : Ent) : Str := e.2.2.1 ++ 61 :: e.2.2.2
def lineH (e : Ent) : Str := 91 :: (e.2.1 ++ [93])
def txtS : Str → List Ent → Str
  | _, [] => []
  | cur, e :: r => (if e.2.1 = cur then [] else lineH e ++ [10]) ++ (lineE e ++ 10 :: txtS e.2.1 r)
def lastS : Str → List Ent → Str
  | cur, [] => cur
  | _, e :: r => lastS e.2.1 r
theorem lastS_snoc (e : Ent) : ∀ (es : List Ent) (cur : Str), lastS cur (es ++ [e]) = e.2.1
  | [], _ => rfl
  | _ :: r, _ => lastS_snoc e r _
theorem txtS_snoc (e : Ent) : ∀ (es : List Ent) (cur : Str), txtS cur (es ++ [e]) = txtS cur es ++ ((if e.2.1 = lastS cur es then [] else lineH e ++ [10]) ++ (lineE e ++ [10]))
  | [], _ => rfl
  | d :: r, cur => by
    rw [List.cons_append, txtS, txtS_snoc e r, txtS, lastS]
    simp only [List.append_assoc, List.cons_append]
theorem step_pot (st : Sta) (x : Nat × Str) (c : Nat) (h : (txtS [] st.2.1).length + (if st.1 = [] ∨ st.1 = lastS [] st.2.1 then 0 else st.1.length + 3) ≤ c) :
    (txtS [] (stepS st x).2.1).length + (if (stepS st x).1 = [] ∨ (stepS st x).1 = lastS [] (stepS st x).2.1 then 0 else (stepS st x).1.length + 3) ≤ c + (x.2.length + 1) := by
  unfold stepS
  split
  · simp only; omega
  · split
    · rename_i hh
      have := innS_len hh
      simp only
      split <;> split at h <;> omega
    · split
      · simp only [true_or, if_true]
        split at h <;> omega
      · split
        · rename_i hc
          simp only [Bool.and_eq_true] at hc
          have hs := tw_split hc.1
          have hlen := congrArg List.length hs
          rw [List.length_append, List.length_cons] at hlen
          have l1 := trimS_len (x.2.takeWhile (· != 61))
          have l2 := trimS_len ((x.2.dropWhile (· != 61)).drop 1)
          have hne : st.1 ≠ [] := by simpa using hc.2.2
          simp only
          rw [txtS_snoc, lastS_snoc, if_pos (Or.inr rfl)]
          simp only [List.length_append, lineE, lineH, List.length_cons, List.length_nil]
          by_cases h2 : st.1 = lastS [] st.2.1
          · rw [if_pos h2]
            simp only [List.length_nil]
            split at h <;> omega
          · rw [if_neg h2]
            rw [if_neg (by rintro (h3 | h3) <;> contradiction)] at h
            simp only [List.length_append, List.length_cons, List.length_nil]
            omega
        · simp only; omega
def tots (l : List (Nat × Str)) : Nat := (l.map fun x => x.2.length + 1).sum
theorem logS_tots (N : Nat) : ∀ (k : Nat) (ls : List Str), tots (logS N k ls) ≤ sz ls
  | 0, _ => Nat.zero_le _
  | k + 1, [] => Nat.zero_le _
  | k + 1, p :: r => by
    rw [logS, sz_cons]
    split
    · have := logS_tots N k r; omega
    · have h1 := logS_tots N k (contS p r).2
      have h2 := contS_sz r p
      have h3 := trimS_len (contS p r).1
      simp only [tots, List.map_cons, List.sum_cons] at h1 ⊢
      omega
theorem fold_pot : ∀ (l : List (Nat × Str)) (st : Sta) (c : Nat), (txtS [] st.2.1).length + (if st.1 = [] ∨ st.1 = lastS [] st.2.1 then 0 else st.1.length + 3) ≤ c → (txtS [] (l.foldl stepS st).2.1).length ≤ c + tots l
  | [], st, c, h => by simp only [List.foldl_nil, tots, List.map_nil, List.sum_nil]; omega
  | x :: l, st, c, h => by
    have := fold_pot l (stepS st x) (c + (x.2.length + 1)) (step_pot st x c h)
    simp only [List.foldl_cons, tots, List.map_cons, List.sum_cons] at this ⊢
    omega
theorem fold_ok : ∀ (l : List (Nat × Str)) (st : Sta), StaOK st → (∀ x ∈ l, (10 : UInt8) ∉ x.2) → StaOK (l.foldl stepS st)
  | [], st, h, _ => h
  | x :: l, st, h, hl => fold_ok l (stepS st x) (step_ok st x h (hl x (List.mem_cons_self ..))) (fun y hy => hl y (List.mem_cons_of_mem _ hy))
theorem parseS_ok (s : Str) : ∀ e ∈ (parseS s).1, EntOK e := by
  unfold parseS runS
  exact (fold_ok _ ([], [], []) ⟨⟨by simp, rfl, by decide⟩, fun e h => by cases h⟩ (fun x hx => (logS_no10 _ _ _ (fun q hq => linesS_no s q hq) x hx).1)).ents
theorem parseS_txt (s : Str) : (txtS [] (parseS s).1).length ≤ s.length + 1 := by
  have h1 := fold_pot (logS (linesS s).length ((linesS s).length + 1) (linesS s)) ([], [], []) 0 (by simp [txtS])
  have h2 := logS_tots (linesS s).length ((linesS s).length + 1) (linesS s)
  have h3 := linesS_sz s
  unfold parseS runS
  omega

/-! ### the text read -/
theorem rowsS_line : ∀ (a b : Str), (10 : UInt8) ∉ a → rowsS (a ++ 10 :: b) = a :: rowsS b
  | [], b, _ => by rw [List.nil_append, rowsS, if_pos rfl]
  | c :: a, b, h => by
    simp only [List.mem_cons, not_or] at h
    rw [List.cons_append, rowsS, if_neg (Ne.symm h.1), rowsS_line a b h.2]
theorem linesS_line (a b : Str) (h : (10 : UInt8) ∉ a) (h2 : endS 13 a = false) : linesS (a ++ 10 :: b) = a :: linesS b := by
  unfold linesS
  rw [rowsS_line a b h, List.map_cons, cutE, h2]
  rfl
theorem runS_line (N k : Nat) (p : Str) (r : List Str) (st : Sta) (h1 : skipS p = false) (h2 : endS 92 p = false) : runS N (k + 1) (p :: r) st = runS N k r (stepS st (N - r.length, trimS p)) := by
  unfold runS
  rw [logS, h1, contS_no p r h2]
  rfl
theorem keyS_ne {k : Str} (h : keyS k = true) : ∃ c r, k = c :: r ∧ letB c = true ∧ ∀ d ∈ c :: r, (letB d || digB d) = true := by
  cases k with
  | nil => cases h
  | cons c r =>
    simp only [keyS, Bool.and_eq_true] at h
    refine ⟨c, r, rfl, h.1, fun d hd => ?_⟩
    rcases List.mem_cons.1 hd with rfl | hd
    · rw [h.1]; rfl
    · exact List.all_eq_true.1 h.2 d hd
theorem ld_facts (d : UInt8) (h : (letB d || digB d) = true) : d ≠ 61 ∧ d ≠ 10 ∧ d ≠ 91 ∧ blkB d = false ∧ (d == 35 || d == 59) = false := by
  have h2 := byte_all (p := fun x => (letB (UInt8.ofNat x) || digB (UInt8.ofNat x)) = true → UInt8.ofNat x ≠ 61 ∧ UInt8.ofNat x ≠ 10 ∧ UInt8.ofNat x ≠ 91 ∧ blkB (UInt8.ofNat x) = false ∧ (UInt8.ofNat x == 35 || UInt8.ofNat x == 59) = false) (by decide +kernel) d
  rw [UInt8.ofNat_toNat] at h2
  exact h2 h
theorem tw_key (a b : Str) (h : (61 : UInt8) ∉ a) : (a ++ 61 :: b).takeWhile (· != 61) = a ∧ (a ++ 61 :: b).dropWhile (· != 61) = 61 :: b := by
  induction a with
  | nil => exact ⟨rfl, rfl⟩
  | cons c a ih =>
    simp only [List.mem_cons, not_or] at h
    have hc : (c != 61) = true := by simpa using Ne.symm h.1
    obtain ⟨h1, h2⟩ := ih h.2
    exact ⟨by rw [List.cons_append, List.takeWhile_cons_of_pos (p := (· != 61)) hc, h1], by rw [List.cons_append, List.dropWhile_cons_of_pos (p := (· != 61)) hc, h2]⟩
theorem lineE_last (e : Ent) (c : UInt8) (h : (lineE e).getLast? = some c) : c = 61 ∧ e.2.2.2 = [] ∨ e.2.2.2.getLast? = some c := by
  unfold lineE at h
  rw [List.getLast?_append] at h
  cases hv : e.2.2.2 with
  | nil => rw [hv] at h; simp at h; exact Or.inl ⟨h.symm, rfl⟩
  | cons a b =>
    rw [hv, List.getLast?_cons_cons] at h
    obtain ⟨z, hz⟩ : ∃ z, (a :: b).getLast? = some z := by
      cases h' : (a :: b).getLast? with
      | none => simp at h'
      | some z => exact ⟨z, rfl⟩
    rw [hz] at h ⊢
    simp at h
    exact Or.inr (by rw [h])
theorem lineE_first (e : Ent) (h : EntOK e) : ∃ c r, lineE e = c :: r ∧ letB c = true := by
  obtain ⟨c, r, h1, h2, _⟩ := keyS_ne h.key
  exact ⟨c, r ++ 61 :: e.2.2.2, by rw [lineE, h1]; rfl, h2⟩
theorem lineE_trim (e : Ent) (h : EntOK e) : trimS (lineE e) = lineE e := by
  obtain ⟨c, r, h1, h2⟩ := lineE_first e h
  refine trimS_keep _ (fun d hd => ?_) (fun d hd => ?_)
  · rw [h1] at hd
    injection hd with hd
    subst hd
    exact (ld_facts c (by rw [h2]; rfl)).2.2.2.1
  · rcases lineE_last e d hd with ⟨rfl, _⟩ | hd
    · rfl
    · rw [← h.trim] at hd
      exact trimS_last hd
theorem lineE_end (e : Ent) (h : EntOK e) (c : UInt8) (hc : c ≠ 61) (hv : endS c e.2.2.2 = false) : endS c (lineE e) = false := by
  unfold endS at hv ⊢
  cases hl : (lineE e).getLast? with
  | none => rfl
  | some d =>
    rcases lineE_last e d hl with ⟨rfl, _⟩ | hd
    · simpa using Ne.symm hc
    · rw [hd] at hv; exact hv
theorem lineE_no (e : Ent) (h : EntOK e) : (10 : UInt8) ∉ lineE e := by
  obtain ⟨c, r, h1, _, h2⟩ := keyS_ne h.key
  unfold lineE
  simp only [List.mem_append, List.mem_cons, not_or]
  refine ⟨fun hm => ?_, by decide, h.no⟩
  rw [h1] at hm
  exact (ld_facts _ (h2 _ hm)).2.1 rfl
theorem line_skip (s : Str) (c : UInt8) (r : Str) (h1 : trimS s = s) (h2 : s = c :: r) (h3 : (c == 35 || c == 59) = false) : skipS s = false := by
  unfold skipS cmtS
  rw [h1, h2]
  simpa using h3
theorem step_ent (st : Sta) (m : Nat) (e : Ent) (h : EntOK e) (hs : st.1 = e.2.1) : stepS st (m, lineE e) = (st.1, st.2.1 ++ [(m, e.2)], st.2.2) := by
  obtain ⟨c, r, h1, h2⟩ := lineE_first e h
  obtain ⟨k1, k2, k3, k4, k5⟩ := ld_facts c (by rw [h2]; rfl)
  obtain ⟨c', r', g1, _, g2⟩ := keyS_ne h.key
  have hno : (61 : UInt8) ∉ e.2.2.1 := fun hm => by rw [g1] at hm; exact (ld_facts _ (g2 _ hm)).1 rfl
  obtain ⟨t1, t2⟩ := tw_key e.2.2.1 e.2.2.2 hno
  have hl : (lineE e).length ≤ 4096 := by have := h.len; simp [lineE]; omega
  have hh : ((lineE e).head? == some 91) = false := by rw [h1]; simpa using k3
  have hhd : headS (lineE e) = false := by rw [headS, hh]; rfl
  have htk : trimS e.2.2.1 = e.2.2.1 := by
    refine trimS_keep _ (fun d hd => ?_) (fun d hd => ?_)
    · exact (ld_facts d (g2 d (by rw [← g1]; exact List.mem_of_mem_head? hd))).2.2.2.1
    · exact (ld_facts d (g2 d (by rw [← g1]; exact List.mem_of_getLast? hd))).2.2.2.1
  have hc : (lineE e).contains 61 = true := by simp [lineE]
  unfold stepS
  simp only
  rw [if_neg (by omega), hhd, hh]
  simp only [Bool.false_eq_true, if_false]
  rw [hc]
  unfold lineE
  rw [t1, t2, htk, h.key, hs, show (e.2.1 != []) = true by simpa using h.ne]
  simp only [Bool.and_self, if_true, List.drop_succ_cons, List.drop_zero]
  rw [h.trim]
theorem lineH_facts (e : Ent) (h : EntOK e) : trimS (lineH e) = lineH e ∧ (10 : UInt8) ∉ lineH e ∧ endS 13 (lineH e) = false ∧ endS 92 (lineH e) = false ∧ skipS (lineH e) = false := by
  have hl : (lineH e).getLast? = some 93 := by
    unfold lineH
    rw [← List.cons_append, List.getLast?_concat]
  have ht : trimS (lineH e) = lineH e := by
    refine trimS_keep _ (fun d hd => ?_) (fun d hd => ?_)
    · injection hd with hd; subst hd; rfl
    · rw [hl] at hd; injection hd with hd; subst hd; rfl
  refine ⟨ht, ?_, by unfold endS; rw [hl]; rfl, by unfold endS; rw [hl]; rfl, line_skip _ 91 _ ht rfl rfl⟩
  unfold lineH
  simp only [List.mem_append, List.mem_cons, List.mem_singleton, not_or]
  exact ⟨by decide, h.sec.no, by decide⟩
theorem step_head (st : Sta) (m : Nat) (e : Ent) (h : EntOK e) : stepS st (m, lineH e) = (e.2.1, st.2.1, st.2.2) := by
  have hl : (lineH e).length ≤ 4096 := by have := h.sec.len; simp [lineH]; omega
  have he : endS 93 (e.2.1 ++ [93]) = true := by unfold endS; rw [List.getLast?_concat]; rfl
  have hi : innS (lineH e) = e.2.1 := by
    unfold innS lineH cutE
    rw [List.drop_succ_cons, List.drop_zero, he, if_pos rfl, List.dropLast_concat]
  have hh : headS (lineH e) = true := by
    unfold headS
    rw [hi, h.sec.brk, show (e.2.1 != []) = true by simpa using h.ne]
    unfold lineH
    rw [List.drop_succ_cons, List.drop_zero, he]
    rfl
  unfold stepS
  simp only
  rw [if_neg (by omega), hh, hi]
  rfl
theorem run_txt (N : Nat) : ∀ (es : List Ent) (cur : Str) (k : Nat) (st : Sta), st.1 = cur → (linesS (txtS cur es)).length ≤ k → (∀ e ∈ es, EntOK e ∧ endS 13 e.2.2.2 = false ∧ endS 92 e.2.2.2 = false) →
    ∃ es' sec', runS N k (linesS (txtS cur es)) st = (sec', st.2.1 ++ es', st.2.2) ∧ es'.map Prod.snd = es.map Prod.snd
  | [], cur, k, st, hst, hk, _ => by
    have hl : linesS (txtS cur []) = [[]] := rfl
    rw [hl] at hk ⊢
    obtain ⟨k, rfl⟩ : ∃ j, k = j + 1 := ⟨k - 1, by simp at hk; omega⟩
    have : runS N (k + 1) [[]] st = st := by
      unfold runS
      rw [logS]
      cases k <;> rfl
    rw [this]
    exact ⟨[], st.1, by simp, rfl⟩
  | e :: r, cur, k, st, hst, hk, hes => by
    obtain ⟨he, he13, he92⟩ := hes e (List.mem_cons_self ..)
    have hr := fun x hx => hes x (List.mem_cons_of_mem _ hx)
    have hln : linesS (lineE e ++ 10 :: txtS e.2.1 r) = lineE e :: linesS (txtS e.2.1 r) := linesS_line _ _ (lineE_no e he) (lineE_end e he 13 (by decide) he13)
    obtain ⟨c, z, z1, z2⟩ := lineE_first e he
    have hsk : skipS (lineE e) = false := line_skip _ c z (lineE_trim e he) z1 (ld_facts c (by rw [z2]; rfl)).2.2.2.2
    have hend := lineE_end e he 92 (by decide) he92
    -- from the entry's line on
    have main : ∀ (k : Nat) (st : Sta), st.1 = e.2.1 → (linesS (lineE e ++ 10 :: txtS e.2.1 r)).length ≤ k → ∃ es' sec', runS N k (linesS (lineE e ++ 10 :: txtS e.2.1 r)) st = (sec', st.2.1 ++ es', st.2.2) ∧ es'.map Prod.snd = (e :: r).map Prod.snd := by
      intro k st hst hk
      rw [hln] at hk ⊢
      simp only [List.length_cons] at hk
      obtain ⟨k, rfl⟩ : ∃ j, k = j + 1 := ⟨k - 1, by omega⟩
      rw [runS_line N k _ _ st hsk hend, lineE_trim e he, step_ent st _ e he hst]
      obtain ⟨es', sec', k1, k2⟩ := run_txt N r e.2.1 k (st.1, st.2.1 ++ [(N - (linesS (txtS e.2.1 r)).length, e.2)], st.2.2) hst (by omega) hr
      refine ⟨(N - (linesS (txtS e.2.1 r)).length, e.2) :: es', sec', ?_, by rw [List.map_cons, List.map_cons, k2]⟩
      rw [k1]
      simp
    by_cases h : e.2.1 = cur
    · rw [txtS, if_pos h, List.nil_append] at hk ⊢
      exact main k st (by rw [hst, h]) hk
    · have hh := lineH_facts e he
      have hl2 : linesS (txtS cur (e :: r)) = lineH e :: linesS (lineE e ++ 10 :: txtS e.2.1 r) := by
        rw [txtS, if_neg h, List.append_assoc, List.singleton_append]
        exact linesS_line _ _ hh.2.1 hh.2.2.1
      rw [hl2] at hk ⊢
      simp only [List.length_cons] at hk
      obtain ⟨k, rfl⟩ : ∃ j, k = j + 1 := ⟨k - 1, by omega⟩
      rw [runS_line N k _ _ st hh.2.2.2.2 hh.2.2.2.1, hh.1, step_head st _ e he]
      exact main k (e.2.1, st.2.1, st.2.2) rfl (by omega)
theorem parse_txt (es : List Ent) (hes : ∀ e ∈ es, EntOK e ∧ endS 13 e.2.2.2 = false ∧ endS 92 e.2.2.2 = false) : ∃ es', parseS (txtS [] es) = (es', []) ∧ es'.map Prod.snd = es.map Prod.snd := by
  obtain ⟨es', sec', h1, h2⟩ := run_txt (linesS (txtS [] es)).length es [] ((linesS (txtS [] es)).length + 1) ([], [], []) rfl (by omega) hes
  refine ⟨es', ?_, h2⟩
  unfold parseS
  rw [h1]
  rfl

/-! ### the law -/
theorem back_j2 (n : Nat) (s : Str) (hs : s.length < 9223372036854775807) : clepsydralaw11_LinesBack_j2 n s = some (endS 92 s || endS 13 s) := by
  unfold clepsydralaw11_LinesBack_j2 clepsydralaw11_LinesBack_j2_b
  by_cases h : s = []
  · subst h; rfl
  · have hl : 1 ≤ s.length := by cases s with | nil => exact absurd rfl h | cons => simp
    obtain ⟨z, hz⟩ : ∃ z, s.getLast? = some z := by
      cases h' : s.getLast? with
      | none => exact absurd (List.getLast?_eq_none_iff.1 h') h
      | some z => exact ⟨z, rfl⟩
    rw [show (s == []) = false by simpa using h, Bool.not_false, cond_true, sub1 _ hl (by omega)]
    simp only [decide_eq_true (show (0 : Int) ≤ ((s.length - 1 : Nat) : Int) by omega), cond_true, Int.toNat_natCast, ← getLast_get, hz, Option.bind_some]
    have e2 : ((z.toNat : Int) == 92) = (z == 92) := beq_byte z 92
    have e3 : ((z.toNat : Int) == 13) = (z == 13) := beq_byte z 13
    have f2 : endS 92 s = (z == 92) := by unfold endS; rw [hz]; rfl
    have f3 : endS 13 s = (z == 13) := by unfold endS; rw [hz]; rfl
    rw [e2, e3, f2, f3]
    cases (z == 92) <;> rfl
def badE (e : Ent) : Bool := endS 92 e.2.2.2 || endS 13 e.2.2.2
theorem back_j1 (n : Nat) (es : List Ent) (i : Nat) (e : Ent) (he : es[i]? = some e) (x cur : Str) (hx : x.length + e.2.1.length ≤ 4294967296) :
    clepsydralaw11_LinesBack_j1 n (es.map entV) x cur (i : Int) = some (x ++ (if e.2.1 = cur then [] else lineH e ++ [10]), e.2.1) := by
  unfold clepsydralaw11_LinesBack_j1 clepsydralaw11_LinesBack_j1_b
  have hg : (es.map entV)[(i : Int).toNat]? = some (entV e) := by rw [Int.toNat_natCast, List.getElem?_map, he]; rfl
  obtain ⟨N, a, b, c⟩ := e
  simp only at hx ⊢
  simp only [decide_eq_true (show (0 : Int) ≤ (i : Int) by omega), cond_true]
  rw [hg]
  simp only [entV, unc, unn, getI, getT, Option.bind_some, beq_self_eq_true, cond_true, if_true]
  by_cases h : a = cur
  · subst h
    simp
  · rw [show (a == cur) = false by simpa using h, if_neg h, Bool.not_false, cond_true, cond_pos trivial, cond_pos trivial]
    rw [cond_pos (by simp only [List.length_append, List.length_cons, List.length_nil]; omega), cond_pos (by simp only [List.length_append, List.length_cons, List.length_nil]; omega), cond_pos (by simp only [List.length_append, List.length_cons, List.length_nil]; omega)]
    simp [lineH]
theorem unE (e : Ent) {R : Type} (f : Int → Str → Str → Str → Option R) : (unc (entV e) fun c462 r463 => getI .i64 c462 fun x464 => unc r463 fun c465 r466 => getT c465 fun x467 => unc r466 fun c468 r469 => getT c468 fun x470 => unc r469 fun c471 r472 => getT c471 fun x473 => unn r472 (f x464 x467 x470 x473)) = f (e.1 : Int) e.2.1 e.2.2.1 e.2.2.2 := by
  obtain ⟨N, a, b, c⟩ := e
  simp [entV, unc, unn, getI, getT]
theorem back_l1 (n : Nat) (hn : 131072 ≤ n) (es : List Ent) (hs : es.length < 4294967296) (hok : ∀ e ∈ es, EntOK e) : ∀ (m i : Nat) (x cur : Str), es.length - i < m → x.length + (txtS cur (es.drop i)).length ≤ 4294900000 →
    clepsydralaw11_LinesBack_l1 n m (es.map entV) x cur (i : Int) = some (if (es.drop i).any badE then .inl true else .inr (x ++ txtS cur (es.drop i)))
  | 0, i, x, cur, hm, _ => by omega
  | m + 1, i, x, cur, hm, hx => by
    rw [clepsydralaw11_LinesBack_l1, clepsydralaw11_LinesBack_l1_b]
    cases hd : es.drop i with
    | nil =>
      have := drop_nil hd
      rw [cond_neg (by simp; omega)]
      simp [txtS]
    | cons e r =>
      obtain ⟨e1, e2, e3⟩ := drop_cons hd
      have he := hok e (List.mem_of_getElem? e1)
      rw [hd, txtS] at hx
      simp only [List.length_append, List.length_cons] at hx
      have hg : (es.map entV)[(i : Int).toNat]? = some (entV e) := by rw [Int.toNat_natCast, List.getElem?_map, e1]; rfl
      have hl := he.len
      have hls := he.sec.len
      have hj1 := back_j1 n es i e e1 x cur (by omega)
      have hj2 := back_j2 n e.2.2.2 (by omega)
      have hle : (lineE e).length = e.2.2.1.length + 1 + e.2.2.2.length := by simp [lineE]; omega
      rw [cond_pos (by simp; omega)]
      simp only [decide_eq_true (show (0 : Int) ≤ (i : Int) by omega), cond_true]
      rw [hg]
      rw [Option.bind_some, unE]
      rw [hj2, List.any_cons]
      simp only [Option.bind_some]
      by_cases hb : (endS 92 e.2.2.2 || endS 13 e.2.2.2) = true
      · rw [hb, cond_true, works_val n hn, show badE e = true from hb]
        rfl
      · rw [Bool.not_eq_true] at hb
        rw [hb, cond_false, hj1, show badE e = false from hb]
        simp only [Option.bind_some]
        rw [unE]
        have hxl : (x ++ (if e.2.1 = cur then [] else lineH e ++ [10])).length + (lineE e).length + 1 ≤ 4294900000 := by rw [List.length_append]; omega
        generalize hX : x ++ (if e.2.1 = cur then [] else lineH e ++ [10]) = X at hxl
        rw [cond_pos (by omega), cond_pos (by simp; omega), cond_pos (by simp; omega), cond_pos (by simp; omega), wrap1 i (by omega)]
        have hX2 : X ++ e.2.2.1 ++ [61] ++ e.2.2.2 ++ [10] = X ++ (lineE e ++ [10]) := by simp [lineE]
        rw [hX2, back_l1 n hn es hs hok m (i + 1) (X ++ (lineE e ++ [10])) e.2.1 (by omega) (by
          rw [e2, ← hX]
          simp only [List.length_append, List.length_cons, List.length_nil]
          omega), e2, Bool.false_or]
        rw [txtS, ← hX]
        simp only [List.append_assoc, List.cons_append, List.nil_append]
theorem back_l0 (n : Nat) (es es' : List Ent) (hs : es.length < 4294967296) (heq : es'.map Prod.snd = es.map Prod.snd) : ∀ (m i : Nat), es.length - i < m →
    clepsydralaw11_LinesBack_l0 n m (es.map entV) (es'.map entV) (i : Int) = some (.inr ())
  | 0, i, hm => by omega
  | m + 1, i, hm => by
    have hlen : es'.length = es.length := by have := congrArg List.length heq; simpa using this
    rw [clepsydralaw11_LinesBack_l0, clepsydralaw11_LinesBack_l0_b]
    by_cases hi : i < es.length
    · obtain ⟨e, he⟩ : ∃ e, es[i]? = some e := ⟨es[i], List.getElem?_eq_getElem hi⟩
      obtain ⟨e', he'⟩ : ∃ e, es'[i]? = some e := ⟨es'[i], List.getElem?_eq_getElem (by omega)⟩
      have h2 : e'.2 = e.2 := by
        have := congrArg (fun l => l[i]?) heq
        simp only [List.getElem?_map, he, he', Option.map_some] at this
        injection this
      have hg : (es.map entV)[(i : Int).toNat]? = some (entV e) := by rw [Int.toNat_natCast, List.getElem?_map, he]; rfl
      have hg' : (es'.map entV)[(i : Int).toNat]? = some (entV e') := by rw [Int.toNat_natCast, List.getElem?_map, he']; rfl
      obtain ⟨N, z⟩ := e
      obtain ⟨N', z'⟩ := e'
      simp only at h2
      subst h2
      obtain ⟨a, b, c⟩ := z'
      rw [cond_pos (by simp; omega)]
      simp only [decide_eq_true (show (0 : Int) ≤ (i : Int) by omega), cond_true]
      rw [hg, hg']
      simp only [entV, unc, unn, getI, getT, Option.bind_some, beq_self_eq_true, cond_true, if_true, Bool.and_self, Bool.not_true, cond_false]
      rw [wrap1 i (by omega)]
      exact back_l0 n es es' hs heq m (i + 1) (by omega)
    · rw [cond_neg (by simp; omega)]
theorem LinesBack_law (n : Nat) (hn : 131072 ≤ n) (a : List Int) : clepsydralaw11_LinesBack_f n a = some true := by
  unfold clepsydralaw11_LinesBack_f clepsydralaw11_LinesBack_b
  by_cases h : 5000 < a.length
  · rw [cond_pos (by omega), works_val n hn]; rfl
  · have hsl := strOf_length a
    rw [cond_neg (by omega), Parse_val n _ hn (by omega)]
    simp only [Option.bind_some]
    have hpl := parseS_len (strOf a)
    have htx := parseS_txt (strOf a)
    have hok := parseS_ok (strOf a)
    generalize (parseS (strOf a)).1 = es at *
    have h1 := back_l1 n hn es (by omega) hok n 0 [] [] (by omega) (by simp; omega)
    rw [show (0 : Int) = ((0 : Nat) : Int) by rfl, h1]
    simp only [Option.bind_some, List.drop_zero, List.nil_append]
    cases hb : es.any badE with
    | true => rfl
    | false =>
      simp only [Bool.false_eq_true, if_false, Sum.elim_inr]
      rw [Parse_val n _ hn (by rw [intsOf_length]; omega), strOf_intsOf]
      simp only [Option.bind_some]
      obtain ⟨es', k1, k2⟩ := parse_txt es (fun e he => by
        have := List.any_eq_false.1 hb e he
        simp only [badE, Bool.or_eq_true, not_or, Bool.not_eq_true] at this
        exact ⟨hok e he, this.2, this.1⟩)
      rw [k1]
      have hlen : es'.length = es.length := by have := congrArg List.length k2; simpa using this
      have hj0 : clepsydralaw11_LinesBack_j0 n (es.map entV) (es'.map entV) (([] : List (Nat × Bool)).map badV) = some false := by
        unfold clepsydralaw11_LinesBack_j0 clepsydralaw11_LinesBack_j0_b
        simp [hlen]
      rw [hj0]
      simp only [Option.bind_some, cond_false]
      rw [back_l0 n es es' (by omega) k2 n 0 (by omega)]
      simp only [Option.bind_some, Sum.elim_inr]
      rw [works_val n hn]
      rfl
end Go.Proofs.YtikiibnmhmioiaaDoor.H

/- Chapter 11: what the program's Parse answers. -/
import Derived.Test.YtikiibnmhmioiaaDoorU1
import Derived.Lib.SplitLaws
namespace Go.Proofs.YtikiibnmhmioiaaDoor.H
open Go.Sh Go.RowKit
set_option linter.unusedSimpArgs false
set_option linter.unusedVariables false

/-! ### rows -/
def rowsS : Str → List Str
  | [] => [[]]
  | b :: l => if b = 10 then [] :: rowsS l else match rowsS l with | [] => [[b]] | x :: r => (b :: x) :: r
def consH (b : UInt8) : List Str → List Str
  | [] => [[b]]
  | x :: r => (b :: x) :: r
theorem splitK_cons (b : UInt8) (hb : b ≠ 10) (k : Nat) (l : Str) : Lib.splitK [10] 0 k (b :: l) = consH b (Lib.splitK [10] 0 k l) := by
  cases k with
  | zero => rfl
  | succ k =>
    have h1 : ([10] : Str).isPrefixOf (b :: l) = false := by simp [List.isPrefixOf, Ne.symm hb]
    have h2 : Lib.index (b :: l) [10] = if Lib.index l [10] == -1 then -1 else Lib.index l [10] + 1 := by rw [Lib.index, h1]; rfl
    rw [Lib.splitK, Lib.splitK, h2]
    have h3 := Lib.index_ge l [10]
    by_cases h : Lib.index l [10] = -1
    · rw [h]; rfl
    · have h4 : (Lib.index l [10] == -1) = false := by simpa using h
      rw [h4]
      simp only [Bool.false_eq_true, if_false]
      have h5 : (Lib.index l [10] + 1 == -1) = false := by simp; omega
      rw [h5]
      simp only [Bool.false_eq_true, if_false, Nat.add_zero, List.length_singleton]
      rw [show (Lib.index l [10] + 1).toNat = (Lib.index l [10]).toNat + 1 by omega]
      rfl
theorem split_val : ∀ s : Str, Lib.split s [10] = rowsS s
  | [] => rfl
  | b :: l => by
    have ih := split_val l
    unfold Lib.split at ih ⊢
    rw [Lib.count_one] at ih ⊢
    by_cases hb : b = 10
    · subst hb
      have h2 : Lib.index (10 :: l) [10] = 0 := by rw [Lib.index]; simp [List.isPrefixOf]
      rw [List.count_cons_self, Lib.splitK, h2, rowsS, if_pos rfl, ← ih]
      rfl
    · rw [List.count_cons_of_ne hb, splitK_cons b hb, ih, rowsS, if_neg hb]
      rfl
def sz (ls : List Str) : Nat := (ls.map fun x => x.length + 1).sum
theorem sz_cons (p : Str) (r : List Str) : sz (p :: r) = p.length + 1 + sz r := by simp [sz]
theorem rowsS_ne (s : Str) : rowsS s ≠ [] := by
  cases s with
  | nil => simp [rowsS]
  | cons b l =>
    rw [rowsS]
    split
    · simp
    · split <;> simp
theorem rowsS_sz : ∀ s : Str, sz (rowsS s) = s.length + 1
  | [] => rfl
  | b :: l => by
    have ih := rowsS_sz l
    rw [rowsS]
    split
    · rw [sz_cons, ih]; simp; omega
    · split
      · rename_i h; exact absurd h (rowsS_ne l)
      · rename_i h; rw [h, sz_cons] at ih; rw [sz_cons, List.length_cons, List.length_cons]; omega
theorem len_sz : ∀ ls : List Str, ls.length ≤ sz ls
  | [] => Nat.le_refl _
  | p :: r => by have := len_sz r; rw [sz_cons, List.length_cons]; omega
theorem sz_map : ∀ ls : List Str, sz (ls.map (cutE 13)) ≤ sz ls
  | [] => Nat.le_refl _
  | p :: r => by have := sz_map r; have := cutE_len 13 p; rw [List.map_cons, sz_cons, sz_cons]; omega
def linesS (s : Str) : List Str := (rowsS s).map (cutE 13)
theorem linesS_sz (s : Str) : sz (linesS s) ≤ s.length + 1 := by have := sz_map (rowsS s); have := rowsS_sz s; unfold linesS; omega
theorem sz_drop : ∀ (ls : List Str) (i : Nat), sz (ls.drop i) ≤ sz ls
  | [], i => by simp
  | p :: r, 0 => Nat.le_refl _
  | p :: r, i + 1 => by have := sz_drop r i; rw [List.drop_succ_cons, sz_cons]; omega
theorem sz_dw {f : Str → Bool} : ∀ r : List Str, sz (r.dropWhile f) ≤ sz r
  | [] => Nat.le_refl _
  | p :: r => by
    have := sz_dw (f := f) r
    cases h : f p with
    | true => rw [List.dropWhile_cons_of_pos h, sz_cons]; omega
    | false => rw [List.dropWhile_cons_of_neg (by simp [h])]; exact Nat.le_refl _

/-! ### lines that go on -/
def contS : Str → List Str → Str × List Str
  | p, [] => (if endS 92 p then p.dropLast ++ [32] else p, [])
  | p, q :: r => if endS 92 p then (if cmtS q then contS p r else (p.dropLast ++ 32 :: (contS q r).1, (contS q r).2)) else (p, q :: r)
theorem contS_no (p : Str) (r : List Str) (h : endS 92 p = false) : contS p r = (p, r) := by
  cases r with
  | nil => rw [contS, h]; rfl
  | cons q r => rw [contS, h]; rfl
theorem contS_yes (p : Str) (h : endS 92 p = true) : ∀ r : List Str, contS p r = match r.dropWhile cmtS with | [] => (p.dropLast ++ [32], []) | q :: r' => (p.dropLast ++ 32 :: (contS q r').1, (contS q r').2)
  | [] => by rw [contS, h]; rfl
  | q :: r => by
    rw [contS, h]
    cases hq : cmtS q with
    | true => rw [List.dropWhile_cons_of_pos hq]; simp only [if_true]; exact contS_yes p h r
    | false => rw [List.dropWhile_cons_of_neg (by simp [hq])]; rfl
theorem contS_sz : ∀ (r : List Str) (p : Str), (contS p r).1.length + sz (contS p r).2 ≤ p.length + sz r
  | [], p => by
    rw [contS]
    split
    · rename_i h
      have := endS_pos h
      simp only [List.length_append, List.length_dropLast, List.length_singleton]; omega
    · exact Nat.le_refl _
  | q :: r, p => by
    rw [contS, sz_cons]
    split
    · rename_i h
      have := endS_pos h
      split
      · have := contS_sz r p; omega
      · have := contS_sz r q
        simp only [List.length_append, List.length_dropLast, List.length_cons]; omega
    · simp only [sz_cons]; omega
theorem contS_le : ∀ (r : List Str) (p : Str), (contS p r).2.length ≤ r.length
  | [], p => by rw [contS]; simp
  | q :: r, p => by
    rw [contS]
    have h1 := contS_le r p
    have h2 := contS_le r q
    split
    · split <;> simp only [List.length_cons] <;> omega
    · simp

/-! ### the lines that count -/
def logS (N : Nat) : Nat → List Str → List (Nat × Str)
  | 0, _ => []
  | _ + 1, [] => []
  | m + 1, p :: r => if skipS p then logS N m r else (N - r.length, trimS (contS p r).1) :: logS N m (contS p r).2
abbrev Ent : Type := Nat × Str × Str × Str
abbrev Sta : Type := Str × List Ent × List (Nat × Bool)
def stepS (st : Sta) (x : Nat × Str) : Sta :=
  if 4096 < x.2.length then (st.1, st.2.1, st.2.2 ++ [(x.1, true)])
  else if headS x.2 then (innS x.2, st.2.1, st.2.2)
  else if x.2.head? == some 91 then ([], st.2.1, st.2.2 ++ [(x.1, false)])
  else if x.2.contains 61 && (keyS (trimS (x.2.takeWhile (· != 61))) && st.1 != []) then (st.1, st.2.1 ++ [(x.1, st.1, trimS (x.2.takeWhile (· != 61)), trimS ((x.2.dropWhile (· != 61)).drop 1))], st.2.2)
  else (st.1, st.2.1, st.2.2 ++ [(x.1, false)])
def runS (N : Nat) (k : Nat) (ls : List Str) (st : Sta) : Sta := (logS N k ls).foldl stepS st
def parseS (s : Str) : List Ent × List (Nat × Bool) := (runS (linesS s).length ((linesS s).length + 1) (linesS s) ([], [], [])).2
theorem stepS_len (st : Sta) (x : Nat × Str) : (stepS st x).2.1.length + (stepS st x).2.2.length ≤ st.2.1.length + st.2.2.length + 1 := by
  unfold stepS
  split
  · simp; omega
  · split
    · simp
    · split
      · simp; omega
      · split <;> · simp; omega
def entV (e : Ent) : List AV := [.int .i64 (e.1 : Int), .str e.2.1, .str e.2.2.1, .str e.2.2.2]
def badV (e : Nat × Bool) : List AV := [.int .i64 (e.1 : Int), .int .i64 (if e.2 then 3 else 110)]
theorem snoc_ent (es : List Ent) (N : Nat) (a b c : Str) : es.map entV ++ ([[.int .i64 (N : Int), .str a, .str b, .str c]] : List (List AV)) = (es ++ [(N, a, b, c)]).map entV := by simp [entV]
theorem snoc_bad (bs : List (Nat × Bool)) (N : Nat) (b : Bool) (z : Int) (hz : z = if b then 3 else 110) : bs.map badV ++ ([[.int .i64 (N : Int), .int .i64 z]] : List (List AV)) = (bs ++ [(N, b)]).map badV := by simp [badV, hz]
theorem r0_val (n N : Nat) (t : Str) (st : Sta) (ht : t.length < 4294967281) (hn : t.length + 1 < n) (hl : st.2.1.length + st.2.2.length ≤ 1048576) :
    lines_Parse_r0_f n (N : Int) t (st.2.1.map entV) (st.2.2.map badV) st.1 = some ((stepS st (N, t)).2.1.map entV, (stepS st (N, t)).2.2.map badV, (stepS st (N, t)).1) := by
  obtain ⟨sec, es, bs⟩ := st
  simp only at hl ⊢
  unfold lines_Parse_r0_f lines_Parse_r0_b stepS
  simp only
  by_cases h1 : 4096 < t.length
  · rw [cond_pos (by omega), cond_pos (by simp; omega), if_pos h1, snoc_bad bs N true 3 rfl]
  · rw [cond_neg (by omega), if_neg h1]
    obtain ⟨x, hx1, hx2⟩ := section_val n t ht
    rw [hx1]
    simp only [Option.bind_some]
    cases h2 : headS t with
    | true => rw [hx2 h2]; rfl
    | false =>
      simp only [cond_false, Bool.false_eq_true, if_false]
      unfold strings_Cut_f
      rw [cond_pos ht, cut_val]
      have hp : Lib.hasPrefix t [91] = (t.head? == some 91) := by
        unfold Lib.hasPrefix
        cases t with
        | nil => rfl
        | cons b r => 
          simp only [List.isPrefixOf, Bool.and_true, List.head?_cons]
          rw [show (some b == some (91 : UInt8)) = (b == 91) by rfl, Bool.eq_iff_iff]
          simp only [beq_iff_eq]
          exact ⟨Eq.symm, Eq.symm⟩
      have htw : (t.takeWhile (· != 61)).length ≤ t.length := (List.takeWhile_sublist _).length_le
      have htl := trimS_len (t.takeWhile (· != 61))
      have hdw := dw_len (p := (· != 61)) t
      simp only [Option.bind_some]
      rw [trim_val n _ (by omega)]
      simp only [Option.bind_some]
      unfold lines_Parse_r0_j1 lines_Parse_r0_j1_b strings_HasPrefix_f
      rw [hp]
      simp only [Option.bind_some]
      cases h3 : (t.head? == some 91) with
      | true =>
        simp only [cond_true, Option.bind_some, Sum.elim_inl, if_true]
        rw [cond_pos (by simp; omega), snoc_bad bs N false 110 rfl]
      | false =>
        simp only [cond_false, Bool.false_eq_true, if_false]
        unfold lines_Parse_r0_j0 lines_Parse_r0_j0_b
        cases h4 : t.contains 61 with
        | false =>
          simp only [Bool.not_false, cond_true, Option.bind_some, Sum.elim_inl, Bool.false_and, Bool.false_eq_true, if_false]
          rw [cond_pos (by simp; omega), snoc_bad bs N false 110 rfl]
        | true =>
          simp only [Bool.not_true, cond_false, Bool.true_and]
          rw [key_val n _ (by omega) (by omega)]
          cases h5 : keyS (trimS (t.takeWhile (· != 61))) with
          | false =>
            simp only [Option.bind_some, Bool.not_false, cond_true, Sum.elim_inl, Bool.false_and, Bool.false_eq_true, if_false]
            rw [cond_pos (by simp; omega), snoc_bad bs N false 110 rfl]
          | true =>
            simp only [Option.bind_some, Bool.not_true, cond_false, Bool.true_and]
            by_cases h6 : sec = []
            · subst h6
              simp only [beq_self_eq_true, cond_true, Option.bind_some, Sum.elim_inl, bne_self_eq_false, Bool.false_eq_true, if_false]
              rw [cond_pos (by simp; omega), snoc_bad bs N false 110 rfl]
            · rw [show (sec == []) = false by simpa using h6, show (sec != []) = true by simpa using h6]
              simp only [cond_false, Option.bind_some, Sum.elim_inr, if_true]
              rw [trim_val n _ (by rw [List.length_drop]; omega)]
              simp only [Option.bind_some]
              rw [cond_pos (by simp; omega), snoc_ent]

/-! ### the loops -/
theorem l3_val (n : Nat) (N : Nat) (h1 : Str) (h2 h3 : List (List AV)) (h4 : Str) (hN : N < 4294967296) : ∀ (m i : Nat) (a b : List Str), N - i < m → a.length = i → a.length + b.length = N → sz b < 4294967296 →
    lines_whole_1_l3 n m N (N : Int) (i : Int) h1 h2 h3 h4 (a ++ b) = some (h1, h2, h3, h4, a ++ b.map (cutE 13))
  | 0, i, a, b, hm, _, _, _ => by omega
  | m + 1, i, a, b, hm, ha, hab, hb => by
    rw [lines_whole_1_l3, lines_whole_1_l3_b]
    cases b with
    | nil =>
      simp only [List.length_nil] at hab
      rw [cond_neg (by omega)]
      rfl
    | cons p r =>
      rw [sz_cons] at hb
      simp only [List.length_cons] at hab
      have hg : (a ++ p :: r)[0 + Int.toNat (i : Int) * 1]? = some p := by
        rw [Int.toNat_natCast, Nat.zero_add, Nat.mul_one, List.getElem?_append_right (by omega), ha, Nat.sub_self]; rfl
      have hs : (a ++ p :: r).set (0 + Int.toNat (i : Int) * 1) (cutE 13 p) = (a ++ [cutE 13 p]) ++ r := by
        rw [Int.toNat_natCast, Nat.zero_add, Nat.mul_one, List.set_append_right _ _ (by omega), ha, Nat.sub_self]; simp
      rw [cond_pos (by omega), cond_pos (by omega), cond_pos (by omega), hg]
      simp only [Option.bind_some]
      rw [trimSuffix_val n p 13 (by omega)]
      simp only [Option.bind_some]
      rw [cond_pos (by omega), cond_pos (by omega), cond_pos (by simp; omega), wrap1 i (by omega), hs]
      have ih := l3_val n N h1 h2 h3 h4 hN m (i + 1) (a ++ [cutE 13 p]) r (by omega) (by simp [ha]) (by simp; omega) (by omega)
      rw [ih]
      simp
theorem l2_val (n N : Nat) (h1 : Str) (h2 h3 : List (List AV)) (h4 : Str) (L : List Str) (h6 : List Int) (hN : L.length = N) (hL : sz L < 4294967296) : ∀ (m i : Nat), N - i < m → i ≤ N →
    ∃ j : Nat, lines_whole_1_l2 n m N (i : Int) h1 h2 h3 h4 L h6 = some ((j : Int), h1, h2, h3, h4, L, h6) ∧ L.drop j = (L.drop i).dropWhile cmtS ∧ i ≤ j ∧ j ≤ N
  | 0, i, hm, _ => by omega
  | m + 1, i, hm, hi => by
    have hLl := len_sz L
    rw [lines_whole_1_l2, lines_whole_1_l2_b]
    unfold lines_whole_1_j0 lines_whole_1_j0_b
    cases hd : L.drop i with
    | nil =>
      have := drop_nil hd
      rw [cond_neg (by omega)]
      exact ⟨i, rfl, by rw [hd]; rfl, Nat.le_refl _, hi⟩
    | cons p r =>
      obtain ⟨e1, e2, e3⟩ := drop_cons hd
      have hp : p.length < 4294967296 := by
        have := sz_drop L i
        rw [hd, sz_cons] at this
        omega
      rw [cond_pos (by omega), cond_pos (by omega), cond_pos (by omega), Int.toNat_natCast, Nat.zero_add, Nat.mul_one, e1]
      simp only [Option.bind_some]
      rw [comment_val n p (by omega)]
      simp only [Option.bind_some]
      cases hc : cmtS p with
      | false =>
        rw [cond_false, List.dropWhile_cons_of_neg (by simp [hc])]
        exact ⟨i, rfl, hd, Nat.le_refl _, hi⟩
      | true =>
        obtain ⟨j, k1, k2, k3, k4⟩ := l2_val n N h1 h2 h3 h4 L h6 hN hL m (i + 1) (by omega) (by omega)
        rw [cond_true, wrap1 i (by omega), k1, List.dropWhile_cons_of_pos hc]
        exact ⟨j, rfl, by rw [k2, e2], by omega, k4⟩
theorem l1_val (n N : Nat) (h1 : Str) (h2 h3 : List (List AV)) (h4 : Str) (L : List Str) (hN : L.length = N) (hL : sz L < 4294967296) (hn : N + 1 < n) : ∀ (m i : Nat) (p : Str) (r : List Str) (h6 : List Int), N - i < m → L.drop i = p :: r → h6.length + p.length + sz r ≤ 4294967296 →
    ∃ j : Nat, lines_whole_1_l1 n m N (i : Int) h1 h2 h3 h4 L h6 = some ((j : Int), h1, h2, h3, h4, L, h6 ++ intsOf (contS p r).1) ∧ L.drop (j + 1) = (contS p r).2 ∧ i ≤ j ∧ j ≤ N
  | 0, i, p, r, h6, hm, hd, _ => by have := (drop_cons hd).2.2; omega
  | m + 1, i, p, r, h6, hm, hd, hb => by
    have hLl := len_sz L
    obtain ⟨e1, e2, e3⟩ := drop_cons hd
    have hp : p.length < 4294967296 := by
      have := sz_drop L i
      rw [hd, sz_cons] at this
      omega
    rw [lines_whole_1_l1, lines_whole_1_l1_b, cond_pos (by omega), cond_pos (by omega), Int.toNat_natCast, Nat.zero_add, Nat.mul_one, e1]
    simp only [Option.bind_some]
    rw [cutSuffix_val n p 92 (by omega)]
    have hcl := cutE_len 92 p
    simp only [Option.bind_some]
    rw [cond_pos (by omega)]
    cases he : endS 92 p with
    | false =>
      rw [contS_no p r he]
      simp only [Bool.not_false, cond_true, cutE, he, Bool.false_eq_true, if_false]
      exact ⟨i, rfl, e2, Nat.le_refl _, by omega⟩
    | true =>
      have hpos := endS_pos he
      have hce : cutE 92 p = p.dropLast := by rw [cutE, he]; rfl
      rw [hce] at hcl ⊢
      have hdl : p.dropLast.length = p.length - 1 := by simp
      obtain ⟨j, k1, k2, k3, k4⟩ := l2_val n N h1 h2 h3 h4 L ((h6 ++ intsOf p.dropLast) ++ [(32 : Int)]) hN hL n (i + 1) (by omega) (by omega)
      simp only [Bool.not_true, cond_false, List.getElem?_cons_zero, Option.bind_some]
      rw [cond_pos (by rw [List.length_append, intsOf_length]; omega), wrap1 i (by omega), show (((32 : UInt8).toNat : Nat) : Int) = 32 by rfl, k1]
      simp only [Option.bind_some]
      rw [contS_yes p he r]
      rw [e2] at k2
      cases hr : r.dropWhile cmtS with
      | nil =>
        rw [hr] at k2
        have := drop_nil k2
        rw [cond_pos (by omega)]
        refine ⟨j, ?_, ?_, by omega, k4⟩
        · rw [intsOf_append, List.append_assoc]; rfl
        · rw [List.drop_eq_nil_of_le (by omega)]
      | cons q r' =>
        rw [hr] at k2
        obtain ⟨q1, q2, q3⟩ := drop_cons k2
        have hsz : q.length + 1 + sz r' ≤ sz r := by
          rw [← sz_cons, ← hr]
          exact sz_dw r
        obtain ⟨j', z1, z2, z3, z4⟩ := l1_val n N h1 h2 h3 h4 L hN hL hn m j q r' ((h6 ++ intsOf p.dropLast) ++ [(32 : Int)]) (by omega) k2 (by simp only [List.length_append, intsOf_length, List.length_singleton]; omega)
        rw [cond_neg (by omega), z1]
        refine ⟨j', ?_, z2, by omega, z4⟩
        simp only
        rw [intsOf_append, intsOf_cons]
        simp only [List.append_assoc, List.singleton_append]
        rfl
theorem j1w_val (n N : Nat) (h1 : Str) (h2 h3 : List (List AV)) (h4 : Str) (L : List Str) (hN : L.length = N) (hL : sz L < 4294967296) (i : Nat) (p : Str) (r : List Str) (hd : L.drop i = p :: r) :
    lines_whole_1_j1 n N (i : Int) h1 h2 h3 h4 L = some (skipS p, h1, h2, h3, h4, L) := by
  have hLl := len_sz L
  obtain ⟨e1, e2, e3⟩ := drop_cons hd
  have hp : p.length < 4294967296 := by
    have := sz_drop L i
    rw [hd, sz_cons] at this
    omega
  unfold lines_whole_1_j1 lines_whole_1_j1_b skipS
  rw [cond_pos (by omega), cond_pos (by omega), Int.toNat_natCast, Nat.zero_add, Nat.mul_one, e1]
  simp only [Option.bind_some]
  rw [trim_val n p (by omega)]
  simp only [Option.bind_some]
  by_cases h : trimS p = []
  · rw [h]; rfl
  · rw [show (trimS p == []) = false by simpa using h, cond_false, cond_pos (by omega), cond_pos (by omega), comment_val n p (by omega)]
    rfl
theorem l0_val (n N : Nat) (h1 : Str) (L : List Str) (hN : L.length = N) (hL : sz L ≤ 65537) (hn : 131072 ≤ n) : ∀ (m i k : Nat) (st : Sta), N + 1 - i < m → i ≤ N + 1 → N - i ≤ k → st.2.1.length + st.2.2.length + (N - i) ≤ 1048576 →
    lines_whole_1_l0 n m N (i : Int) h1 (st.2.1.map entV) (st.2.2.map badV) st.1 L = some (h1, (runS N k (L.drop i) st).2.1.map entV, (runS N k (L.drop i) st).2.2.map badV, (runS N k (L.drop i) st).1, L)
  | 0, i, k, st, hm, _, _, _ => by omega
  | m + 1, i, k, st, hm, hi, hk, hs => by
    have hLl := len_sz L
    rw [lines_whole_1_l0, lines_whole_1_l0_b]
    cases hd : L.drop i with
    | nil =>
      have := drop_nil hd
      rw [cond_neg (by omega)]
      have : runS N k [] st = st := by unfold runS; cases k <;> rfl
      rw [this]
    | cons p r =>
      obtain ⟨e1, e2, e3⟩ := drop_cons hd
      have hrl : r.length = N - i - 1 := by rw [← e2, List.length_drop]; omega
      have hpr : p.length + 1 + sz r ≤ 65537 := by
        have := sz_drop L i
        rw [hd, sz_cons] at this
        omega
      obtain ⟨k, rfl⟩ : ∃ k', k = k' + 1 := ⟨k - 1, by omega⟩
      rw [cond_pos (by omega)]
      unfold lines_whole_1_j2 lines_whole_1_j2_b
      rw [j1w_val n N h1 _ _ _ L hN (by omega) i p r hd]
      simp only [Option.bind_some]
      unfold runS
      rw [logS]
      cases hsk : skipS p with
      | true =>
        simp only [cond_true, Option.bind_some, if_true]
        rw [wrap1 i (by omega), l0_val n N h1 L hN hL hn m (i + 1) k st (by omega) (by omega) (by omega) (by omega), e2]
        rfl
      | false =>
        simp only [cond_false, Bool.false_eq_true, if_false]
        obtain ⟨j, k1, k2, k3, k4⟩ := l1_val n N h1 (st.2.1.map entV) (st.2.2.map badV) st.1 L hN (by omega) (by omega) n i p r [] (by omega) hd (by simp; omega)
        have hcs := contS_sz r p
        have hcl := contS_le r p
        rw [k1]
        simp only [Option.bind_some, List.nil_append]
        rw [cond_pos (by rw [intsOf_length]; omega), strOf_intsOf, trim_val n _ (by omega)]
        simp only [Option.bind_some]
        have htl := trimS_len (contS p r).1
        have hr0 := r0_val n (i + 1) (trimS (contS p r).1) st (by omega) (by omega) (by omega)
        have hlen := stepS_len st (i + 1, trimS (contS p r).1)
        rw [wrap1 i (by omega), hr0]
        simp only [Option.bind_some]
        rw [wrap1 j (by omega), l0_val n N h1 L hN hL hn m (j + 1) k (stepS st (i + 1, trimS (contS p r).1)) (by omega) (by omega) (by omega) (by omega), k2, List.foldl_cons]
        rw [show N - r.length = i + 1 by omega]
        rfl
theorem Parse_val (n : Nat) (a : List Int) (hn : 131072 ≤ n) (ha : a.length ≤ 65536) : lines_Parse_f n a = some ((parseS (strOf a)).1.map entV, (parseS (strOf a)).2.map badV) := by
  unfold lines_Parse_f lines_Parse_b lines_whole_f lines_whole_b
  rw [cond_neg (by omega)]
  simp only [Option.bind_some]
  unfold lines_whole_1_f lines_whole_1_b
  have hsl := strOf_length a
  rw [split_val]
  have hb : (decide ((strOf a).length < 4294967281) && !([10] : Str).isEmpty) = true := by rw [decide_eq_true (by omega)]; rfl
  have hz := rowsS_sz (strOf a)
  have hlz := len_sz (rowsS (strOf a))
  have h3 := l3_val n (rowsS (strOf a)).length (strOf a) [] [] [] (by omega) n 0 [] (rowsS (strOf a)) (by omega) rfl (by simp) (by omega)
  rw [List.nil_append, List.nil_append] at h3
  rw [hb, cond_true, show (0 : Int) = ((0 : Nat) : Int) by rfl, h3]
  simp only [Option.bind_some]
  have hlz2 := linesS_sz (strOf a)
  have hll : (linesS (strOf a)).length = (rowsS (strOf a)).length := by simp [linesS]
  have h0 := l0_val n (rowsS (strOf a)).length (strOf a) (linesS (strOf a)) hll (by omega) hn n 0 ((linesS (strOf a)).length + 1) ([], [], []) (by omega) (by omega) (by omega) (by simp; omega)
  simp only [List.map_nil, List.drop_zero] at h0
  rw [show (rowsS (strOf a)).map (cutE 13) = linesS (strOf a) from rfl, h0]
  simp only [Option.bind_some]
  unfold parseS
  rw [hll]
end Go.Proofs.YtikiibnmhmioiaaDoor.H

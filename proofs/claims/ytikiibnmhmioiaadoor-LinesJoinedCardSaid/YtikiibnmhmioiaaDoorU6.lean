/- Chapter 11: a line that goes on, with lines passed over between, reads as the line that is its parts joined. -/
import Derived.Test.YtikiibnmhmioiaaDoorU5
import Derived.Test.YtikiibnmhmioiaaDoorT2
namespace Go.Proofs.YtikiibnmhmioiaaDoor.H
open Go.Sh Go.RowKit
set_option linter.unusedSimpArgs false
set_option linter.unusedVariables false

def plnB (b : UInt8) : Bool := b != 10 && (b != 13 && b != 92)
theorem pln_j0 (n : Nat) (s : Str) (i : Nat) (c : UInt8) (h : s[i]? = some c) : clepsydralaw11_plain_j0 n s (i : Int) = some (plnB c) := by
  unfold clepsydralaw11_plain_j0 clepsydralaw11_plain_j0_b
  simp only [decide_eq_true (show (0 : Int) ≤ (i : Int) by omega), cond_true]
  rw [Int.toNat_natCast, h]
  have h := byte_all (p := fun x => cond ((x : Int) != 10) (cond ((x : Int) != 13) (some ((x : Int) != 92)) (some false)) (some false) = some (plnB (UInt8.ofNat x))) (by decide +kernel) c
  rw [UInt8.ofNat_toNat] at h
  exact h
theorem pln_loop (n : Nat) (s : Str) (hs : s.length < 4294967296) : ∀ (m i : Nat) (x : Str), s.length - i < m → x.length ≤ i →
    clepsydralaw11_plain_l0 n m s x (i : Int) = some (x ++ (s.drop i).filter plnB)
  | 0, i, x, hm, _ => by omega
  | m + 1, i, x, hm, hx => by
    rw [clepsydralaw11_plain_l0, clepsydralaw11_plain_l0_b]
    cases hd : s.drop i with
    | nil =>
      have := drop_nil hd
      rw [cond_neg (by omega)]
      simp
    | cons c r =>
      obtain ⟨e1, e2, e3⟩ := drop_cons hd
      rw [cond_pos (by omega)]
      unfold clepsydralaw11_plain_j1 clepsydralaw11_plain_j1_b
      rw [pln_j0 n s i c e1]
      simp only [Option.bind_some]
      cases hc : plnB c with
      | false =>
        rw [cond_false]
        simp only [Option.bind_some]
        rw [wrap1 i (by omega), pln_loop n s hs m (i + 1) x (by omega) (by omega), e2, List.filter_cons_of_neg (by simp [hc])]
      | true =>
        rw [cond_true, cond_pos (by omega), Int.toNat_natCast, e1]
        simp only [Option.bind_some]
        rw [strOf_one, cond_pos (by simp; omega)]
        simp only [Option.bind_some]
        rw [wrap1 i (by omega), pln_loop n s hs m (i + 1) (x ++ [c]) (by omega) (by simp; omega), e2, List.filter_cons_of_pos hc]
        simp
theorem pln_val (n : Nat) (s : Str) (hs : s.length < 4294967296) (hn : s.length < n) : clepsydralaw11_plain_f n s = some (s.filter plnB) := by
  unfold clepsydralaw11_plain_f clepsydralaw11_plain_b
  have h := pln_loop n s hs n 0 [] (by omega) (by simp)
  rw [show (0 : Int) = ((0 : Nat) : Int) by rfl, h]
  rfl
/-- No line's end, no byte 13, no backslash. -/
def Pln (s : Str) : Prop := ∀ c ∈ s, c ≠ 10 ∧ c ≠ 13 ∧ c ≠ 92
theorem pln_filter (s : Str) : Pln (s.filter plnB) := by
  intro c hc
  have := (List.mem_filter.1 hc).2
  simpa [plnB] using this
theorem Pln.cons {s : Str} (h : Pln s) (c : UInt8) (hc : c ≠ 10 ∧ c ≠ 13 ∧ c ≠ 92) : Pln (c :: s) := fun d hd => by
  rcases List.mem_cons.1 hd with rfl | hd
  · exact hc
  · exact h d hd
theorem Pln.append {s t : Str} (h : Pln s) (h2 : Pln t) : Pln (s ++ t) := fun d hd => by
  rcases List.mem_append.1 hd with hd | hd
  · exact h d hd
  · exact h2 d hd
theorem Pln.no {s : Str} (h : Pln s) : (10 : UInt8) ∉ s := fun hm => (h _ hm).1 rfl
theorem Pln.end13 {s : Str} (h : Pln s) : endS 13 s = false := by
  unfold endS
  cases hl : s.getLast? with
  | none => rfl
  | some c => simpa using (h c (List.mem_of_getLast? hl)).2.1
theorem Pln.end92 {s : Str} (h : Pln s) : endS 92 s = false := by
  unfold endS
  cases hl : s.getLast? with
  | none => rfl
  | some c => simpa using (h c (List.mem_of_getLast? hl)).2.2
/-- The last row, after the last line's end. -/
theorem runS_last (N k : Nat) (st : Sta) : runS N (k + 1) (linesS []) st = st := by
  unfold runS
  rw [show linesS [] = [[]] from rfl, logS]
  cases k <;> rfl
theorem runS_skip (N k : Nat) (p : Str) (r : List Str) (st : Sta) (h : skipS p = true) : runS N (k + 1) (p :: r) st = runS N k r st := by
  unfold runS
  rw [logS, h]
  rfl
theorem runS_any (N k : Nat) (p : Str) (r : List Str) (st : Sta) (h : skipS p = false) : runS N (k + 1) (p :: r) st = runS N k (contS p r).2 (stepS st (N - r.length, trimS (contS p r).1)) := by
  unfold runS
  rw [logS, h]
  rfl
theorem first_trim (s : Str) (c : UInt8) (r : Str) (h : s = c :: r) (hc : blkB c = false) : ∃ r', trimS s = c :: r' := by
  have h1 : s.dropWhile blkB = s := dw_keep s (fun d hd => by rw [h] at hd; injection hd with hd; rw [← hd, hc])
  unfold trimS
  rw [h1, h, rs_cons]
  split
  · rw [hc]; exact ⟨[], rfl⟩
  · exact ⟨_, rfl⟩
theorem first_skip (s : Str) (c : UInt8) (r : Str) (h : s = c :: r) (hc : blkB c = false) (hd : (c == 35 || c == 59) = false) : skipS s = false := by
  obtain ⟨r', hr⟩ := first_trim s c r h hc
  unfold skipS cmtS
  rw [hr]
  simpa using hd
theorem first_cmt (s : Str) (c : UInt8) (r : Str) (h : s = c :: r) (hc : blkB c = false) : cmtS s = (c == 35 || c == 59) := by
  obtain ⟨r', hr⟩ := first_trim s c r h hc
  unfold cmtS
  rw [hr]

/-! ### the two texts -/
def kxS (x : Str) : Str := 107 :: 61 :: x
def secL : Str := [91, 83, 93]
def zedL : Str := [122, 61, 49]
def oneT (x y : Str) : Str := secL ++ 10 :: (kxS x ++ 32 :: y ++ 10 :: (zedL ++ 10 :: []))
def twoT (x y b : Str) (c : Bool) : Str := secL ++ 10 :: ((kxS x ++ [92]) ++ 10 :: ((if c then (32 :: 35 :: 32 :: b ++ [92]) ++ 10 :: ([59] ++ 10 :: []) else []) ++ (y ++ 10 :: (zedL ++ 10 :: []))))
theorem endS_snoc (c : UInt8) (s : Str) : endS c (s ++ [c]) = true := by unfold endS; rw [List.getLast?_concat]; simp
theorem oneT_lines (x y : Str) (hx : Pln x) (hy : Pln y) : linesS (oneT x y) = [secL, kxS x ++ 32 :: y, zedL, []] := by
  have h1 : Pln (kxS x ++ 32 :: y) := ((hx.cons 61 (by decide)).cons 107 (by decide)).append (hy.cons 32 (by decide))
  unfold oneT
  rw [linesS_line _ _ (by decide) rfl, linesS_line _ _ h1.no h1.end13, linesS_line _ _ (by decide) rfl]
  rfl
theorem no13_92 (s : Str) : endS 13 (s ++ [92]) = false := by unfold endS; rw [List.getLast?_concat]; rfl
theorem no10_92 (s : Str) (h : Pln s) : (10 : UInt8) ∉ s ++ [92] := by
  simp only [List.mem_append, List.mem_singleton, not_or]
  exact ⟨h.no, by decide⟩
theorem twoT_lines (x y b : Str) (c : Bool) (hx : Pln x) (hy : Pln y) (hb : Pln b) : linesS (twoT x y b c) = secL :: (kxS x ++ [92]) :: ((if c then [32 :: 35 :: 32 :: b ++ [92], [59]] else []) ++ [y, zedL, []]) := by
  have h1 : Pln (kxS x) := (hx.cons 61 (by decide)).cons 107 (by decide)
  have h2 : Pln (32 :: 35 :: 32 :: b) := ((hb.cons 32 (by decide)).cons 35 (by decide)).cons 32 (by decide)
  unfold twoT
  rw [linesS_line _ _ (by decide) rfl, linesS_line _ _ (no10_92 _ h1) (no13_92 _)]
  cases c with
  | false =>
    simp only [Bool.false_eq_true, if_false, List.nil_append]
    rw [linesS_line _ _ hy.no hy.end13, linesS_line _ _ (by decide) rfl]
    rfl
  | true =>
    simp only [if_true, List.append_assoc, List.cons_append, List.nil_append]
    have e1 : (32 :: 35 :: 32 :: (b ++ 92 :: 10 :: 59 :: 10 :: (y ++ 10 :: (zedL ++ [10]))) : Str) = (32 :: 35 :: 32 :: b ++ [92]) ++ 10 :: ([59] ++ 10 :: (y ++ 10 :: (zedL ++ 10 :: []))) := by simp
    rw [e1, linesS_line _ _ (no10_92 _ h2) (no13_92 _), linesS_line _ _ (by decide) rfl, linesS_line _ _ hy.no hy.end13, linesS_line _ _ (by decide) rfl]
    simp
    rfl
theorem dwl_all {f : Str → Bool} : ∀ (l : List Str), l.all f = true → l.dropWhile f = []
  | [], _ => rfl
  | a :: l, h => by
    simp only [List.all_cons, Bool.and_eq_true] at h
    rw [List.dropWhile_cons_of_pos h.1, dwl_all l h.2]
/-- What both answer. -/
def ansS (x y : Str) (m : Nat) : List Ent × List (Nat × Bool) := ([(2, [83], [107], trimS (x ++ 32 :: y)), (m, [83], [122], [49])], [])
theorem step_sec (m : Nat) : stepS ([], [], []) (m, secL) = ([83], [], []) := rfl
theorem step_zed (m : Nat) (l : List Ent) : stepS ([83], l, []) (m, zedL) = ([83], l ++ [(m, [83], [122], [49])], []) := rfl
theorem trim_kx (z : Str) : ∃ r, trimS (kxS z) = 107 :: 61 :: r ∧ trimS r = trimS z := by
  have h1 : (kxS z).dropWhile blkB = kxS z := rfl
  unfold trimS at *
  rw [h1]
  unfold kxS
  rw [rs_cons, rs_cons]
  by_cases h : (z.reverse.dropWhile blkB).reverse = []
  · rw [if_pos h]
    refine ⟨[], rfl, ?_⟩
    have h2 := lr_strip z
    rw [h] at h2
    rw [← h2]
    rfl
  · rw [if_neg h]
    simp only [List.cons_ne_nil, if_false, reduceCtorEq]
    refine ⟨(z.reverse.dropWhile blkB).reverse, rfl, ?_⟩
    rw [← lr_strip, ← lr_strip]
    rw [List.reverse_reverse, dw_dw]
theorem step_kx (m : Nat) (z : Str) (hz : z.length ≤ 4000) : stepS ([83], [], []) (m, trimS (kxS z)) = ([83], [(m, [83], [107], trimS z)], []) := by
  obtain ⟨r, h1, h2⟩ := trim_kx z
  have hl := trimS_len (kxS z)
  rw [h1] at hl ⊢
  simp only [kxS, List.length_cons] at hl
  unfold stepS
  simp only
  rw [if_neg (by simp only [List.length_cons]; omega)]
  have hh : headS (107 :: 61 :: r) = false := rfl
  have ht : (107 :: 61 :: r : Str).takeWhile (· != 61) = [107] := rfl
  have hd : ((107 :: 61 :: r : Str).dropWhile (· != 61)).drop 1 = r := rfl
  have hc : (107 :: 61 :: r : Str).contains 61 = true := by simp
  have hf : ((107 :: 61 :: r : Str).head? == some 91) = false := rfl
  have hk : keyS (trimS [107]) = true := rfl
  have hk2 : trimS ([107] : Str) = [107] := rfl
  rw [hh, hf, hc, ht, hd, hk, hk2, h2]
  rfl
theorem one_val (x y : Str) (hx : Pln x) (hy : Pln y) (hl : x.length + y.length ≤ 3000) : parseS (oneT x y) = ansS x y 3 := by
  unfold parseS
  rw [oneT_lines x y hx hy]
  have h1 : Pln (kxS x ++ 32 :: y) := ((hx.cons 61 (by decide)).cons 107 (by decide)).append (hy.cons 32 (by decide))
  have e1 : kxS x ++ 32 :: y = kxS (x ++ 32 :: y) := rfl
  rw [show ([secL, kxS x ++ 32 :: y, zedL, []] : List Str).length = 4 from rfl, runS_line 4 4 _ _ _ rfl rfl, runS_line 4 3 (kxS x ++ 32 :: y) _ _ (first_skip _ 107 (61 :: (x ++ 32 :: y)) rfl rfl rfl) h1.end92, runS_line 4 2 _ _ _ rfl rfl, runS_skip 4 1 _ _ _ rfl]
  rw [show trimS secL = secL from rfl, step_sec, e1, step_kx _ _ (by simp; omega), show trimS zedL = zedL from rfl, step_zed]
  rfl
theorem two_val (x y b : Str) (c : Bool) (hx : Pln x) (hy : Pln y) (hb : Pln b) (c0 : UInt8) (y' : Str) (hy0 : y = c0 :: y') (hc0 : blkB c0 = false) (hc1 : (c0 == 35 || c0 == 59) = false) (hl : x.length + y.length ≤ 3000) : parseS (twoT x y b c) = ansS x y (if c then 6 else 4) := by
  unfold parseS
  rw [twoT_lines x y b c hx hy hb]
  have hcy : cmtS y = false := by rw [first_cmt y c0 y' hy0 hc0, hc1]
  have h92 : endS 92 (kxS x ++ [92]) = true := endS_snoc _ _
  have hdl : (kxS x ++ [92]).dropLast = kxS x := List.dropLast_concat
  have hc : ∀ pre : List Str, pre.all cmtS = true → contS (kxS x ++ [92]) (pre ++ [y, zedL, []]) = (kxS (x ++ 32 :: y), [zedL, []]) := by
    intro pre hpre
    rw [contS_yes _ h92]
    have : (pre ++ [y, zedL, []]).dropWhile cmtS = [y, zedL, []] := by
      rw [List.dropWhile_append, dwl_all pre hpre]
      simp only [List.isEmpty_nil, if_true]
      rw [List.dropWhile_cons_of_neg (by simp [hcy])]
    rw [this]
    simp only
    rw [contS_no y _ hy.end92, hdl]
    rfl
  have run : ∀ (pre : List Str) (k : Nat), pre.all cmtS = true → pre.length + 2 ≤ k → runS (pre.length + 5) (k + 3) (secL :: (kxS x ++ [92]) :: (pre ++ [y, zedL, []])) ([], [], []) = ([83], (ansS x y (pre.length + 4)).1, []) := by
    intro pre k hpre hk
    obtain ⟨k, rfl⟩ : ∃ j, k = j + 1 := ⟨k - 1, by omega⟩
    rw [runS_line _ _ secL _ _ rfl rfl, runS_any _ _ (kxS x ++ [92]) _ _ (first_skip _ 107 _ rfl rfl rfl), hc pre hpre]
    simp only
    rw [show trimS secL = secL from rfl, step_sec, step_kx _ _ (by simp; omega), runS_line _ _ zedL _ _ rfl rfl, show trimS zedL = zedL from rfl, step_zed, runS_skip _ _ [] _ _ rfl]
    have e : pre.length + 5 - (pre ++ [y, zedL, []]).length = 2 := by simp only [List.length_append, List.length_cons, List.length_nil]; omega
    rw [e, show pre.length + 5 - ([[]] : List Str).length = pre.length + 4 by simp]
    unfold runS
    cases k <;> rfl
  cases c with
  | false =>
    have := run [] 3 rfl (by simp)
    simpa [ansS] using congrArg Prod.snd this
  | true =>
    have hcb : cmtS (32 :: 35 :: 32 :: b ++ [92]) = true := by
      have h1 : trimS (32 :: 35 :: 32 :: b ++ [92]) = trimS (35 :: 32 :: b ++ [92]) := rfl
      have h2 := first_cmt (35 :: 32 :: b ++ [92]) 35 _ rfl rfl
      unfold cmtS at h2 ⊢
      rw [h1]
      exact h2
    have := run [32 :: 35 :: 32 :: b ++ [92], [59]] 5 (by simp only [List.all_cons, hcb, List.all_nil]; rfl) (by simp)
    simpa [ansS] using congrArg Prod.snd this

/-! ### the law -/
theorem join_j2 (n : Nat) (b z : Str) (c : Bool) (hn : b.length < n) (hb : b.length ≤ 200) (hz : z.length ≤ 4000) :
    clepsydralaw11_LinesJoined_j2 n b c z = some (z ++ (if c then (32 :: 35 :: 32 :: b.filter plnB ++ [92]) ++ 10 :: ([59] ++ 10 :: []) else [])) := by
  unfold clepsydralaw11_LinesJoined_j2 clepsydralaw11_LinesJoined_j2_b
  cases c with
  | false => simp
  | true =>
    have lb : (b.filter plnB).length ≤ b.length := List.length_filter_le _ _
    rw [cond_true, cond_pos (by simp only [List.length_cons, List.length_nil]; omega), pln_val n b (by omega) hn]
    simp only [Option.bind_some]
    rw [cond_pos (by simp only [List.length_append, List.length_cons, List.length_nil]; omega), cond_pos (by simp only [List.length_append, List.length_cons, List.length_nil]; omega)]
    simp
theorem LinesJoined_law (n : Nat) (hn : 131072 ≤ n) (a b : Str) (c : Bool) : clepsydralaw11_LinesJoined_f n a b c = some true := by
  unfold clepsydralaw11_LinesJoined_f clepsydralaw11_LinesJoined_b
  have hj3 : clepsydralaw11_LinesJoined_j3 n a b = some (decide (200 < a.length) || decide (200 < b.length)) := by
    unfold clepsydralaw11_LinesJoined_j3 clepsydralaw11_LinesJoined_j3_b
    by_cases h1 : 200 < a.length
    · rw [cond_pos (by omega), decide_eq_true h1]; rfl
    · rw [cond_neg (by omega), decide_eq_false h1, Bool.false_or]
      congr 1
      rw [decide_eq_decide]
      omega
  rw [hj3]
  simp only [Option.bind_some]
  by_cases h : 200 < a.length ∨ 200 < b.length
  · rw [show (decide (200 < a.length) || decide (200 < b.length)) = true by simpa using h, cond_true, works_val n hn]; rfl
  · rw [show (decide (200 < a.length) || decide (200 < b.length)) = false by simpa using h, cond_false]
    rw [pln_val n a (by omega) (by omega)]
    simp only [Option.bind_some]
    rw [pln_val n b (by omega) (by omega)]
    have ha := pln_filter a
    have hb := pln_filter b
    have la : (a.filter plnB).length ≤ a.length := List.length_filter_le _ _
    have lb : (b.filter plnB).length ≤ b.length := List.length_filter_le _ _
    have hj2 := fun z hz => join_j2 n b z c (by omega) (by omega) hz
    generalize a.filter plnB = x at *
    generalize b.filter plnB = y at *
    have hx : Pln (120 :: x) := ha.cons 120 (by decide)
    have hy : Pln (121 :: y) := hb.cons 121 (by decide)
    have p0 : (([120] : Str) ++ x).length ≤ 201 := by simp; omega
    have q0 : (([121] : Str) ++ y).length ≤ 201 := by simp; omega
    have w1 := two_val (120 :: x) (121 :: y) y c hx hy hb 121 y rfl rfl rfl (by simp; omega)
    have w2 := one_val (120 :: x) (121 :: y) hx hy (by simp; omega)
    have t1 : twoT (120 :: x) (121 :: y) y c = ((((([91, 83, 93, 10, 107, 61] : Str) ++ (([120] : Str) ++ x)) ++ ([92, 10] : Str)) ++ (if c then (32 :: 35 :: 32 :: y ++ [92]) ++ 10 :: ([59] ++ 10 :: []) else [])) ++ (([121] : Str) ++ y)) ++ ([10, 122, 61, 49, 10] : Str) := by
      cases c <;> simp [twoT, secL, kxS, zedL]
    have t2 : oneT (120 :: x) (121 :: y) = ((((([91, 83, 93, 10, 107, 61] : Str) ++ (([120] : Str) ++ x)) ++ ([32] : Str)) ++ (([121] : Str) ++ y)) ++ ([10, 122, 61, 49, 10] : Str)) := by
      simp [oneT, secL, kxS, zedL]
    have l3 : (if c then (32 :: 35 :: 32 :: y ++ [92]) ++ 10 :: ([59] ++ 10 :: []) else [] : Str).length ≤ 300 := by cases c <;> simp; omega
    generalize (if c then (32 :: 35 :: 32 :: y ++ [92]) ++ 10 :: ([59] ++ 10 :: []) else [] : Str) = pre at *
    rw [cond_pos (by simp; omega)]
    simp only [Option.bind_some]
    generalize ([120] : Str) ++ x = X at *
    generalize ([121] : Str) ++ y = Y at *
    rw [cond_pos (by simp; omega), cond_pos (by simp; omega), cond_pos (by simp; omega), hj2 _ (by simp; omega)]
    simp only [Option.bind_some]
    rw [cond_pos (by simp; omega), cond_pos (by simp; omega), ← t1, Parse_val n _ hn (by rw [intsOf_length, t1]; simp; omega), strOf_intsOf, w1]
    simp only [Option.bind_some]
    rw [cond_pos (by simp; omega), cond_pos (by simp; omega), cond_pos (by simp; omega), cond_pos (by simp; omega), ← t2, Parse_val n _ hn (by rw [intsOf_length, t2]; simp; omega), strOf_intsOf, w2]
    simp only [Option.bind_some]
    have hw := works_val n hn
    cases c <;> simp [ansS, entV, clepsydralaw11_LinesJoined_j1, clepsydralaw11_LinesJoined_j1_b, clepsydralaw11_LinesJoined_j0, clepsydralaw11_LinesJoined_j0_b, unc, unn, getI, getT, hw]
end Go.Proofs.YtikiibnmhmioiaaDoor.H

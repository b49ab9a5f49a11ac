/- Chapter 11: the closed statement. -/
import Derived.Test.YtikiibnmhmioiaaDoorU5
import Derived.Test.YtikiibnmhmioiaaDoorU7
import Derived.Test.YtikiibnmhmioiaaDoorT4
import Derived.KernelRfl
namespace Go.Proofs.YtikiibnmhmioiaaDoor.H
open Go.Sh Go.RowKit
set_option linter.unusedSimpArgs false
set_option linter.unusedVariables false
set_option maxRecDepth 100000

theorem known_j1 (n : Nat) (hn : 131072 ≤ n) (s : Str) : clepsydralaw11_LinesKnown_j1 n s = some false := by
  unfold clepsydralaw11_LinesKnown_j1 clepsydralaw11_LinesKnown_j1_b
  rw [LinesParse_law n hn, LinesBack_law n hn, LinesPassed_law n hn]
  rfl
theorem known_l1 (n : Nat) (hn : 131072 ≤ n) (ls : List Str) (hl : ls.length < 4294967296) : ∀ (m i : Nat), ls.length - i < m →
    clepsydralaw11_LinesKnown_l1 n m ls (ls.length : Int) (i : Int) = some (.inr ())
  | 0, i, hm => by omega
  | m + 1, i, hm => by
    rw [clepsydralaw11_LinesKnown_l1, clepsydralaw11_LinesKnown_l1_b]
    by_cases hi : i < ls.length
    · rw [cond_pos (by omega), cond_pos (by omega), Int.toNat_natCast, List.getElem?_eq_getElem hi]
      simp only [Option.bind_some]
      rw [known_j1 n hn]
      simp only [Option.bind_some, cond_false]
      rw [wrap1 i (by omega), known_l1 n hn ls hl m (i + 1) (by omega)]
    · rw [cond_neg (by omega)]
def xsS (k : Nat) : Str := List.replicate k 120
theorem xsS_len (k : Nat) : (xsS k).length = k := List.length_replicate ..
theorem xsS_two (k : Nat) : xsS k ++ xsS k = xsS (k + k) := List.replicate_append_replicate
theorem l0_eq (n m : Nat) (x : Str) : clepsydralaw11_LinesKnown_l0 n (m + 1) x = cond (decide ((x.length : Int) < (4096 : Int))) (cond (decide (x.length + x.length ≤ 9223372036854775807)) (clepsydralaw11_LinesKnown_l0 n m (x ++ x)) none) (some x) := by kernel_rfl
theorem known_l0 (n : Nat) : ∀ (m k e : Nat), 13 - e < m → e ≤ 12 → k = 2 ^ e → clepsydralaw11_LinesKnown_l0 n m (xsS k) = some (xsS (2 ^ 12))
  | 0, k, e, hm, _, _ => by omega
  | m + 1, k, e, hm, he, hk => by
    have hl := xsS_len k
    have h2 := xsS_two k
    have hp : k ≤ 2 ^ 12 := by rw [hk]; exact Nat.pow_le_pow_right (by omega) he
    refine (l0_eq n m (xsS k)).trans ?_
    by_cases h : e = 12
    · have hk2 : k = 2 ^ 12 := by rw [hk, h]
      refine (cond_neg (by omega) _ _).trans ?_
      rw [hk2]
    · have hp2 : k ≤ 2 ^ 11 := by rw [hk]; exact Nat.pow_le_pow_right (by omega) (by omega)
      refine (cond_pos (by omega) _ _).trans ?_
      refine (cond_pos (by omega) _ _).trans ?_
      refine (congrArg (clepsydralaw11_LinesKnown_l0 n m) h2).trans ?_
      exact known_l0 n m (k + k) (e + 1) (by omega) (by omega) (by rw [hk, Nat.pow_succ]; omega)

/-! ### long lines -/
theorem no10_rep (k : Nat) (c : UInt8) (hc : c ≠ 10) : (10 : UInt8) ∉ List.replicate k c := fun h => by
  rw [List.mem_replicate] at h
  exact hc h.2.symm
theorem rows_one (s : Str) (h : (10 : UInt8) ∉ s) : rowsS s = [s] := by
  induction s with
  | nil => rfl
  | cons c t ih =>
    simp only [List.mem_cons, not_or] at h
    rw [rowsS, if_neg (Ne.symm h.1), ih h.2]
theorem last_rep (k : Nat) (s : Str) (c : UInt8) : (s ++ List.replicate (k + 1) c).getLast? = some c := by
  rw [List.replicate_succ', ← List.append_assoc, List.getLast?_concat]
/-- A section, then a line that ends in none of what is looked for. -/
theorem parse_sec (p : Str) (c : UInt8) (k : Nat) (q : Str) (hp : p = q ++ List.replicate (k + 1) c) (h10 : (10 : UInt8) ∉ p) (hc : c ≠ 13 ∧ c ≠ 92 ∧ blkB c = false) (d : UInt8) (r : Str) (hd : p = d :: r) (hdb : blkB d = false) (hd2 : (d == 35 || d == 59) = false) :
    parseS (91 :: 65 :: 93 :: 10 :: p) = (stepS ([65], [], []) (2, p)).2 := by
  have hlast : p.getLast? = some c := by rw [hp]; exact last_rep k q c
  have h13 : endS 13 p = false := by unfold endS; rw [hlast]; simpa using hc.1
  have h92 : endS 92 p = false := by unfold endS; rw [hlast]; simpa using hc.2.1
  have htr : trimS p = p := trimS_keep p (fun x hx => by rw [hd] at hx; injection hx with hx; rw [← hx, hdb]) (fun x hx => by rw [hlast] at hx; injection hx with hx; rw [← hx, hc.2.2])
  have hsk : skipS p = false := line_skip p d r htr hd hd2
  have hl : linesS (91 :: 65 :: 93 :: 10 :: p) = [[91, 65, 93], p] := by
    have := linesS_line [91, 65, 93] p (by decide) rfl
    rw [show (91 :: 65 :: 93 :: 10 :: p : Str) = [91, 65, 93] ++ 10 :: p from rfl, this]
    unfold linesS
    rw [rows_one p h10, List.map_cons, cutE, h13]
    rfl
  unfold parseS
  rw [hl, show ([[91, 65, 93], p] : List Str).length = 2 from rfl, runS_line 2 2 _ _ _ rfl rfl, show trimS [91, 65, 93] = [91, 65, 93] from rfl, show stepS ([], [], []) (2 - ([p] : List Str).length, [91, 65, 93]) = ([65], [], []) from rfl, runS_line 2 1 p [] _ hsk h92, htr]
  rfl
theorem big_kx (z : Str) (hz : 4094 < z.length) (st : Sta) (m : Nat) : stepS st (m, 107 :: 61 :: z) = (st.1, st.2.1, st.2.2 ++ [(m, true)]) := by
  unfold stepS
  exact if_pos (by simp only [List.length_cons]; omega)
theorem fit_kx (z : Str) (hz : z.length ≤ 4094) (m : Nat) : stepS ([65], [], []) (m, 107 :: 61 :: z) = ([65], [(m, [65], [107], trimS z)], []) := by
  have hh : headS (107 :: 61 :: z) = false := rfl
  have ht : (107 :: 61 :: z : Str).takeWhile (· != 61) = [107] := rfl
  have hd : ((107 :: 61 :: z : Str).dropWhile (· != 61)).drop 1 = z := rfl
  have hc : (107 :: 61 :: z : Str).contains 61 = true := by simp
  have hf : ((107 :: 61 :: z : Str).head? == some 91) = false := rfl
  have hk : keyS (trimS [107]) = true := rfl
  have hk2 : trimS ([107] : Str) = [107] := rfl
  unfold stepS
  simp only
  rw [if_neg (by simp only [List.length_cons]; omega), hh, hf, hc, ht, hd, hk, hk2]
  rfl
theorem parse_zero (k : Nat) (hk : 4096 < k + 1) : parseS (List.replicate (k + 1) 0) = ([], [(1, true)]) := by
  have h10 := no10_rep (k + 1) 0 (by decide)
  have hlast : (List.replicate (k + 1) (0 : UInt8)).getLast? = some 0 := last_rep k [] 0
  have h13 : endS 13 (List.replicate (k + 1) (0 : UInt8)) = false := by unfold endS; rw [hlast]; rfl
  have h92 : endS 92 (List.replicate (k + 1) (0 : UInt8)) = false := by unfold endS; rw [hlast]; rfl
  have htr : trimS (List.replicate (k + 1) (0 : UInt8)) = List.replicate (k + 1) 0 := trimS_keep _ (fun x hx => by rw [List.replicate_succ] at hx; injection hx with hx; rw [← hx]; rfl) (fun x hx => by rw [hlast] at hx; injection hx with hx; rw [← hx]; rfl)
  have hsk : skipS (List.replicate (k + 1) (0 : UInt8)) = false := line_skip _ 0 (List.replicate k 0) htr rfl rfl
  have hlen : (List.replicate (k + 1) (0 : UInt8)).length = k + 1 := by simp
  generalize List.replicate (k + 1) (0 : UInt8) = p at *
  have hl : linesS p = [p] := by
    unfold linesS
    rw [rows_one p h10, List.map_cons, cutE, h13]
    rfl
  unfold parseS
  rw [hl, show ([p] : List Str).length = 1 from rfl, runS_line 1 1 p [] _ hsk h92, htr]
  have : stepS ([], [], []) (1 - ([] : List Str).length, p) = ([], [], [(1, true)]) := by
    unfold stepS
    exact if_pos (by simp only; omega)
  rw [this]
  rfl
theorem strOf_rep (k : Nat) : strOf (List.replicate k 0) = List.replicate k 0 := by
  unfold strOf
  rw [List.map_replicate]
  rfl
theorem LinesKnown_law (n : Nat) (hn : 131072 ≤ n) : clepsydralaw11_LinesKnown_f n = some true := by
  unfold clepsydralaw11_LinesKnown_f clepsydralaw11_LinesKnown_b
  have h1 := known_l1 n hn clepsydralaw11_LinesKnown_c0 (by decide) n 0 (by have h27 : clepsydralaw11_LinesKnown_c0.length = 27 := (by decide); omega)
  rw [show clepsydralaw11_LinesKnown_l1 n n clepsydralaw11_LinesKnown_c0 (clepsydralaw11_LinesKnown_c0.length : Int) (0 : Int) = some (.inr ()) from h1]
  simp only [Option.bind_some, Sum.elim_inr]
  have h0 := known_l0 n n 1 0 (by omega) (by omega) rfl
  rw [show (2 : Nat) ^ 12 = 4096 from rfl] at h0
  rw [show ([120] : Str) = xsS 1 from rfl, h0]
  have hxl : (xsS 4096).length = 4096 := List.length_replicate ..
  simp only [Option.bind_some]
  have ex : (xsS 4096).take 4094 = xsS 4094 := by unfold xsS; rw [List.take_replicate]; rfl
  have hxl2 : (xsS 4094).length = 4094 := List.length_replicate ..
  rw [List.drop_zero, ex]
  have p1 : parseS ([91, 65, 93, 10, 107, 61] ++ xsS 4096) = ([], [(2, true)]) := by
    have := parse_sec (107 :: 61 :: xsS 4096) 120 4095 [107, 61] rfl (by
      simp only [List.mem_cons, not_or]
      exact ⟨by decide, by decide, no10_rep _ _ (by decide)⟩) (by decide) 107 (61 :: xsS 4096) rfl rfl rfl
    rw [show ([91, 65, 93, 10, 107, 61] ++ xsS 4096 : Str) = 91 :: 65 :: 93 :: 10 :: 107 :: 61 :: xsS 4096 from rfl, this, big_kx _ (by omega)]
    rfl
  have p2 : ∃ v, parseS ([91, 65, 93, 10, 107, 61] ++ xsS 4094) = ([(2, [65], [107], v)], []) := by
    have := parse_sec (107 :: 61 :: xsS 4094) 120 4093 [107, 61] rfl (by
      simp only [List.mem_cons, not_or]
      exact ⟨by decide, by decide, no10_rep _ _ (by decide)⟩) (by decide) 107 (61 :: xsS 4094) rfl rfl rfl
    refine ⟨trimS (xsS 4094), ?_⟩
    rw [show ([91, 65, 93, 10, 107, 61] ++ xsS 4094 : Str) = 91 :: 65 :: 93 :: 10 :: 107 :: 61 :: xsS 4094 from rfl, this, fit_kx _ (by omega)]
  obtain ⟨v, p2⟩ := p2
  generalize xsS 4096 = X at *
  generalize xsS 4094 = Y at *
  rw [cond_pos (by rw [hxl]; decide), Parse_val n _ hn (by rw [intsOf_length, List.length_append, hxl]; decide), strOf_intsOf, p1]
  simp only [Option.bind_some]
  rw [cond_pos (by rw [hxl]; decide), cond_pos (by rw [hxl2]; decide), Parse_val n _ hn (by rw [intsOf_length, List.length_append, hxl2]; decide), strOf_intsOf, p2]
  simp only [Option.bind_some]
  have hj0 : clepsydralaw11_LinesKnown_j0 n (([(2, true)] : List (Nat × Bool)).map badV) (([(2, [65], [107], v)] : List Ent).map entV) (([] : List (Nat × Bool)).map badV) = some false := rfl
  rw [hj0]
  simp only [Option.bind_some, cond_false]
  have hbig : ∀ z : List Int, z.length = 65537 → lines_Parse_f n z = some (([] : List (List AV)), [[.int .i64 0, .int .i64 3]]) := fun z hz => by
    unfold lines_Parse_f lines_Parse_b
    rw [cond_pos (by omega)]
  rw [hbig _ (List.length_replicate ..), Parse_val n (List.replicate 65536 0) hn (by rw [List.length_replicate]; exact Nat.le_refl _), strOf_rep, parse_zero 65535 (by omega)]
  simp only [Option.bind_some]
  simp [badV, unc, unn, getI, works_val n hn]
end Go.Proofs.YtikiibnmhmioiaaDoor.H

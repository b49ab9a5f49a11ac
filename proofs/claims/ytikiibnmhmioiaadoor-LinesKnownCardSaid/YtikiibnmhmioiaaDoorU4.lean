/- Chapter 11: the program's Parse and the reference's answer alike. -/
import Derived.Test.YtikiibnmhmioiaaDoorU3
namespace Go.Proofs.YtikiibnmhmioiaaDoor.H
open Go.Sh Go.RowKit
set_option linter.unusedSimpArgs false
set_option linter.unusedVariables false

/-! ### an example -/
theorem works_val (n : Nat) (hn : 131072 ≤ n) : clepsydralaw11_works_f n = some true := by
  unfold clepsydralaw11_works_f clepsydralaw11_works_b
  rw [Parse_val n _ hn (by decide), Parse_val n _ hn (by decide)]
  have h1 : parseS (strOf clepsydralaw11_works_c0) = ([(2, [65], [107], [118, 32, 119])], []) := by decide +kernel
  have h2 : parseS (strOf [107, 61, 49]) = ([], [(1, false)]) := by decide +kernel
  rw [h1, h2]
  decide +kernel

/-! ### the reference -/
def badR (e : Nat × Bool) : List AV := [.int .i64 (e.1 : Int), .bool e.2]
theorem snoc_badR (bs : List (Nat × Bool)) (N : Nat) (b : Bool) : bs.map badR ++ ([[.int .i64 (N : Int), .bool b]] : List (List AV)) = (bs ++ [(N, b)]).map badR := by simp [badR]
theorem rl3_val (n : Nat) (L : List Str) (hL : sz L < 4294967296) (hn : sz L + 2 < n) : ∀ (m i : Nat), L.length - i < m → i ≤ L.length →
    ∃ j : Nat, clepsydraref11_Parse_l3 n m L (i : Int) = some (j : Int) ∧ L.drop j = (L.drop i).dropWhile cmtS ∧ i ≤ j ∧ j ≤ L.length
  | 0, i, hm, _ => by omega
  | m + 1, i, hm, hi => by
    have hLl := len_sz L
    rw [clepsydraref11_Parse_l3, clepsydraref11_Parse_l3_b]
    unfold clepsydraref11_Parse_j3 clepsydraref11_Parse_j3_b
    cases hd : L.drop i with
    | nil =>
      have := drop_nil hd
      rw [cond_neg (by omega)]
      exact ⟨i, rfl, by rw [hd]; rfl, Nat.le_refl _, hi⟩
    | cons p r =>
      obtain ⟨e1, e2, e3⟩ := drop_cons hd
      have hp : p.length + 1 ≤ sz L := by
        have := sz_drop L i
        rw [hd, sz_cons] at this
        omega
      rw [cond_pos (by omega), cond_pos (by omega), Int.toNat_natCast, e1]
      simp only [Option.bind_some]
      rw [rcomment_val n p (by omega) (by omega)]
      simp only [Option.bind_some]
      cases hc : cmtS p with
      | false =>
        rw [cond_false, List.dropWhile_cons_of_neg (by simp [hc])]
        exact ⟨i, rfl, hd, Nat.le_refl _, hi⟩
      | true =>
        obtain ⟨j, k1, k2, k3, k4⟩ := rl3_val n L hL hn m (i + 1) (by omega) (by omega)
        rw [cond_true, wrap1 i (by omega), k1, List.dropWhile_cons_of_pos hc]
        exact ⟨j, rfl, by rw [k2, e2], by omega, k4⟩
theorem endS_app (c : UInt8) (d p : Str) : endS c (d ++ p) = if p = [] then endS c d else endS c p := by
  unfold endS
  split
  · rename_i h; rw [h, List.append_nil]
  · rename_i h
    obtain ⟨z, hz⟩ : ∃ z, p.getLast? = some z := by
      cases h' : p.getLast? with
      | none => exact absurd (List.getLast?_eq_none_iff.1 h') h
      | some z => exact ⟨z, rfl⟩
    rw [List.getLast?_append, hz]
    rfl
theorem rj4_val (n : Nat) (s : Str) (hs : s.length < 9223372036854775807) : clepsydraref11_Parse_j4 n s = some (endS 92 s) := by
  unfold clepsydraref11_Parse_j4 clepsydraref11_Parse_j4_b
  by_cases h : s = []
  · subst h; rfl
  · have hl : 1 ≤ s.length := by cases s with | nil => exact absurd rfl h | cons => simp
    obtain ⟨z, hz⟩ : ∃ z, s.getLast? = some z := by
      cases h' : s.getLast? with
      | none => exact absurd (List.getLast?_eq_none_iff.1 h') h
      | some z => exact ⟨z, rfl⟩
    rw [cond_pos (by omega), sub1 _ hl (by omega), cond_pos (by omega), Int.toNat_natCast, ← getLast_get, hz]
    simp only [Option.bind_some]
    have e2 : ((z.toNat : Int) == 92) = (z == 92) := beq_byte z 92
    rw [e2, endS, hz]
    rfl
theorem rl2_val (n : Nat) (L : List Str) (hL : sz L < 4294967296) (hn : sz L + 2 < n) : ∀ (m i : Nat) (p : Str) (r : List Str) (d : Str), L.length + 1 - i < m → L.drop i = p :: r → endS 92 d = false → d.length + p.length + sz r ≤ 4294967296 →
    ∃ j : Nat, clepsydraref11_Parse_l2 n m L (i : Int) (d ++ p) = some ((j : Int), d ++ (contS p r).1) ∧ L.drop (j + 1) = (contS p r).2 ∧ i ≤ j ∧ j ≤ L.length
  | 0, i, p, r, d, hm, hd, _, _ => by have := (drop_cons hd).2.2; omega
  | m + 1, i, p, r, d, hm, hd, hde, hb => by
    have hLl := len_sz L
    obtain ⟨e1, e2, e3⟩ := drop_cons hd
    rw [clepsydraref11_Parse_l2, clepsydraref11_Parse_l2_b, rj4_val n _ (by simp; omega)]
    simp only [Option.bind_some]
    have hee : endS 92 (d ++ p) = endS 92 p := by
      rw [endS_app]
      split
      · rename_i h; rw [hde, h]; rfl
      · rfl
    rw [hee]
    cases he : endS 92 p with
    | false =>
      rw [contS_no p r he]
      exact ⟨i, rfl, e2, Nat.le_refl _, by omega⟩
    | true =>
      have hpos := endS_pos he
      have hne : p ≠ [] := by intro h; rw [h] at hpos; simp at hpos
      have hlen : (d ++ p).length = d.length + p.length := List.length_append
      have hbase : ((d ++ p).take ((d ++ p).length - 1)).drop 0 = d ++ p.dropLast := by
        rw [List.drop_zero, ← List.dropLast_eq_take, List.dropLast_append_of_ne_nil hne]
      have hdl : p.dropLast.length = p.length - 1 := by simp
      rw [cond_true, sub1 _ (by omega) (by omega), cond_pos (by omega), cond_pos (by omega), Int.toNat_natCast, hbase, cond_pos (by simp only [List.length_append, List.length_singleton]; omega)]
      obtain ⟨j, k1, k2, k3, k4⟩ := rl3_val n L hL hn n (i + 1) (by omega) (by omega)
      rw [wrap1 i (by omega), k1]
      simp only [Option.bind_some]
      rw [contS_yes p he r]
      rw [e2] at k2
      have hd2 : endS 92 (d ++ p.dropLast ++ [32]) = false := by rw [endS_app, if_neg (by simp)]; rfl
      cases hr : r.dropWhile cmtS with
      | nil =>
        rw [hr] at k2
        have := drop_nil k2
        rw [cond_neg (by omega)]
        obtain ⟨m, rfl⟩ : ∃ k, m = k + 1 := ⟨m - 1, by omega⟩
        rw [clepsydraref11_Parse_l2, clepsydraref11_Parse_l2_b, rj4_val n _ (by simp; omega)]
        simp only [Option.bind_some]
        rw [hd2]
        refine ⟨j, ?_, ?_, by omega, k4⟩
        · rw [List.append_assoc]; rfl
        · rw [List.drop_eq_nil_of_le (by omega)]
      | cons q r' =>
        rw [hr] at k2
        obtain ⟨q1, q2, q3⟩ := drop_cons k2
        have hsz : q.length + 1 + sz r' ≤ sz r := by
          rw [← sz_cons, ← hr]
          exact sz_dw r
        obtain ⟨j', z1, z2, z3, z4⟩ := rl2_val n L hL hn m j q r' (d ++ p.dropLast ++ [32]) (by omega) k2 hd2 (by simp only [List.length_append, List.length_singleton]; omega)
        rw [cond_pos (by omega), cond_pos (by omega), Int.toNat_natCast, q1]
        simp only [Option.bind_some]
        rw [cond_pos (by simp only [List.length_append, List.length_singleton]; omega), z1]
        refine ⟨j', ?_, z2, by omega, z4⟩
        simp only [List.append_assoc, List.singleton_append, List.cons_append, List.nil_append]
theorem rl1_val (n : Nat) (s : Str) (hs : s.length < 9223372036854775807) : ∀ (m i : Nat), s.length - i < m → i ≤ s.length →
    clepsydraref11_Parse_l1 n m s (i : Int) = some ((i + ((s.drop i).takeWhile (· != 61)).length : Nat) : Int)
  | 0, i, hm, _ => by omega
  | m + 1, i, hm, hi => by
    rw [clepsydraref11_Parse_l1, clepsydraref11_Parse_l1_b]
    unfold clepsydraref11_Parse_j2 clepsydraref11_Parse_j2_b
    cases hd : s.drop i with
    | nil =>
      have := drop_nil hd
      rw [cond_neg (by omega)]
      simp
    | cons c r =>
      obtain ⟨e1, e2, e3⟩ := drop_cons hd
      rw [cond_pos (by omega), cond_pos (by omega), Int.toNat_natCast, e1]
      have e4 : ((c.toNat : Int) != 61) = (c != 61) := bne_byte c 61
      simp only [Option.bind_some]
      rw [e4]
      by_cases hc : c = 61
      · subst hc
        rw [bne_self_eq_false, cond_false, List.takeWhile_cons_of_neg (by simp)]
        rfl
      · have hc' : (c != 61) = true := by simpa using hc
        rw [hc', cond_true, wrap1 i (by omega), rl1_val n s hs m (i + 1) (by omega) (by omega), e2, List.takeWhile_cons_of_pos (p := (· != 61)) hc', List.length_cons]
        congr 2
        omega
theorem contains_tw (c : UInt8) : ∀ s : Str, s.contains c = decide ((s.takeWhile (· != c)).length < s.length)
  | [] => rfl
  | b :: l => by
    by_cases h : b = c
    · subst h
      simp
    · have h2 : (b :: l).contains c = l.contains c := by rw [List.contains_cons, show (c == b) = false by simpa using Ne.symm h, Bool.false_or]
      rw [h2, contains_tw c l, List.takeWhile_cons_of_pos (by simpa using h), List.length_cons, List.length_cons]
      rw [decide_eq_decide]
      omega
theorem rj6_val (n : Nat) (L : List Str) (hL : sz L ≤ 65537) (hn : 131072 ≤ n) (i : Nat) (p : Str) (r : List Str) (hd : L.drop i = p :: r) (st : Sta) (hs : st.2.1.length + st.2.2.length ≤ 1048576) :
    if skipS p then clepsydraref11_Parse_j6 n L (st.2.1.map entV) (st.2.2.map badR) st.1 (i : Int) = some (st.2.1.map entV, st.2.2.map badR, st.1, (i : Int))
    else ∃ j : Nat, clepsydraref11_Parse_j6 n L (st.2.1.map entV) (st.2.2.map badR) st.1 (i : Int) = some ((stepS st (i + 1, trimS (contS p r).1)).2.1.map entV, (stepS st (i + 1, trimS (contS p r).1)).2.2.map badR, (stepS st (i + 1, trimS (contS p r).1)).1, (j : Int)) ∧ L.drop (j + 1) = (contS p r).2 ∧ i ≤ j ∧ j ≤ L.length := by
  have hLl := len_sz L
  obtain ⟨e1, e2, e3⟩ := drop_cons hd
  have hpr : p.length + 1 + sz r ≤ 65537 := by
    have := sz_drop L i
    rw [hd, sz_cons] at this
    omega
  have hj5 : clepsydraref11_Parse_j5 n L (i : Int) = some (skipS p) := by
    unfold clepsydraref11_Parse_j5 clepsydraref11_Parse_j5_b skipS
    rw [cond_pos (by omega), Int.toNat_natCast, e1]
    simp only [Option.bind_some]
    rw [rtrim_val n p (by omega) (by omega)]
    simp only [Option.bind_some]
    by_cases h : trimS p = []
    · rw [h]; rfl
    · rw [show (trimS p == []) = false by simpa using h, cond_false, cond_pos (by omega), rcomment_val n p (by omega) (by omega)]
      rfl
  obtain ⟨sec, es, bs⟩ := st
  simp only at hs ⊢
  unfold clepsydraref11_Parse_j6 clepsydraref11_Parse_j6_b
  rw [hj5]
  simp only [Option.bind_some]
  cases hsk : skipS p with
  | true => rfl
  | false =>
    simp only [cond_false, Bool.false_eq_true, if_false]
    rw [cond_pos (by omega), Int.toNat_natCast, e1]
    simp only [Option.bind_some]
    obtain ⟨j, k1, k2, k3, k4⟩ := rl2_val n L (by omega) (by omega) n i p r [] (by omega) hd rfl (by simp; omega)
    rw [List.nil_append, List.nil_append] at k1
    rw [k1]
    simp only [Option.bind_some]
    have hcs := contS_sz r p
    rw [rtrim_val n _ (by omega) (by omega)]
    have htl := trimS_len (contS p r).1
    generalize trimS (contS p r).1 = t at htl ⊢
    simp only [Option.bind_some]
    have hl1 := rl1_val n t (by omega) n 0 (by omega) (by omega)
    rw [List.drop_zero, Nat.zero_add] at hl1
    rw [show (0 : Int) = ((0 : Nat) : Int) by rfl, hl1]
    simp only [Option.bind_some]
    rw [rsection_val n t (by omega) (by omega)]
    simp only [Option.bind_some]
    have htw : (t.takeWhile (· != 61)).length ≤ t.length := (List.takeWhile_sublist _).length_le
    refine ⟨j, ?_, k2, k3, k4⟩
    unfold stepS
    simp only
    by_cases h1 : 4096 < t.length
    · rw [cond_pos (by omega), cond_pos (by simp; omega), if_pos h1, wrap1 i (by omega), snoc_badR bs (i + 1) true]
    · rw [cond_neg (by omega), if_neg h1]
      cases h2 : headS t with
      | true =>
        have hne : (innS t == []) = false := by
          simp only [headS, Bool.and_eq_true] at h2
          simpa using h2.2.2.1
        simp only [if_true, hne, Bool.not_false, cond_true]
      | false =>
        simp only [Bool.false_eq_true, if_false, beq_self_eq_true, Bool.not_true, cond_false]
        have hj1 : clepsydraref11_Parse_j1 n t = some (t.head? == some 91) := by
          unfold clepsydraref11_Parse_j1 clepsydraref11_Parse_j1_b
          cases t with
          | nil => rfl
          | cons b r => exact congrArg some (beq_byte b 91)
        rw [hj1]
        simp only [Option.bind_some]
        cases h3 : (t.head? == some 91) with
        | true =>
          simp only [cond_true, if_true]
          rw [cond_pos (by simp; omega), wrap1 i (by omega), snoc_badR bs (i + 1) false]
        | false =>
          simp only [cond_false, Bool.false_eq_true, if_false]
          unfold clepsydraref11_Parse_j0 clepsydraref11_Parse_j0_b
          rw [contains_tw]
          by_cases h4 : (t.takeWhile (· != 61)).length < t.length
          · rw [decide_eq_true h4, Bool.true_and, show ((((t.takeWhile (· != 61)).length : Nat) : Int) == ((t.length : Nat) : Int)) = false by simp; omega, cond_false, cond_pos (by omega), cond_pos (by omega), Int.toNat_natCast, List.drop_zero, take_tw, rtrim_val n _ (by omega) (by omega)]
            have htl2 := trimS_len (t.takeWhile (· != 61))
            simp only [Option.bind_some]
            rw [rkey_val n _ (by omega) (by omega)]
            simp only [Option.bind_some]
            cases h5 : keyS (trimS (t.takeWhile (· != 61))) with
            | false =>
              simp only [Bool.not_false, cond_true, Option.bind_some, Bool.false_and, Bool.false_eq_true, if_false]
              rw [cond_pos (by simp; omega), wrap1 i (by omega), snoc_badR bs (i + 1) false]
            | true =>
              simp only [Bool.not_true, cond_false, Option.bind_some, Bool.true_and]
              by_cases h6 : sec = []
              · subst h6
                simp only [beq_self_eq_true, cond_true, bne_self_eq_false, Bool.false_eq_true, if_false]
                rw [cond_pos (by simp; omega), wrap1 i (by omega), snoc_badR bs (i + 1) false]
              · rw [show (sec == []) = false by simpa using h6, show (sec != []) = true by simpa using h6]
                simp only [cond_false, if_true]
                rw [cond_pos (by omega), cond_pos (by omega), wrap1 _ (by omega), cond_pos (by omega), cond_pos (by omega), Int.toNat_natCast, ← List.drop_drop, drop_tw, rtrim_val n _ (by have := dw_len (p := (· != 61)) t; simp only [List.length_drop]; omega) (by have := dw_len (p := (· != 61)) t; simp only [List.length_drop]; omega)]
                simp only [Option.bind_some]
                rw [cond_pos (by simp; omega), wrap1 i (by omega), snoc_ent]
          · have : (t.takeWhile (· != 61)).length = t.length := by omega
            rw [decide_eq_false h4, this]
            simp only [beq_self_eq_true, cond_true, Option.bind_some, Bool.false_and, Bool.false_eq_true, if_false]
            rw [cond_pos (by simp; omega), wrap1 i (by omega), snoc_badR bs (i + 1) false]
theorem rl0_val (n N : Nat) (L : List Str) (hN : L.length = N) (hL : sz L ≤ 65537) (hn : 131072 ≤ n) : ∀ (m i k : Nat) (st : Sta), N + 1 - i < m → i ≤ N + 1 → N - i ≤ k → st.2.1.length + st.2.2.length + (N - i) ≤ 1048576 →
    clepsydraref11_Parse_l0 n m L (st.2.1.map entV) (st.2.2.map badR) st.1 (i : Int) = some ((runS N k (L.drop i) st).2.1.map entV, (runS N k (L.drop i) st).2.2.map badR)
  | 0, i, k, st, hm, _, _, _ => by omega
  | m + 1, i, k, st, hm, hi, hk, hs => by
    have hLl := len_sz L
    rw [clepsydraref11_Parse_l0, clepsydraref11_Parse_l0_b]
    cases hd : L.drop i with
    | nil =>
      have := drop_nil hd
      rw [cond_neg (by omega)]
      have : runS N k [] st = st := by unfold runS; cases k <;> rfl
      rw [this]
    | cons p r =>
      obtain ⟨e1, e2, e3⟩ := drop_cons hd
      have hrl : r.length = N - i - 1 := by rw [← e2, List.length_drop]; omega
      obtain ⟨k, rfl⟩ : ∃ k', k = k' + 1 := ⟨k - 1, by omega⟩
      rw [cond_pos (by omega)]
      have h6 := rj6_val n L hL hn i p r hd st (by omega)
      have hcl := contS_le r p
      unfold runS
      rw [logS]
      cases hsk : skipS p with
      | true =>
        rw [hsk, if_pos rfl] at h6
        rw [h6]
        simp only [Option.bind_some, if_true]
        rw [wrap1 i (by omega), rl0_val n N L hN hL hn m (i + 1) k st (by omega) (by omega) (by omega) (by omega), e2]
        rfl
      | false =>
        rw [hsk, if_neg (by simp)] at h6
        obtain ⟨j, k1, k2, k3, k4⟩ := h6
        have hlen := stepS_len st (i + 1, trimS (contS p r).1)
        rw [k1]
        simp only [Option.bind_some, Bool.false_eq_true, if_false]
        rw [wrap1 j (by omega), rl0_val n N L hN hL hn m (j + 1) k (stepS st (i + 1, trimS (contS p r).1)) (by omega) (by omega) (by omega) (by omega), k2, List.foldl_cons]
        rw [show N - r.length = i + 1 by omega]
        rfl
theorem rParse_val (n : Nat) (s : Str) (hn : 131072 ≤ n) (hs : s.length ≤ 65536) : clepsydraref11_Parse_f n s = some ((parseS s).1.map entV, (parseS s).2.map badR) := by
  unfold clepsydraref11_Parse_f clepsydraref11_Parse_b
  rw [rsplit_val n s (by omega) (by omega)]
  simp only [Option.bind_some]
  have hlz2 := linesS_sz s
  have hlz := len_sz (linesS s)
  have h0 := rl0_val n (linesS s).length (linesS s) rfl (by omega) hn n 0 ((linesS s).length + 1) ([], [], []) (by omega) (by omega) (by omega) (by simp; omega)
  simp only [List.map_nil, List.drop_zero] at h0
  rw [show (0 : Int) = ((0 : Nat) : Int) by rfl, h0]
  rfl

/-! ### the law -/
theorem law_l1 (n : Nat) (es : List Ent) (hs : es.length < 4294967296) : ∀ (m i : Nat), es.length - i < m →
    clepsydralaw11_LinesParse_l1 n m (es.map entV) (es.map entV) (i : Int) = some (.inr ())
  | 0, i, hm => by omega
  | m + 1, i, hm => by
    rw [clepsydralaw11_LinesParse_l1, clepsydralaw11_LinesParse_l1_b]
    cases hd : es.drop i with
    | nil =>
      have := drop_nil hd
      rw [cond_neg (by simp; omega)]
    | cons e r =>
      obtain ⟨e1, e2, e3⟩ := drop_cons hd
      have hj : clepsydralaw11_LinesParse_j2 n (es.map entV) (es.map entV) (i : Int) = some false := by
        unfold clepsydralaw11_LinesParse_j2 clepsydralaw11_LinesParse_j2_b
        have hg : (es.map entV)[(i : Int).toNat]? = some (entV e) := by rw [Int.toNat_natCast, List.getElem?_map, e1]; rfl
        obtain ⟨N, a, b, c⟩ := e
        simp only [decide_eq_true (show (0 : Int) ≤ (i : Int) by omega), cond_true]
        rw [hg]
        simp [entV, unc, unn, getI, getT]
      rw [cond_pos (by simp; omega), hj]
      simp only [Option.bind_some, cond_false]
      rw [wrap1 i (by omega), law_l1 n es hs m (i + 1) (by omega)]
theorem law_l0 (n : Nat) (bs : List (Nat × Bool)) (hs : bs.length < 4294967296) : ∀ (m i : Nat), bs.length - i < m →
    clepsydralaw11_LinesParse_l0 n m (bs.map badV) (bs.map badR) (i : Int) = some (.inr ())
  | 0, i, hm => by omega
  | m + 1, i, hm => by
    rw [clepsydralaw11_LinesParse_l0, clepsydralaw11_LinesParse_l0_b]
    cases hd : bs.drop i with
    | nil =>
      have := drop_nil hd
      rw [cond_neg (by simp; omega)]
    | cons e r =>
      obtain ⟨e1, e2, e3⟩ := drop_cons hd
      have hg : (bs.map badR)[(i : Int).toNat]? = some (badR e) := by rw [Int.toNat_natCast, List.getElem?_map, e1]; rfl
      have hg2 : (bs.map badV)[(i : Int).toNat]? = some (badV e) := by rw [Int.toNat_natCast, List.getElem?_map, e1]; rfl
      obtain ⟨N, b⟩ := e
      have hj1 : clepsydralaw11_LinesParse_j1 n (bs.map badR) (i : Int) 110 = some (if b then 3 else 110) := by
        unfold clepsydralaw11_LinesParse_j1 clepsydralaw11_LinesParse_j1_b
        rw [cond_pos (by omega), hg]
        cases b <;> simp [badR, unc, unn, getI, getB]
      have hj0 : clepsydralaw11_LinesParse_j0 n (bs.map badV) (bs.map badR) (i : Int) (if b then 3 else 110) = some false := by
        unfold clepsydralaw11_LinesParse_j0 clepsydralaw11_LinesParse_j0_b
        simp only [decide_eq_true (show (0 : Int) ≤ (i : Int) by omega), cond_true]
        rw [hg, hg2]
        cases b <;> simp [badR, badV, unc, unn, getI, getB]
      rw [cond_pos (by simp; omega), hj1]
      simp only [Option.bind_some]
      rw [hj0]
      simp only [Option.bind_some, cond_false]
      rw [wrap1 i (by omega), law_l0 n bs hs m (i + 1) (by omega)]
theorem runS_len (N : Nat) : ∀ (k : Nat) (ls : List Str) (st : Sta), (runS N k ls st).2.1.length + (runS N k ls st).2.2.length ≤ st.2.1.length + st.2.2.length + k
  | 0, _, _ => by simp [runS, logS]
  | k + 1, [], st => by simp only [runS, logS, List.foldl_nil]; omega
  | k + 1, p :: r, st => by
    unfold runS
    rw [logS]
    split
    · have := runS_len N k r st
      unfold runS at this
      omega
    · rw [List.foldl_cons]
      have := runS_len N k (contS p r).2 (stepS st (N - r.length, trimS (contS p r).1))
      have h2 := stepS_len st (N - r.length, trimS (contS p r).1)
      unfold runS at this
      omega
theorem parseS_len (s : Str) : (parseS s).1.length + (parseS s).2.length ≤ s.length + 2 := by
  have h := runS_len (linesS s).length ((linesS s).length + 1) (linesS s) ([], [], [])
  have h1 := linesS_sz s
  have h2 := len_sz (linesS s)
  unfold parseS
  simp only [List.length_nil] at h
  omega
theorem LinesParse_law (n : Nat) (hn : 131072 ≤ n) (a : List Int) : clepsydralaw11_LinesParse_f n a = some true := by
  unfold clepsydralaw11_LinesParse_f clepsydralaw11_LinesParse_b
  by_cases h : 5000 < a.length
  · rw [cond_pos (by omega), works_val n hn]; rfl
  · have hsl := strOf_length a
    rw [cond_neg (by omega), Parse_val n _ hn (by rw [intsOf_length]; omega), strOf_intsOf]
    simp only [Option.bind_some]
    rw [rParse_val n _ hn (by omega)]
    simp only [Option.bind_some]
    have hpl := parseS_len (strOf a)
    have hj3 : clepsydralaw11_LinesParse_j3 n a (intsOf (strOf a)) ((parseS (strOf a)).1.map entV) ((parseS (strOf a)).2.map badV) ((parseS (strOf a)).1.map entV) ((parseS (strOf a)).2.map badR) = some false := by
      unfold clepsydralaw11_LinesParse_j3 clepsydralaw11_LinesParse_j3_b
      rw [strOf_intsOf]
      simp
    rw [hj3]
    simp only [Option.bind_some, cond_false]
    have h1 := law_l1 n (parseS (strOf a)).1 (by omega) n 0 (by omega)
    have h0 := law_l0 n (parseS (strOf a)).2 (by omega) n 0 (by omega)
    rw [show (0 : Int) = ((0 : Nat) : Int) by rfl, h1]
    simp only [Option.bind_some, Sum.elim_inr]
    rw [h0]
    simp only [Option.bind_some, Sum.elim_inr]
    rw [works_val n hn]
    rfl
end Go.Proofs.YtikiibnmhmioiaaDoor.H

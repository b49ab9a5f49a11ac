/- Chapter 11: lines that are passed over, put ahead, move numbers alone. -/
import Derived.Test.YtikiibnmhmioiaaDoorU4
import Derived.Test.YtikiibnmhmioiaaDoorT34
namespace Go.Proofs.YtikiibnmhmioiaaDoor.H
open Go.Sh Go.RowKit
set_option linter.unusedSimpArgs false
set_option linter.unusedVariables false

/-! ### the lines put ahead -/
def okB (b : UInt8) : Bool := b != 10 && b != 13
def f60 (s : Str) : Str := (s.take 60).filter okB
def overS (i : Nat) (s : Str) : Str := if i % 3 = 0 then [32, 9] else 32 :: (if i % 2 = 0 then 35 else 59) :: f60 s
def preT : Nat → List Str → Str
  | _, [] => []
  | i, s :: r => overS i s ++ 10 :: preT (i + 1) r
theorem j1p_val (n : Nat) (b : UInt8) : clepsydralaw11_LinesPassed_j1 n (b.toNat : Int) = some (okB b) := by
  have h := byte_all (p := fun x => clepsydralaw11_LinesPassed_j1 0 (x : Int) = some (okB (UInt8.ofNat x))) (by decide +kernel) b
  rw [UInt8.ofNat_toNat] at h
  exact h
theorem l3p_val (n : Nat) (ls : List Str) (i : Nat) (s : Str) (hi : ls[i]? = some s) : ∀ (m k : Nat) (x : Str), 60 - k < m → k ≤ 60 → x.length ≤ k →
    clepsydralaw11_LinesPassed_l3 n m ls (i : Int) x (k : Int) = some (x ++ ((s.take 60).drop k).filter okB)
  | 0, k, x, hm, _, _ => by omega
  | m + 1, k, x, hm, hk, hx => by
    rw [clepsydralaw11_LinesPassed_l3, clepsydralaw11_LinesPassed_l3_b]
    have hj3 : clepsydralaw11_LinesPassed_j3 n ls (i : Int) (k : Int) = some (decide (k < s.length) && decide (k < 60)) := by
      unfold clepsydralaw11_LinesPassed_j3 clepsydralaw11_LinesPassed_j3_b
      rw [cond_pos (by omega), Int.toNat_natCast, hi]
      simp only [Option.bind_some]
      by_cases h : k < s.length
      · rw [cond_pos (by omega), decide_eq_true h, Bool.true_and]
        congr 1
        rw [decide_eq_decide]; omega
      · rw [cond_neg (by omega), decide_eq_false h]; rfl
    rw [hj3]
    simp only [Option.bind_some]
    by_cases h : k < s.length ∧ k < 60
    · obtain ⟨h1, h2⟩ := h
      have hg : s[k]? = some s[k] := List.getElem?_eq_getElem h1
      have hd : (s.take 60).drop k = s[k] :: (s.take 60).drop (k + 1) := by
        rw [List.drop_eq_getElem_cons (by simp; omega)]
        congr 1
        exact List.getElem_take
      rw [decide_eq_true h1, decide_eq_true h2, Bool.true_and, cond_true]
      unfold clepsydralaw11_LinesPassed_j2 clepsydralaw11_LinesPassed_j2_b
      simp only [decide_eq_true (show (0 : Int) ≤ (i : Int) by omega), decide_eq_true (show (0 : Int) ≤ (k : Int) by omega), cond_true, Int.toNat_natCast, hi, Option.bind_some, hg, j1p_val]
      rw [strOf_one, hd]
      cases hc : okB s[k] with
      | false =>
        rw [cond_false]
        simp only [Option.bind_some]
        rw [wrap1 k (by omega), l3p_val n ls i s hi m (k + 1) x (by omega) (by omega) (by omega), List.filter_cons_of_neg (by simp [hc])]
      | true =>
        rw [cond_true, cond_pos (by simp; omega)]
        simp only [Option.bind_some]
        rw [wrap1 k (by omega), l3p_val n ls i s hi m (k + 1) (x ++ [s[k]]) (by omega) (by omega) (by simp; omega), List.filter_cons_of_pos hc]
        simp
    · have : (decide (k < s.length) && decide (k < 60)) = false := by simp; omega
      rw [this, cond_false, List.drop_eq_nil_of_le (by simp; omega)]
      simp
theorem f60_len (s : Str) : (f60 s).length ≤ 60 := by
  have := List.length_filter_le okB (s.take 60)
  unfold f60
  rw [List.length_take] at this
  omega
theorem overS_len (i : Nat) (s : Str) : (overS i s).length ≤ 62 := by
  have := f60_len s
  unfold overS
  split <;> simp <;> omega
theorem j4p_val (n : Nat) (hn : 100 ≤ n) (ls : List Str) (i : Nat) (hi : i < 41) (s : Str) (hs : ls[i]? = some s) (x : Str) (hx : x.length ≤ 4294967296) :
    clepsydralaw11_LinesPassed_j4 n ls x (i : Int) = some (x ++ overS i s ++ [10]) := by
  unfold clepsydralaw11_LinesPassed_j4 clepsydralaw11_LinesPassed_j4_b
  have h3 := l3p_val n ls i s hs n 0 [] (by omega) (by omega) (by simp)
  rw [List.nil_append, List.drop_zero, show ((0 : Nat) : Int) = 0 from rfl] at h3
  rw [h3]
  have hf := f60_len s
  unfold f60 at hf
  simp only [Option.bind_some]
  have e3 : (Int.tmod (i : Int) 3 == 0) = decide (i % 3 = 0) := by
    have := (of_decide_eq_true (p := ∀ j : Nat, j < 41 → (Int.tmod (j : Int) 3 == 0) = decide (j % 3 = 0)) (by decide +kernel)) i hi
    exact this
  rw [e3]
  unfold overS
  by_cases h : i % 3 = 0
  · rw [decide_eq_true h, cond_true, cond_pos (by simp only [List.length_cons, List.length_nil]; omega), if_pos h]
    simp
  · rw [decide_eq_false h, cond_false, if_neg h]
    have e2 : ∀ j : Nat, j < 41 → IntKind.i64.wrap (Int.tmod (j : Int) 2 + 1) = ((j % 2 + 1 : Nat) : Int) ∧ Int.tmod (j : Int) 2 = ((j % 2 : Nat) : Int) := of_decide_eq_true (by decide +kernel)
    obtain ⟨e4, e5⟩ := e2 i hi
    have e6 : (([35, 59] : Str).take (i % 2 + 1)).drop (i % 2) = [if i % 2 = 0 then 35 else 59] := by
      rcases Nat.mod_two_eq_zero_or_one i with h2 | h2 <;> rw [h2] <;> rfl
    have h2 : i % 2 < 2 := Nat.mod_lt _ (by omega)
    rw [e4, e5]
    simp only [Int.toNat_natCast, e6]
    rw [cond_pos (by simp only [List.length_cons, List.length_nil]; omega), cond_pos (by omega), cond_pos (by simp only [List.length_cons, List.length_nil]; omega), cond_pos (by omega), cond_pos (by omega), cond_pos (by simp only [List.length_append, List.length_cons, List.length_nil]; omega), cond_pos (by simp only [List.length_append, List.length_cons, List.length_nil]; omega), cond_pos (by simp only [List.length_append, List.length_cons, List.length_nil]; omega)]
    simp [f60]
theorem l2p_val (n : Nat) (hn : 100 ≤ n) (ls : List Str) (hl : ls.length ≤ 40) : ∀ (m i : Nat) (x : Str), ls.length - i < m → x.length ≤ i * 63 → i ≤ 40 →
    clepsydralaw11_LinesPassed_l2 n m ls x (i : Int) = some (x ++ preT i (ls.drop i))
  | 0, i, x, hm, _, _ => by omega
  | m + 1, i, x, hm, hx, hi => by
    rw [clepsydralaw11_LinesPassed_l2, clepsydralaw11_LinesPassed_l2_b]
    cases hd : ls.drop i with
    | nil =>
      have := drop_nil hd
      rw [cond_neg (by omega)]
      simp [preT]
    | cons s r =>
      obtain ⟨e1, e2, e3⟩ := drop_cons hd
      have ho := overS_len i s
      rw [cond_pos (by omega), j4p_val n hn ls i (by omega) s e1 x (by omega)]
      simp only [Option.bind_some]
      rw [wrap1 i (by omega), l2p_val n hn ls hl m (i + 1) (x ++ overS i s ++ [10]) (by omega) (by simp only [List.length_append, List.length_cons, List.length_nil]; omega) (by omega), e2, preT]
      simp
theorem preT_len : ∀ (ls : List Str) (i : Nat), (preT i ls).length ≤ ls.length * 63
  | [], _ => by simp [preT]
  | s :: r, i => by
    have := preT_len r (i + 1)
    have := overS_len i s
    simp only [preT, List.length_append, List.length_cons]
    omega

/-! ### they are passed over -/
theorem over_facts (i : Nat) (s : Str) : (10 : UInt8) ∉ overS i s ∧ endS 13 (overS i s) = false ∧ skipS (overS i s) = true := by
  unfold overS
  by_cases h : i % 3 = 0
  · rw [if_pos h]
    exact ⟨by decide, rfl, rfl⟩
  · rw [if_neg h]
    have hok : ∀ c ∈ f60 s, c ≠ 10 ∧ c ≠ 13 := fun c hc => by
      have := (List.mem_filter.1 hc).2
      simpa [okB] using this
    generalize f60 s = t at hok
    have hc : (if i % 2 = 0 then (35 : UInt8) else 59) = 35 ∨ (if i % 2 = 0 then (35 : UInt8) else 59) = 59 := by
      split <;> simp
    generalize (if i % 2 = 0 then (35 : UInt8) else 59) = d at hc
    refine ⟨?_, ?_, ?_⟩
    · simp only [List.mem_cons, not_or]
      refine ⟨by decide, ?_, fun hm => (hok _ hm).1 rfl⟩
      rcases hc with rfl | rfl <;> decide
    · unfold endS
      cases hl : (32 :: d :: t : Str).getLast? with
      | none => rfl
      | some c =>
        have hm := List.mem_of_getLast? hl
        simp only [List.mem_cons] at hm
        rcases hm with rfl | rfl | hm
        · rfl
        · rcases hc with rfl | rfl <;> rfl
        · simpa using (hok c hm).2
    · have hb : blkB d = false := by rcases hc with rfl | rfl <;> rfl
      have h1 : trimS (32 :: d :: t) = trimS (d :: t) := rfl
      have h2 : ∃ r', trimS (d :: t) = d :: r' := by
        unfold trimS
        rw [List.dropWhile_cons_of_neg (by simp [hb]), rs_cons]
        split
        · rw [hb]; exact ⟨[], rfl⟩
        · exact ⟨_, rfl⟩
      obtain ⟨r', h2⟩ := h2
      unfold skipS cmtS
      rw [h1, h2]
      rcases hc with rfl | rfl <;> simp
theorem rowsS_line' : ∀ (a b : Str), (10 : UInt8) ∉ a → rowsS (a ++ 10 :: b) = a :: rowsS b
  | [], b, _ => by rw [List.nil_append, rowsS, if_pos rfl]
  | c :: a, b, h => by
    simp only [List.mem_cons, not_or] at h
    rw [List.cons_append, rowsS, if_neg (Ne.symm h.1), rowsS_line' a b h.2]
def overL : Nat → List Str → List Str
  | _, [] => []
  | i, s :: r => overS i s :: overL (i + 1) r
theorem overL_len : ∀ (ls : List Str) (i : Nat), (overL i ls).length = ls.length
  | [], _ => rfl
  | _ :: r, i => by simp [overL, overL_len r (i + 1)]
theorem lines_over (t : Str) : ∀ (ls : List Str) (i : Nat), linesS (preT i ls ++ t) = overL i ls ++ linesS t
  | [], _ => rfl
  | s :: r, i => by
    obtain ⟨h1, h2, _⟩ := over_facts i s
    rw [preT, List.append_assoc, List.cons_append]
    unfold linesS
    rw [rowsS_line' _ _ h1, List.map_cons, cutE, h2]
    have ih := lines_over t r (i + 1)
    unfold linesS at ih
    rw [ih]
    rfl
theorem logS_over (N k : Nat) (L : List Str) : ∀ (ls : List Str) (i : Nat), logS N (ls.length + k) (overL i ls ++ L) = logS N k L
  | [], _ => by simp [overL]
  | s :: r, i => by
    rw [List.length_cons, overL, List.cons_append, show r.length + 1 + k = (r.length + k) + 1 by omega, logS, (over_facts i s).2.2, if_pos rfl]
    exact logS_over N k L r (i + 1)
def shf (c : Nat) {α : Type} (x : Nat × α) : Nat × α := (x.1 + c, x.2)
theorem logS_shift (N c : Nat) : ∀ (k : Nat) (L : List Str), L.length ≤ N → logS (c + N) k L = (logS N k L).map (shf c)
  | 0, _, _ => rfl
  | k + 1, [], _ => rfl
  | k + 1, p :: r, h => by
    simp only [List.length_cons] at h
    have hl := contS_le r p
    rw [logS, logS]
    split
    · exact logS_shift N c k r (by omega)
    · rw [List.map_cons, logS_shift N c k _ (by omega)]
      congr 1
      simp only [shf]
      congr 1
      omega
def shSt (c : Nat) (st : Sta) : Sta := (st.1, st.2.1.map (shf c), st.2.2.map (shf c))
theorem step_shift (c : Nat) (st : Sta) (x : Nat × Str) : stepS (shSt c st) (shf c x) = shSt c (stepS st x) := by
  obtain ⟨sec, es, bs⟩ := st
  obtain ⟨m, t⟩ := x
  show stepS (sec, es.map (shf c), bs.map (shf c)) (m + c, t) = shSt c (stepS (sec, es, bs) (m, t))
  by_cases h1 : 4096 < t.length
  · have e : ∀ st : Sta, ∀ k, stepS st (k, t) = (st.1, st.2.1, st.2.2 ++ [(k, true)]) := fun st k => by unfold stepS; exact if_pos h1
    rw [e, e]; simp [shSt, shf]
  · by_cases h2 : headS t = true
    · have e : ∀ st : Sta, ∀ k, stepS st (k, t) = (innS t, st.2.1, st.2.2) := fun st k => by unfold stepS; exact (if_neg h1).trans (if_pos h2)
      rw [e, e]; simp [shSt, shf]
    · by_cases h3 : (t.head? == some 91) = true
      · have e : ∀ st : Sta, ∀ k, stepS st (k, t) = ([], st.2.1, st.2.2 ++ [(k, false)]) := fun st k => by unfold stepS; exact ((if_neg h1).trans (if_neg h2)).trans (if_pos h3)
        rw [e, e]; simp [shSt, shf]
      · by_cases h4 : (t.contains 61 && (keyS (trimS (t.takeWhile (· != 61))) && sec != [])) = true
        · have e : ∀ st : Sta, st.1 = sec → ∀ k, stepS st (k, t) = (st.1, st.2.1 ++ [(k, st.1, trimS (t.takeWhile (· != 61)), trimS ((t.dropWhile (· != 61)).drop 1))], st.2.2) := fun st hs k => by unfold stepS; exact (((if_neg h1).trans (if_neg h2)).trans (if_neg h3)).trans (if_pos (by rw [hs]; exact h4))
          rw [e _ rfl, e _ rfl]; simp [shSt, shf]
        · have e : ∀ st : Sta, st.1 = sec → ∀ k, stepS st (k, t) = (st.1, st.2.1, st.2.2 ++ [(k, false)]) := fun st hs k => by unfold stepS; exact (((if_neg h1).trans (if_neg h2)).trans (if_neg h3)).trans (if_neg (by rw [hs]; exact h4))
          rw [e _ rfl, e _ rfl]; simp [shSt, shf]
theorem fold_shift (c : Nat) : ∀ (l : List (Nat × Str)) (st : Sta), (l.map (shf c)).foldl stepS (shSt c st) = shSt c (l.foldl stepS st)
  | [], _ => rfl
  | x :: l, st => by rw [List.map_cons, List.foldl_cons, List.foldl_cons, step_shift, fold_shift c l]
theorem parse_over (ls : List Str) (t : Str) : parseS (preT 0 ls ++ t) = ((parseS t).1.map (shf ls.length), (parseS t).2.map (shf ls.length)) := by
  unfold parseS runS
  rw [lines_over, List.length_append, overL_len, Nat.add_assoc, logS_over, logS_shift _ _ _ _ (Nat.le_refl _)]
  have := fold_shift ls.length (logS (linesS t).length ((linesS t).length + 1) (linesS t)) ([], [], [])
  rw [show shSt ls.length ([], [], []) = ([], [], []) from rfl] at this
  rw [this]
  rfl
/-- Numbers are no greater than there are lines. -/
theorem logS_num (N : Nat) : ∀ (k : Nat) (L : List Str), ∀ x ∈ logS N k L, x.1 ≤ N
  | 0, _, x, h => by cases h
  | k + 1, [], x, h => by cases h
  | k + 1, p :: r, x, h => by
    rw [logS] at h
    split at h
    · exact logS_num N k r x h
    · rcases List.mem_cons.1 h with rfl | h
      · exact Nat.sub_le _ _
      · exact logS_num N k _ x h
theorem step_num (N : Nat) (st : Sta) (x : Nat × Str) (h : (∀ e ∈ st.2.1, e.1 ≤ N) ∧ ∀ e ∈ st.2.2, e.1 ≤ N) (hx : x.1 ≤ N) : (∀ e ∈ (stepS st x).2.1, e.1 ≤ N) ∧ ∀ e ∈ (stepS st x).2.2, e.1 ≤ N := by
  have more : ∀ {α : Type} (l : List (Nat × α)) (a : α), (∀ e ∈ l, e.1 ≤ N) → ∀ e ∈ l ++ [(x.1, a)], e.1 ≤ N := fun l a hl e he => by
    rcases List.mem_append.1 he with he | he
    · exact hl e he
    · rw [List.mem_singleton] at he; subst he; exact hx
  unfold stepS
  split
  · exact ⟨h.1, more _ _ h.2⟩
  · split
    · exact h
    · split
      · exact ⟨h.1, more _ _ h.2⟩
      · split
        · exact ⟨more _ _ h.1, h.2⟩
        · exact ⟨h.1, more _ _ h.2⟩
theorem fold_num (N : Nat) : ∀ (l : List (Nat × Str)) (st : Sta), ((∀ e ∈ st.2.1, e.1 ≤ N) ∧ ∀ e ∈ st.2.2, e.1 ≤ N) → (∀ x ∈ l, x.1 ≤ N) → (∀ e ∈ (l.foldl stepS st).2.1, e.1 ≤ N) ∧ ∀ e ∈ (l.foldl stepS st).2.2, e.1 ≤ N
  | [], st, h, _ => h
  | x :: l, st, h, hl => fold_num N l (stepS st x) (step_num N st x h (hl x (by simp))) (fun y hy => hl y (by simp [hy]))
theorem parse_num (t : Str) : (∀ e ∈ (parseS t).1, e.1 ≤ t.length + 1) ∧ ∀ e ∈ (parseS t).2, e.1 ≤ t.length + 1 := by
  have h1 := linesS_sz t
  have h2 := len_sz (linesS t)
  have h := fold_num (linesS t).length (logS (linesS t).length ((linesS t).length + 1) (linesS t)) ([], [], []) ⟨fun e he => (by cases he), fun e he => (by cases he)⟩ (logS_num _ _ _)
  unfold parseS runS
  exact ⟨fun e he => by have := h.1 e he; omega, fun e he => by have := h.2 e he; omega⟩

/-! ### the law -/
theorem plain_ent (es : List Ent) : plainR 4 (es.map entV) = true := by
  unfold plainR
  rw [List.all_eq_true]
  intro e he
  obtain ⟨x, _, rfl⟩ := List.mem_map.1 he
  rfl
theorem plain_bad (bs : List (Nat × Bool)) : plainR 2 (bs.map badV) = true := by
  unfold plainR
  rw [List.all_eq_true]
  intro e he
  obtain ⟨x, _, rfl⟩ := List.mem_map.1 he
  rfl
theorem l1p_val (n : Nat) (ls : List Str) (hl : ls.length ≤ 40) (es : List Ent) (he : ∀ e ∈ es, e.1 ≤ 4294967296) (hs : es.length < 4294967296) (h1 : List (List AV)) : ∀ (m i : Nat) (h0 : List (List AV)), es.length - i < m → (∀ j, i ≤ j → h0[j]? = (es.map entV)[j]?) →
    ∃ h0', clepsydralaw11_LinesPassed_l1 n m ls es.length ((es.map (shf ls.length)).map entV) (i : Int) h0 h1 = some (.inr (h0', h1))
  | 0, i, h0, hm, _ => by omega
  | m + 1, i, h0, hm, hh => by
    rw [clepsydralaw11_LinesPassed_l1, clepsydralaw11_LinesPassed_l1_b]
    by_cases hi : i < es.length
    · obtain ⟨e, hg⟩ : ∃ e, es[i]? = some e := ⟨es[i], List.getElem?_eq_getElem hi⟩
      have hN := he e (List.mem_of_getElem? hg)
      have h0i : h0[i]? = some (entV e) := by rw [hh i (Nat.le_refl _), List.getElem?_map, hg]; rfl
      have hm12 : ((es.map (shf ls.length)).map entV)[i]? = some (entV (shf ls.length e)) := by rw [List.getElem?_map, List.getElem?_map, hg]; rfl
      have q1 : (0 + Int.toNat (i : Int) * 4 + 0) / 4 = i := by rw [Int.toNat_natCast]; omega
      have q2 : (0 + Int.toNat (i : Int) * 4 + 0) % 4 = 0 := by rw [Int.toNat_natCast]; omega
      have q3 : (0 + Int.toNat (i : Int) * 4) / 4 = i := by rw [Int.toNat_natCast]; omega
      have q4 : (0 + Int.toNat (i : Int) * 4) % 4 = 0 := by rw [Int.toNat_natCast]; omega
      have hil : i < h0.length := (List.getElem?_eq_some_iff.1 h0i).1
      obtain ⟨N, a, b, c⟩ := e
      simp only at hN
      have hw : IntKind.i64.wrap ((N : Int) + (ls.length : Int)) = ((N + ls.length : Nat) : Int) := by rw [IntWalk.i64_in _ (by omega)]; omega
      have hset : (h0.set i ((entV (N, a, b, c)).set 0 (.int .i64 ((N + ls.length : Nat) : Int))))[i]? = some (entV (N + ls.length, a, b, c)) := by rw [List.getElem?_set_self hil]; rfl
      simp only [q1, q2, q3, q4, decide_eq_true (show (0 : Int) ≤ (i : Int) by omega), decide_eq_true (show (i : Int) < (es.length : Int) by omega), cond_true, h0i, Option.bind_some]
      have r1 : ((entV (N, a, b, c)).drop 0).take 1 = [.int .i64 (N : Int)] := rfl
      have r2 : decide (0 < (entV (N, a, b, c)).length) = true := rfl
      rw [r1, r2]
      simp only [unc, unn, getI, decide_true, cond_true, hw, hset, Option.bind_some, Int.toNat_natCast, hm12]
      have r3 : ((entV (N + ls.length, a, b, c)).drop 0).take 4 = entV (N + ls.length, a, b, c) := rfl
      rw [r3]
      simp only [entV, shf, unc, unn, getI, getT, decide_true, cond_true, beq_self_eq_true, Bool.and_self, Bool.not_true, cond_false]
      rw [wrap1 i (by omega)]
      refine l1p_val n ls hl es he hs h1 m (i + 1) _ (by omega) (fun j hj => ?_)
      rw [List.getElem?_set_ne (by omega)]
      exact hh j (by omega)
    · rw [cond_neg (by omega)]
      exact ⟨h0, rfl⟩
theorem l0p_val (n : Nat) (ls : List Str) (hl : ls.length ≤ 40) (bs : List (Nat × Bool)) (he : ∀ e ∈ bs, e.1 ≤ 4294967296) (hs : bs.length < 4294967296) (h0 : List (List AV)) : ∀ (m i : Nat) (h1 : List (List AV)), bs.length - i < m → (∀ j, i ≤ j → h1[j]? = (bs.map badV)[j]?) →
    ∃ h1', clepsydralaw11_LinesPassed_l0 n m ls bs.length ((bs.map (shf ls.length)).map badV) (i : Int) h0 h1 = some (.inr (h0, h1'))
  | 0, i, h1, hm, _ => by omega
  | m + 1, i, h1, hm, hh => by
    rw [clepsydralaw11_LinesPassed_l0, clepsydralaw11_LinesPassed_l0_b]
    by_cases hi : i < bs.length
    · obtain ⟨e, hg⟩ : ∃ e, bs[i]? = some e := ⟨bs[i], List.getElem?_eq_getElem hi⟩
      have hN := he e (List.mem_of_getElem? hg)
      have h0i : h1[i]? = some (badV e) := by rw [hh i (Nat.le_refl _), List.getElem?_map, hg]; rfl
      have hm12 : ((bs.map (shf ls.length)).map badV)[i]? = some (badV (shf ls.length e)) := by rw [List.getElem?_map, List.getElem?_map, hg]; rfl
      have q1 : (0 + Int.toNat (i : Int) * 2 + 0) / 2 = i := by rw [Int.toNat_natCast]; omega
      have q2 : (0 + Int.toNat (i : Int) * 2 + 0) % 2 = 0 := by rw [Int.toNat_natCast]; omega
      have q3 : (0 + Int.toNat (i : Int) * 2) / 2 = i := by rw [Int.toNat_natCast]; omega
      have q4 : (0 + Int.toNat (i : Int) * 2) % 2 = 0 := by rw [Int.toNat_natCast]; omega
      have hil : i < h1.length := (List.getElem?_eq_some_iff.1 h0i).1
      obtain ⟨N, a⟩ := e
      simp only at hN
      have hw : IntKind.i64.wrap ((N : Int) + (ls.length : Int)) = ((N + ls.length : Nat) : Int) := by rw [IntWalk.i64_in _ (by omega)]; omega
      have hset : (h1.set i ((badV (N, a)).set 0 (.int .i64 ((N + ls.length : Nat) : Int))))[i]? = some (badV (N + ls.length, a)) := by rw [List.getElem?_set_self hil]; rfl
      simp only [q1, q2, q3, q4, decide_eq_true (show (0 : Int) ≤ (i : Int) by omega), decide_eq_true (show (i : Int) < (bs.length : Int) by omega), cond_true, h0i, Option.bind_some]
      have r1 : ((badV (N, a)).drop 0).take 1 = [.int .i64 (N : Int)] := rfl
      have r2 : decide (0 < (badV (N, a)).length) = true := rfl
      rw [r1, r2]
      simp only [unc, unn, getI, decide_true, cond_true, hw, hset, Option.bind_some, Int.toNat_natCast, hm12]
      have r3 : ((badV (N + ls.length, a)).drop 0).take 2 = badV (N + ls.length, a) := rfl
      rw [r3, show badV (shf ls.length (N, a)) = badV (N + ls.length, a) from rfl]
      simp only [badV, shf, unc, unn, getI, getT, decide_true, cond_true, beq_self_eq_true, Bool.and_self, Bool.not_true, cond_false]
      rw [wrap1 i (by omega)]
      refine l0p_val n ls hl bs he hs h0 m (i + 1) _ (by omega) (fun j hj => ?_)
      rw [List.getElem?_set_ne (by omega)]
      exact hh j (by omega)
    · rw [cond_neg (by omega)]
      exact ⟨h1, rfl⟩
theorem LinesPassed_law (n : Nat) (hn : 131072 ≤ n) (a : List Int) (ls : List Str) : clepsydralaw11_LinesPassed_f n a ls = some true := by
  unfold clepsydralaw11_LinesPassed_f clepsydralaw11_LinesPassed_b
  have hj5 : clepsydralaw11_LinesPassed_j5 n a ls = some (decide (3000 < a.length) || decide (40 < ls.length)) := by
    unfold clepsydralaw11_LinesPassed_j5 clepsydralaw11_LinesPassed_j5_b
    by_cases h1 : 3000 < a.length
    · rw [cond_pos (by omega), decide_eq_true h1]; rfl
    · rw [cond_neg (by omega), decide_eq_false h1, Bool.false_or]
      congr 1
      rw [decide_eq_decide]
      omega
  rw [hj5]
  simp only [Option.bind_some]
  by_cases h : 3000 < a.length ∨ 40 < ls.length
  · rw [show (decide (3000 < a.length) || decide (40 < ls.length)) = true by simpa using h, cond_true, works_val n hn]; rfl
  · rw [show (decide (3000 < a.length) || decide (40 < ls.length)) = false by simpa using h, cond_false]
    have hl2 := l2p_val n (by omega) ls (by omega) n 0 [] (by omega) (by simp) (by omega)
    rw [show (0 : Int) = ((0 : Nat) : Int) by rfl, hl2]
    have hsl := strOf_length a
    have hpl := preT_len ls 0
    have hps := parseS_len (strOf a)
    have hnum := parse_num (strOf a)
    simp only [Option.bind_some, List.nil_append, List.drop_zero]
    rw [Parse_val n a hn (by omega)]
    simp only [Option.bind_some]
    rw [plain_ent, plain_bad, cond_true, cond_true, cond_pos (by omega), Parse_val n _ hn (by rw [intsOf_length, List.length_append]; omega), strOf_intsOf, parse_over]
    simp only [Option.bind_some]
    generalize (parseS (strOf a)).1 = es at *
    generalize (parseS (strOf a)).2 = bs at *
    have hj0 : clepsydralaw11_LinesPassed_j0 n (es.map entV).length (bs.map badV).length ((es.map (shf ls.length)).map entV) ((bs.map (shf ls.length)).map badV) = some false := by
      unfold clepsydralaw11_LinesPassed_j0 clepsydralaw11_LinesPassed_j0_b
      simp
    rw [hj0]
    simp only [Option.bind_some, cond_false, List.length_map]
    obtain ⟨h0', k1⟩ := l1p_val n ls (by omega) es (fun e he => by have := hnum.1 e he; omega) (by omega) (bs.map badV) n 0 (es.map entV) (by omega) (fun j _ => rfl)
    obtain ⟨h1', k0⟩ := l0p_val n ls (by omega) bs (fun e he => by have := hnum.2 e he; omega) (by omega) h0' n 0 (bs.map badV) (by omega) (fun j _ => rfl)
    rw [k1]
    simp only [Option.bind_some, Sum.elim_inr]
    rw [k0]
    simp only [Option.bind_some, Sum.elim_inr]
    rw [works_val n hn]
    rfl
end Go.Proofs.YtikiibnmhmioiaaDoor.H

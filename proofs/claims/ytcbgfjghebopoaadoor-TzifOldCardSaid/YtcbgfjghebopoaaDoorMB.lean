import Derived.Test.YtcbgfjghebopoaaDoorMA
/- Chapter 06: the reader (the program's way): bytes taken, counts, heads. -/
namespace Go.Proofs.YtcbgfjghebopoaaDoor.H
open Go.Sh Go.RowKit
set_option linter.unusedSimpArgs false
set_option linter.unusedVariables false

def takeS (k : Int) (b : List Int) (bad : Bool) : List Int × List Int × Bool := if k < 0 ∨ (b.length : Int) < k then ([], [], true) else (b.take k.toNat, b.drop k.toNat, bad)
theorem take_val (n : Nat) (k : Int) (b : List Int) (bad : Bool) : tzif_reader_take_f n k b bad = some (takeS k b bad) := by
  unfold tzif_reader_take_f tzif_reader_take_b tzif_reader_take_j0 tzif_reader_take_j0_b takeS
  by_cases h : k < 0
  · rw [cond_pos h, if_pos (.inl h)]; rfl
  · rw [cond_neg h]
    by_cases h2 : k > (b.length : Int)
    · rw [decide_eq_true h2, if_pos (.inr h2)]; rfl
    · rw [decide_eq_false h2, if_neg (by omega)]
      simp only [Option.bind_some, cond_false]
      rw [cond_pos (by omega), cond_pos (by omega), cond_pos (by omega), cond_pos (by omega)]
      rfl
theorem takeS_app (x r : List Int) (bad : Bool) : takeS (x.length : Int) (x ++ r) bad = (x, r, bad) := by
  unfold takeS
  rw [if_neg (by rw [List.length_append]; omega)]
  simp
theorem takeS_short {k : Int} {b : List Int} {bad : Bool} (h : (b.length : Int) < k) : takeS k b bad = ([], [], true) := by
  unfold takeS
  rw [if_pos (.inr h)]
theorem takeS_bad (k : Int) (b : List Int) : (takeS k b true).2.2 = true := by
  unfold takeS
  split <;> rfl
theorem takeS_len (k : Nat) (b : List Int) (bad : Bool) : (takeS (k : Int) b bad).2.1.length = b.length - k := by
  unfold takeS
  split
  · rename_i h; simp; omega
  · simp
/-- One byte more. -/
def stepS (x e : Int) : Int := IntKind.i64.wrap ((BitVec.ofInt 64 (IntKind.i64.wrap (x * 2 ^ 8)) ||| BitVec.ofInt 64 (IntKind.i64.wrap e)).toNat : Int)
def accS : Int → List Int → Int
  | x, [] => x
  | x, e :: r => accS (stepS x e) r
theorem i64_mod (a : Int) : IntKind.i64.wrap a % 18446744073709551616 = a % 18446744073709551616 := by rw [IntKind.wrap_i64]; omega
theorem i64_of {a b : Int} (h : a % 18446744073709551616 = b % 18446744073709551616) : IntKind.i64.wrap a = IntKind.i64.wrap b := by rw [IntKind.wrap_i64, IntKind.wrap_i64]; omega
theorem ofInt_nat (a : Int) : (BitVec.ofInt 64 a).toNat = (a % 18446744073709551616).toNat := by
  rw [BitVec.toNat_ofInt]
  rfl
theorem step_val (x e : Int) (h0 : 0 ≤ e) (h1 : e < 256) : stepS x e = IntKind.i64.wrap (x * 256 + e) := by
  unfold stepS
  refine i64_of ?_
  rw [BitVec.toNat_or, ofInt_nat, ofInt_nat, i64_mod, i64_mod]
  obtain ⟨e, rfl⟩ := Int.eq_ofNat_of_zero_le h0
  have e1 : ((x * 2 ^ 8) % 18446744073709551616).toNat = (x % 72057594037927936).toNat * 2 ^ 8 := by
    rw [show ((2 : Int) ^ 8) = 256 from rfl]; omega
  have e2 : (((e : Nat) : Int) % 18446744073709551616).toNat = e := by omega
  rw [e1, e2, ← Nat.shiftLeft_eq, ← Nat.shiftLeft_add_eq_or_of_lt (by omega), Nat.shiftLeft_eq]
  omega
theorem acc_be : ∀ (k : Nat) (x v : Int), k ≤ 8 → -9223372036854775808 ≤ x → x ≤ 9223372036854775807 → accS x (be k v) = IntKind.i64.wrap (x * 256 ^ k + v % 256 ^ k)
  | 0, x, v, _, h1, h2 => by
    simp only [be, accS, Int.pow_zero, Int.mul_one, Int.emod_one, Int.add_zero]
    rw [wi _ h1 h2]
  | k + 1, x, v, hk, h1, h2 => by
    have hb : ∃ q, IntKind.u8.wrap (Int.fdiv v (2 ^ (8 * k))) = q ∧ 0 ≤ q ∧ q < 256 ∧ q = (v / 256 ^ k) % 256 := by
      refine ⟨_, rfl, ?_⟩
      rw [IntKind.wrap_u8, Int.fdiv_eq_ediv_of_nonneg _ (Int.le_of_lt (Int.pow_pos (by omega))), Int.pow_mul, show ((2 : Int) ^ 8) = 256 from rfl]
      omega
    obtain ⟨q, e1, q0, q1, q2⟩ := hb
    have hw : -9223372036854775808 ≤ IntKind.i64.wrap (x * 256 + q) ∧ IntKind.i64.wrap (x * 256 + q) ≤ 9223372036854775807 := by rw [IntKind.wrap_i64]; omega
    simp only [be, accS, e1]
    rw [step_val x q q0 q1, acc_be k _ v (by omega) hw.1 hw.2]
    refine i64_of ?_
    have := i64_mod (x * 256 + q)
    rw [q2] at *
    have hk' : k = 0 ∨ k = 1 ∨ k = 2 ∨ k = 3 ∨ k = 4 ∨ k = 5 ∨ k = 6 ∨ k = 7 := by omega
    rcases hk' with rfl | rfl | rfl | rfl | rfl | rfl | rfl | rfl <;> simp only [Int.reducePow, Nat.reduceAdd] at * <;> omega
def countS (k : Int) (b : List Int) (bad : Bool) : Int × List Int × Bool := (accS 0 (takeS k b bad).1, (takeS k b bad).2.1, (takeS k b bad).2.2)
theorem count_l0 (n : Nat) (b : List Int) (hb : b.length ≤ 1000) (h0 : List Int) (h1 : Bool) : ∀ (r : List Int) (i m : Nat) (x : Int), b.drop i = r → r.length < m → tzif_reader_count_l0 n m x b (b.length : Int) (i : Int) h0 h1 = some (accS x r, h0, h1)
  | [], i, m + 1, x, h, _ => by
    have hi := drop_nil h
    simp only [tzif_reader_count_l0, tzif_reader_count_l0_b]
    rw [cond_neg (by omega)]
    rfl
  | c :: r, i, m + 1, x, h, hm => by
    obtain ⟨k1, k2, k3⟩ := drop_cons h
    simp only [List.length_cons] at hm
    simp only [tzif_reader_count_l0, tzif_reader_count_l0_b]
    rw [cond_pos (by omega), cond_pos (by omega), Int.toNat_natCast, k1, wrap1 _ (by omega)]
    simp only [Option.bind_some]
    exact count_l0 n b hb h0 h1 r (i + 1) m _ k2 (by omega)
theorem takeS_le (k : Int) (b : List Int) (bad : Bool) : (takeS k b bad).1.length ≤ k.toNat := by
  unfold takeS
  split
  · simp
  · simp; omega
theorem count_val (n : Nat) (hn : 20 ≤ n) (k : Int) (hk : k ≤ 15) (b : List Int) (bad : Bool) : tzif_reader_count_f n k b bad = some (countS k b bad) := by
  unfold tzif_reader_count_f tzif_reader_count_b countS
  rw [take_val]
  have hl := takeS_le k b bad
  have e := count_l0 n (takeS k b bad).1 (by omega) (takeS k b bad).2.1 (takeS k b bad).2.2 (takeS k b bad).1 0 n 0 (by simp) (by omega)
  simp only [Int.natCast_zero] at e
  simp only [Option.bind_some, e]
theorem countS_be (k : Nat) (hk : k ≤ 8) (v : Int) (r : List Int) (bad : Bool) : countS (k : Int) (be k v ++ r) bad = (IntKind.i64.wrap (v % 256 ^ k), r, bad) := by
  have h := takeS_app (be k v) r bad
  rw [be_len] at h
  unfold countS
  rw [h, acc_be k 0 v hk (by omega) (by omega)]
  simp
theorem countS_bad (k : Int) (b : List Int) : (countS k b true).2.2 = true := takeS_bad k b
theorem countS_short {k : Int} {b : List Int} {bad : Bool} (h : (b.length : Int) < k) : countS k b bad = (0, [], true) := by
  unfold countS
  rw [takeS_short h]; rfl
theorem countS_len (k : Nat) (b : List Int) (bad : Bool) : (countS (k : Int) b bad).2.1.length = b.length - k := takeS_len k b bad
/-- A head. -/
def headR (b : List Int) (bad : Bool) : Int × Int × Int × Int × Int × Int × Int × List Int × Bool :=
  let t := takeS 4 b bad
  let v := countS 1 t.2.1 (!(strOf t.1 == ([84, 90, 105, 102] : Str)) || t.2.2)
  let s := takeS 15 v.2.1 v.2.2
  let c1 := countS 4 s.2.1 s.2.2
  let c2 := countS 4 c1.2.1 c1.2.2
  let c3 := countS 4 c2.2.1 c2.2.2
  let c4 := countS 4 c3.2.1 c3.2.2
  let c5 := countS 4 c4.2.1 c4.2.2
  let c6 := countS 4 c5.2.1 c5.2.2
  (IntKind.u8.wrap v.1, c1.1, c2.1, c3.1, c4.1, c5.1, c6.1, c6.2.1, c6.2.2 || (IntKind.u8.wrap v.1 != 0 && (IntKind.u8.wrap v.1 != 50 && IntKind.u8.wrap v.1 != 51)))
theorem cond_or {α : Type} (L : Bool) (v : Int) (K : Bool → α) : cond L (K true) (cond (v != 0) (cond (v != 50) (K (v != 51)) (K false)) (K false)) = K (L || (v != 0 && (v != 50 && v != 51))) := by
  cases L <;> cases v != 0 <;> cases v != 50 <;> cases v != 51 <;> rfl
theorem head_val' (n : Nat) (hn : 20 ≤ n) (b : List Int) (bad : Bool) : tzif_reader_head_f n b bad = some (headR b bad) := by
  have hj : tzif_reader_head_j0 n b bad 0 0 0 0 0 0 0 = some ((takeS 4 b bad).2.1, (!(strOf (takeS 4 b bad).1 == ([84, 90, 105, 102] : Str)) || (takeS 4 b bad).2.2), 0, 0, 0, 0, 0, 0, 0) := by
    unfold tzif_reader_head_j0 tzif_reader_head_j0_b
    rw [take_val]
    simp only [Option.bind_some]
    cases strOf (takeS 4 b bad).1 == ([84, 90, 105, 102] : Str) <;> rfl
  have q0 : decide ((0 : Int) < 6) = true := by decide
  have w1 : IntKind.i64.wrap ((0 : Int) + 1) = 1 := by decide
  have w2 : IntKind.i64.wrap ((1 : Int) + 1) = 2 := by decide
  have w3 : IntKind.i64.wrap ((2 : Int) + 1) = 3 := by decide
  have w4 : IntKind.i64.wrap ((3 : Int) + 1) = 4 := by decide
  have w5 : IntKind.i64.wrap ((4 : Int) + 1) = 5 := by decide
  have w6 : IntKind.i64.wrap ((5 : Int) + 1) = 6 := by decide
  have q1 : decide ((1 : Int) < 6) = true := by decide
  have q2 : decide ((2 : Int) < 6) = true := by decide
  have q3 : decide ((3 : Int) < 6) = true := by decide
  have q4 : decide ((4 : Int) < 6) = true := by decide
  have q5 : decide ((5 : Int) < 6) = true := by decide
  have q6 : decide ((6 : Int) < 6) = false := by decide
  unfold tzif_reader_head_f tzif_reader_head_b headR
  simp only [hj, Option.bind_some, count_val n hn 1 (by omega), count_val n hn 4 (by omega), take_val, w1, w2, w3, w4, w5, w6, q0, q1, q2, q3, q4, q5, q6, cond_true, cond_false]
  exact cond_or _ _ (fun q => some (_, _, _, _, _, _, _, _, q))
theorem or_l {x y : Bool} (h : x = true) : (x || y) = true := by rw [h]; rfl
theorem headR_bad (b : List Int) : (headR b true).2.2.2.2.2.2.2.2 = true := by
  simp only [headR]
  refine or_l ?_
  generalize hv : countS 1 (takeS 4 b true).2.1 (!(strOf (takeS 4 b true).1 == ([84, 90, 105, 102] : Str)) || (takeS 4 b true).2.2) = v
  have h0 : v.2.2 = true := by
    rw [← hv, takeS_bad, Bool.or_true]
    exact countS_bad _ _
  rw [h0]
  have h1 := takeS_bad 15 v.2.1
  generalize takeS 15 v.2.1 true = s at h1
  rw [h1]
  have h2 := countS_bad 4 s.2.1
  generalize countS 4 s.2.1 true = c1 at h2
  rw [h2]
  have h3 := countS_bad 4 c1.2.1
  generalize countS 4 c1.2.1 true = c2 at h3
  rw [h3]
  have h4 := countS_bad 4 c2.2.1
  generalize countS 4 c2.2.1 true = c3 at h4
  rw [h4]
  have h5 := countS_bad 4 c3.2.1
  generalize countS 4 c3.2.1 true = c4 at h5
  rw [h5]
  have h6 := countS_bad 4 c4.2.1
  generalize countS 4 c4.2.1 true = c5 at h6
  rw [h6]
  exact countS_bad 4 c5.2.1
theorem headR_short {b : List Int} {bad : Bool} (h : b.length < 44) : (headR b bad).2.2.2.2.2.2.2.2 = true := by
  simp only [headR]
  refine or_l ?_
  generalize hv : countS 1 (takeS 4 b bad).2.1 (!(strOf (takeS 4 b bad).1 == ([84, 90, 105, 102] : Str)) || (takeS 4 b bad).2.2) = v
  have l1 : v.2.1.length = b.length - 4 - 1 := by
    rw [← hv]
    have h2 : (takeS (4 : Int) b bad).2.1.length = b.length - 4 := takeS_len 4 b bad
    rw [← h2]
    exact countS_len 1 (takeS 4 b bad).2.1 (!(strOf (takeS 4 b bad).1 == ([84, 90, 105, 102] : Str)) || (takeS 4 b bad).2.2)
  have key4 : ∀ (l : List Int) (q : Bool), (countS 4 l q).2.1.length = l.length - 4 := fun l q => countS_len 4 l q
  have l2 : (takeS 15 v.2.1 v.2.2).2.1.length = b.length - 4 - 1 - 15 := by
    have := takeS_len 15 v.2.1 v.2.2
    rw [l1] at this
    exact this
  generalize takeS 15 v.2.1 v.2.2 = s at l2
  by_cases hb : b.length - 20 < 4
  · rw [countS_short (k := 4) (b := s.2.1) (by omega)]
    simp only [countS_bad]
  have a1 := key4 s.2.1 s.2.2
  generalize countS 4 s.2.1 s.2.2 = c1 at a1
  by_cases hb1 : c1.2.1.length < 4
  · rw [countS_short (k := 4) (b := c1.2.1) (by omega)]
    simp only [countS_bad]
  have a2 := key4 c1.2.1 c1.2.2
  generalize countS 4 c1.2.1 c1.2.2 = c2 at a2
  by_cases hb2 : c2.2.1.length < 4
  · rw [countS_short (k := 4) (b := c2.2.1) (by omega)]
    simp only [countS_bad]
  have a3 := key4 c2.2.1 c2.2.2
  generalize countS 4 c2.2.1 c2.2.2 = c3 at a3
  by_cases hb3 : c3.2.1.length < 4
  · rw [countS_short (k := 4) (b := c3.2.1) (by omega)]
    simp only [countS_bad]
  have a4 := key4 c3.2.1 c3.2.2
  generalize countS 4 c3.2.1 c3.2.2 = c4 at a4
  by_cases hb4 : c4.2.1.length < 4
  · rw [countS_short (k := 4) (b := c4.2.1) (by omega)]
    simp only [countS_bad]
  have a5 := key4 c4.2.1 c4.2.2
  generalize countS 4 c4.2.1 c4.2.2 = c5 at a5
  rw [countS_short (k := 4) (b := c5.2.1) (by omega)]
/-- A head of a version. -/
def headV (v : Int) (cs : List Int) : List Int := [84, 90, 105, 102] ++ (be 1 v ++ (List.replicate 15 0 ++ cs.flatMap (be 4)))
theorem headS_V (cs : List Int) : headS cs = headV 50 cs := by
  unfold headS headV
  simp [be]
  rfl
theorem headR_ok (v c1 c2 c3 c4 c5 c6 : Int) (hv : v = 0 ∨ v = 50 ∨ v = 51) (h : ∀ c ∈ [c1, c2, c3, c4, c5, c6], 0 ≤ c ∧ c < 4294967296) (r : List Int) : headR (headV v [c1, c2, c3, c4, c5, c6] ++ r) false = (v, c1, c2, c3, c4, c5, c6, r, false) := by
  have e0 : headV v [c1, c2, c3, c4, c5, c6] ++ r = [84, 90, 105, 102] ++ (be 1 v ++ (List.replicate 15 0 ++ (be 4 c1 ++ (be 4 c2 ++ (be 4 c3 ++ (be 4 c4 ++ (be 4 c5 ++ (be 4 c6 ++ r)))))))) := by
    simp [headV]
  have t1 : ∀ r' bad, takeS 4 ([84, 90, 105, 102] ++ r') bad = ([84, 90, 105, 102], r', bad) := fun r' bad => takeS_app [84, 90, 105, 102] r' bad
  have t2 : ∀ r' bad, countS 1 (be 1 v ++ r') bad = (v, r', bad) := fun r' bad => by
    have this : countS (1 : Int) (be 1 v ++ r') bad = (IntKind.i64.wrap (v % 256 ^ 1), r', bad) := countS_be 1 (by omega) v r' bad
    rw [this]
    rcases hv with rfl | rfl | rfl <;> rfl
  have t3 : ∀ r' bad, takeS 15 (List.replicate 15 0 ++ r') bad = (List.replicate 15 0, r', bad) := fun r' bad => takeS_app (List.replicate 15 0) r' bad
  have t4 : ∀ c, 0 ≤ c ∧ c < 4294967296 → ∀ r' bad, countS 4 (be 4 c ++ r') bad = (c, r', bad) := fun c hc r' bad => by
    have this : countS (4 : Int) (be 4 c ++ r') bad = (IntKind.i64.wrap (c % 256 ^ 4), r', bad) := countS_be 4 (by omega) c r' bad
    rw [this, show ((256 : Int) ^ 4) = 4294967296 from rfl, wi _ (by omega) (by omega)]
    congr 1; omega
  unfold headR
  rw [e0, t1]
  simp only
  have e1 : (!(strOf [84, 90, 105, 102] == ([84, 90, 105, 102] : Str)) || false) = false := by decide
  rw [e1, t2]
  simp only [t3, t4 c1 (h c1 (by simp)), t4 c2 (h c2 (by simp)), t4 c3 (h c3 (by simp)), t4 c4 (h c4 (by simp)), t4 c5 (h c5 (by simp)), t4 c6 (h c6 (by simp))]
  rcases hv with rfl | rfl | rfl <;> rfl
end Go.Proofs.YtcbgfjghebopoaaDoor.H

/- Chapter 06: a block, a file (the program's way). -/
namespace Go.Proofs.YtcbgfjghebopoaaDoor.H
open Go.Sh Go.RowKit
set_option linter.unusedSimpArgs false
set_option linter.unusedVariables false

theorem short_val (n : Nat) (hn : 20 ≤ n) (v : Int) (h1 : -2147483648 ≤ v) (h2 : v ≤ 2147483647) (r : List Int) (bad : Bool) : tzif_reader_short_f n (be 4 v ++ r) bad = some (v, r, bad) := by
  unfold tzif_reader_short_f tzif_reader_short_b
  have this : countS (4 : Int) (be 4 v ++ r) bad = (IntKind.i64.wrap (v % 256 ^ 4), r, bad) := countS_be 4 (by omega) v r bad
  rw [count_val n hn 4 (by omega), this, show ((256 : Int) ^ 4) = 4294967296 from rfl, wi _ (by omega) (by omega)]
  have e : IntKind.i32.wrap (v % 4294967296) = v := by rw [IntKind.wrap_i32]; omega
  simp only [Option.bind_some, e]
  rw [wi _ (by omega) (by omega)]
theorem long_val (n : Nat) (hn : 20 ≤ n) (v : Int) (h1 : -9223372036854775808 ≤ v) (h2 : v ≤ 9223372036854775807) (r : List Int) (bad : Bool) : tzif_reader_long_f n (be 8 v ++ r) bad = some (v, r, bad) := by
  unfold tzif_reader_long_f tzif_reader_long_b
  have this : countS (8 : Int) (be 8 v ++ r) bad = (IntKind.i64.wrap (v % 256 ^ 8), r, bad) := countS_be 8 (by omega) v r bad
  have e : IntKind.i64.wrap (v % 256 ^ 8) = v := by rw [show ((256 : Int) ^ 8) = 18446744073709551616 from rfl, IntKind.wrap_i64]; omega
  rw [count_val n hn 8 (by omega), this, e]
  rfl
theorem byte_val (n : Nat) (hn : 20 ≤ n) (v : Int) (h1 : 0 ≤ v) (h2 : v ≤ 255) (r : List Int) (bad : Bool) : tzif_reader_byte_f n (be 1 v ++ r) bad = some (v, r, bad) := by
  unfold tzif_reader_byte_f tzif_reader_byte_b
  have this : countS (1 : Int) (be 1 v ++ r) bad = (IntKind.i64.wrap (v % 256 ^ 1), r, bad) := countS_be 1 (by omega) v r bad
  have e : IntKind.i64.wrap (v % 256 ^ 1) = v := by rw [show ((256 : Int) ^ 1) = 256 from rfl, wi _ (by omega) (by omega)]; omega
  rw [count_val n hn 1 (by omega), this, e]
  rfl
theorem row8 (n : Nat) (hn : 20 ≤ n) (T : Nat) (hT : T ≤ 4000) : ∀ (xs : List Int) (i m : Nat) (acc r : List Int) (bad : Bool), i + xs.length = T → xs.length < m → (∀ x ∈ xs, -9223372036854775808 ≤ x ∧ x ≤ 9223372036854775807) → acc.length = i →
    tzif_row_int64_1_l0 n m acc (T : Int) (i : Int) (xs.flatMap (be 8) ++ r) bad = some (acc ++ xs, r, bad)
  | [], i, m + 1, acc, r, bad, hi, _, _, _ => by
    simp only [List.length_nil] at hi
    simp only [tzif_row_int64_1_l0, tzif_row_int64_1_l0_b]
    rw [cond_neg (by omega)]
    simp
  | x :: xs, i, m + 1, acc, r, bad, hi, hm, hx, ha => by
    simp only [List.length_cons] at hi hm
    obtain ⟨x1, x2⟩ := hx x (by simp)
    have e : (x :: xs).flatMap (be 8) ++ r = be 8 x ++ (xs.flatMap (be 8) ++ r) := by simp
    simp only [tzif_row_int64_1_l0, tzif_row_int64_1_l0_b]
    rw [cond_pos (by omega), e, long_val n hn x (by omega) (by omega), wrap1 _ (by omega)]
    simp only [Option.bind_some]
    rw [cond_pos (by simp only [List.length_cons, List.length_nil]; omega), row8 n hn T hT xs (i + 1) m _ r bad (by omega) (by omega) (fun y hy => hx y (by simp [hy])) (by simp; omega)]
    simp
theorem row4 (n : Nat) (hn : 20 ≤ n) (T : Nat) (hT : T ≤ 4000) : ∀ (xs : List Int) (i m : Nat) (acc r : List Int) (bad : Bool), i + xs.length = T → xs.length < m → (∀ x ∈ xs, -2147483648 ≤ x ∧ x ≤ 2147483647) → acc.length = i →
    tzif_row_int64_l0 n m acc (T : Int) (i : Int) (xs.flatMap (be 4) ++ r) bad = some (acc ++ xs, r, bad)
  | [], i, m + 1, acc, r, bad, hi, _, _, _ => by
    simp only [List.length_nil] at hi
    simp only [tzif_row_int64_l0, tzif_row_int64_l0_b]
    rw [cond_neg (by omega)]
    simp
  | x :: xs, i, m + 1, acc, r, bad, hi, hm, hx, ha => by
    simp only [List.length_cons] at hi hm
    obtain ⟨x1, x2⟩ := hx x (by simp)
    have e : (x :: xs).flatMap (be 4) ++ r = be 4 x ++ (xs.flatMap (be 4) ++ r) := by simp
    simp only [tzif_row_int64_l0, tzif_row_int64_l0_b]
    rw [cond_pos (by omega), e, short_val n hn x (by omega) (by omega), wrap1 _ (by omega)]
    simp only [Option.bind_some]
    rw [cond_pos (by simp only [List.length_cons, List.length_nil]; omega), row4 n hn T hT xs (i + 1) m _ r bad (by omega) (by omega) (fun y hy => hx y (by simp [hy])) (by simp; omega)]
    simp
theorem row1 (n : Nat) (hn : 20 ≤ n) (T : Nat) (hT : T ≤ 4000) : ∀ (xs : List Int) (i m : Nat) (acc r : List Int) (bad : Bool), i + xs.length = T → xs.length < m → (∀ x ∈ xs, 0 ≤ x ∧ x ≤ 255) → acc.length = i →
    tzif_row_int_l0 n m acc (T : Int) (i : Int) (xs.flatMap (be 1) ++ r) bad = some (acc ++ xs, r, bad)
  | [], i, m + 1, acc, r, bad, hi, _, _, _ => by
    simp only [List.length_nil] at hi
    simp only [tzif_row_int_l0, tzif_row_int_l0_b]
    rw [cond_neg (by omega)]
    simp
  | x :: xs, i, m + 1, acc, r, bad, hi, hm, hx, ha => by
    simp only [List.length_cons] at hi hm
    obtain ⟨x1, x2⟩ := hx x (by simp)
    have e : (x :: xs).flatMap (be 1) ++ r = be 1 x ++ (xs.flatMap (be 1) ++ r) := by simp
    simp only [tzif_row_int_l0, tzif_row_int_l0_b]
    rw [cond_pos (by omega), e, byte_val n hn x (by omega) (by omega), wrap1 _ (by omega)]
    simp only [Option.bind_some]
    rw [cond_pos (by simp only [List.length_cons, List.length_nil]; omega), row1 n hn T hT xs (i + 1) m _ r bad (by omega) (by omega) (fun y hy => hx y (by simp [hy])) (by simp; omega)]
    simp
/-- The types, as they stand. -/
def kindsS : Nat → List Ty → List (List AV)
  | _, [] => []
  | o, t :: r => [.int .i64 t.1, .int .i64 (if t.2.1 then 1 else 0), .int .i64 (o : Int)] :: kindsS (o + (t.2.2.length + 1)) r
theorem kinds_len : ∀ (o : Nat) (ts : List Ty), (kindsS o ts).length = ts.length
  | _, [] => rfl
  | o, t :: r => by simp [kindsS, kinds_len _ r]
theorem kinds_l0 (n : Nat) (hn : 20 ≤ n) (T : Nat) (hT : T ≤ 255) : ∀ (xs : List Ty) (i m o : Nat) (acc : List (List AV)) (r : List Int) (bad : Bool), i + xs.length = T → xs.length < m → (∀ t ∈ xs, -89999 ≤ t.1 ∧ t.1 ≤ 93599) → o + sumL xs ≤ 256 → acc.length = i →
    tzif_kind_l0 n m acc (T : Int) (i : Int) (typesS o xs ++ r) bad = some (acc ++ kindsS o xs, r, bad)
  | [], i, m + 1, o, acc, r, bad, hi, _, _, _, _ => by
    simp only [List.length_nil] at hi
    simp only [tzif_kind_l0, tzif_kind_l0_b]
    rw [cond_neg (by omega)]
    simp [typesS, kindsS]
  | t :: xs, i, m + 1, o, acc, r, bad, hi, hm, hx, ho, ha => by
    simp only [List.length_cons, sumL] at hi hm ho
    obtain ⟨x1, x2⟩ := hx t (by simp)
    have e : typesS o (t :: xs) ++ r = be 4 t.1 ++ (be 1 (if t.2.1 then 1 else 0) ++ (be 1 (o : Int) ++ (typesS (o + (t.2.2.length + 1)) xs ++ r))) := by simp [typesS]
    have eb : tzif_reader_block_1_f n (typesS o (t :: xs) ++ r) bad = some (t.1, (if t.2.1 then 1 else 0), (o : Int), typesS (o + (t.2.2.length + 1)) xs ++ r, bad) := by
      unfold tzif_reader_block_1_f tzif_reader_block_1_b
      rw [e, short_val n hn t.1 (by omega) (by omega)]
      simp only [Option.bind_some]
      rw [byte_val n hn (if t.2.1 then 1 else 0) (by split <;> omega) (by split <;> omega)]
      simp only [Option.bind_some]
      rw [byte_val n hn (o : Int) (by omega) (by omega)]
      rfl
    simp only [tzif_kind_l0, tzif_kind_l0_b]
    rw [cond_pos (by omega), eb, wrap1 _ (by omega)]
    simp only [Option.bind_some]
    rw [cond_pos (by simp only [List.length_cons, List.length_nil]; omega)]
    refine (kinds_l0 n hn T hT xs (i + 1) m (o + (t.2.2.length + 1)) _ r bad (by omega) (by omega) (fun y hy => hx y (by simp [hy])) (by omega) (by simp only [List.length_append, List.length_cons, List.length_nil]; omega)).trans ?_
    simp [kindsS]
theorem index_zero : ∀ (s : Str) (tl : Str), (∀ c ∈ s, c ≠ 0) → Lib.indexByte (s ++ 0 :: tl) 0 = s.length
  | [], tl, _ => by simp [Lib.indexByte]
  | c :: s, tl, h => by
    have h1 : (c == 0) = false := by simpa using h c (by simp)
    have ih := index_zero s tl fun c hc => h c (by simp [hc])
    have h2 : ((s.length : Int) == -1) = false := by simp
    simp only [List.cons_append, Lib.indexByte, h1, ih, h2]
    simp
theorem bytesOf_ints (s : Str) : Lib.bytesOf (intsOf s) = s := by
  unfold Lib.bytesOf intsOf
  rw [List.map_map]
  conv => rhs; rw [← List.map_id s]
  exact List.map_congr_left fun b _ => by simp
theorem bytesQ_ints (s : Str) : bytesQ (intsOf s) = true := by
  unfold bytesQ intsOf
  rw [List.all_eq_true]
  intro x hx
  obtain ⟨b, _, rfl⟩ := List.mem_map.1 hx
  have := b.toNat_lt
  simp; omega
theorem lettersS_ints : ∀ (ts : List Ty), ∃ s : Str, lettersS ts = intsOf s
  | [] => ⟨[], rfl⟩
  | t :: r => by
    obtain ⟨s, h⟩ := lettersS_ints r
    refine ⟨t.2.2 ++ 0 :: s, ?_⟩
    simp only [lettersS] at h
    simp only [lettersS, List.flatMap_cons, h, intsOf_append, intsOf_cons, List.append_assoc]
    rfl
theorem cut_val (n : Nat) (t : Ty) (r : List Ty) (ht : okT t = true) (hl : sumL (t :: r) ≤ 256) : cutB_f n (intsOf t.2.2 ++ (0 :: lettersS r)) [0] = some (intsOf t.2.2, lettersS r, true) := by
  obtain ⟨s, hs⟩ := lettersS_ints r
  have e : intsOf t.2.2 ++ (0 :: lettersS r) = intsOf (t.2.2 ++ 0 :: s) := by rw [hs, intsOf_append, intsOf_cons]; rfl
  have hz : ∀ c ∈ t.2.2, c ≠ 0 := by
    simp only [okT, textS, Bool.and_eq_true] at ht
    intro c hc h0
    have := List.all_eq_true.1 ht.2.2 c hc
    subst h0
    exact absurd this (by decide)
  have hlen : (intsOf (t.2.2 ++ 0 :: s)).length ≤ 256 := by
    have h1 := letters_len (t :: r)
    have h2 : lettersS (t :: r) = intsOf (t.2.2 ++ 0 :: s) := by
      rw [← e]
      simp [lettersS]
    rw [h2] at h1
    omega
  have hI : cutI (intsOf (t.2.2 ++ 0 :: s)) [0] = t.2.2.length := by
    unfold cutI
    rw [bytesOf_ints, show Lib.bytesOf [0] = [0] from rfl, Lib.index_one]
    exact index_zero t.2.2 s hz
  unfold cutB_f cutB
  rw [e, hI, bytesQ_ints, decide_eq_true (show (intsOf (t.2.2 ++ 0 :: s)).length < 4294967281 by omega)]
  rw [show (true && bytesQ [0] && true && decide (([0] : List Int).length ≤ 9223372036854775807)) = true by decide, cond_true, cond_pos (by omega), Int.toNat_natCast]
  congr 1
  rw [intsOf_append, intsOf_cons]
  have hl2 : t.2.2.length = (intsOf t.2.2).length := (intsOf_length _).symm
  refine Prod.ext ?_ (Prod.ext ?_ rfl)
  · simp only; rw [hl2, List.take_left']; rfl
  · simp only
    rw [hl2, ← List.drop_drop, List.drop_left', hs]
    · rfl
    · rfl
theorem types_2_l0 (n : Nat) (ts : List Ty) (hok : ts.all okT = true) (hs : sumL ts ≤ 256) (hts : ts.length ≤ 255) (h1 h2 : List Int) (h3 : Str) : ∀ (r : List Ty) (i m o : Nat) (b : List Int) (acc : List (List AV)), ts.drop i = r → (lettersS ts).drop o = lettersS r → (kindsS 0 ts).drop i = kindsS o r → o + sumL r = sumL ts → r.length < m → acc.length = i →
    tzif_reader_block_2_l0 n m (lettersS ts) (kindsS 0 ts) (ts.length : Int) (i : Int) b false acc h1 h2 h3 = some (b, false, acc ++ r.map cT, h1, h2, h3)
  | [], i, m + 1, o, b, acc, hd, _, _, _, _, _ => by
    have hi := drop_nil hd
    simp only [tzif_reader_block_2_l0, tzif_reader_block_2_l0_b]
    rw [cond_neg (by omega)]
    simp
  | t :: r, i, m + 1, o, b, acc, hd, hl, hk, ho, hm, ha => by
    obtain ⟨k1, k2, k3⟩ := drop_cons hd
    simp only [List.length_cons, sumL] at hm ho
    have ht : okT t = true := List.all_eq_true.1 hok t (List.mem_of_getElem? k1)
    obtain ⟨j1, j2, j3⟩ := drop_cons (show (kindsS 0 ts).drop i = [.int .i64 t.1, .int .i64 (if t.2.1 then 1 else 0), .int .i64 (o : Int)] :: kindsS (o + (t.2.2.length + 1)) r from hk)
    have hlen := letters_len ts
    have e0 : (if ((lettersS ts).length : Int) < (o : Int) then ((lettersS ts).length : Int) else (o : Int)) = (o : Int) := if_neg (by omega)
    have el : (lettersS ts).drop o = intsOf t.2.2 ++ (0 :: lettersS r) := by rw [hl]; simp [lettersS]
    have ej : tzif_reader_block_2_j0 n true b false acc h1 h2 h3 t.1 (if t.2.1 then 1 else 0) (o : Int) = some (b, false, acc, h1, h2, h3, t.1, (if t.2.1 then 1 else 0), (o : Int)) := by
      unfold tzif_reader_block_2_j0 tzif_reader_block_2_j0_b
      cases t.2.1 <;> rfl
    simp only [tzif_reader_block_2_l0, tzif_reader_block_2_l0_b]
    rw [cond_pos (by omega), cond_pos (by omega), Int.toNat_natCast, j1, wrap1 _ (by omega)]
    simp only [Option.bind_some, unc, getI, unn, decide_true, cond_true, e0]
    rw [cond_pos (by omega), cond_pos (by omega), Int.toNat_natCast, el, cut_val n t r ht (by simp only [sumL]; omega)]
    simp only [Option.bind_some, ej, strOf_intsOf]
    rw [cond_pos (by simp only [List.length_cons, List.length_nil]; omega)]
    have e5 : ((if t.2.1 = true then (1 : Int) else 0) == 1) = t.2.1 := by cases t.2.1 <;> rfl
    rw [e5]
    refine (types_2_l0 n ts hok hs hts h1 h2 h3 r (i + 1) m (o + (t.2.2.length + 1)) b _ k2 ?_ j2 (by omega) (by omega) (by simp only [List.length_append, List.length_cons, List.length_nil]; omega)).trans ?_
    · rw [← List.drop_drop, el, show t.2.2.length + 1 = (intsOf t.2.2).length + 1 by rw [intsOf_length], ← List.drop_drop, List.drop_left']
      · rfl
      · rfl
    · simp [cT]
theorem block_2_ok (n : Nat) (hn : 4001 ≤ n) (v : Int) (ts : List Ty) (ti ix : List Int) (r : List Int) (h1 : 1 ≤ ts.length) (h2 : ts.length ≤ 255) (h3 : ti.length ≤ 4000) (h4 : ti.length = ix.length) (h6 : ts.all okT = true) (h8 : sumL ts ≤ 256) (hti : ∀ x ∈ ti, -9223372036854775808 ≤ x ∧ x ≤ 9223372036854775807) (hix : ∀ x ∈ ix, 0 ≤ x ∧ x ≤ 255) :
    tzif_reader_block_2_f n v 0 0 0 (ti.length : Int) (ts.length : Int) (sumL ts : Int) 8 (ti.flatMap (be 8) ++ (ix.flatMap (be 1) ++ (typesS 0 ts ++ (lettersS ts ++ r)))) false = some (ts.map cT, ti, ix, [], r, false) := by
  have hs : 2 ≤ sumL ts := by
    cases ts with
    | nil => simp at h1
    | cons t r' =>
      have := List.all_eq_true.1 h6 t (by simp)
      have h0 : t.2.2 ≠ [] := fun e => by simp [okT, e] at this
      have := List.length_pos_iff.2 h0
      simp only [sumL]; omega
  have hoff : ∀ t ∈ ts, -89999 ≤ t.1 ∧ t.1 ≤ 93599 := fun t ht => by
    have := List.all_eq_true.1 h6 t ht
    simp only [okT, Bool.and_eq_true, Bool.not_eq_true', decide_eq_false_iff_not] at this
    omega
  have hlong : tzif_head_long_f n v 0 0 0 (ti.length : Int) (ts.length : Int) (sumL ts : Int) 8 = some (((ti.length * 9 + ts.length * 6 + sumL ts : Nat)) : Int) := by
    unfold tzif_head_long_f tzif_head_long_b
    have w1 : IntKind.i64.wrap ((8 : Int) + 1) = 9 := by decide
    have w4 : IntKind.i64.wrap ((0 : Int) * IntKind.i64.wrap ((8 : Int) + 4)) = 0 := by decide
    rw [w1, w4, wi ((ti.length : Int) * 9) (by omega) (by omega), wi ((ts.length : Int) * 6) (by omega) (by omega), wi ((ti.length : Int) * 9 + (ts.length : Int) * 6) (by omega) (by omega)]
    have hX : IntKind.i64.wrap (((ti.length : Int) * 9 + (ts.length : Int) * 6) + (sumL ts : Int)) = ((ti.length : Int) * 9 + (ts.length : Int) * 6) + (sumL ts : Int) := wi _ (by omega) (by omega)
    simp only [Int.add_zero, hX]
    congr 1
  have hmay : tzif_head_may_f n v 0 0 0 (ti.length : Int) (ts.length : Int) (sumL ts : Int) = some true := by
    unfold tzif_head_may_f tzif_head_may_b
    rw [cond_pos (by omega), cond_pos (by omega), cond_pos (by omega), cond_pos (by omega), cond_pos (by omega), cond_pos (by omega)]
    rfl
  have hj : tzif_reader_block_2_j1 n 8 (ti.flatMap (be 8) ++ (ix.flatMap (be 1) ++ (typesS 0 ts ++ (lettersS ts ++ r)))) false v 0 0 0 (ti.length : Int) (ts.length : Int) (sumL ts : Int) [] [] [] [] = some (false, ti.flatMap (be 8) ++ (ix.flatMap (be 1) ++ (typesS 0 ts ++ (lettersS ts ++ r))), false, v, 0, 0, 0, (ti.length : Int), (ts.length : Int), (sumL ts : Int), [], [], [], []) := by
    unfold tzif_reader_block_2_j1 tzif_reader_block_2_j1_b
    simp only [hmay, hlong, cond_false, Option.bind_some, Bool.not_true]
    rw [decide_eq_false]
    simp only [List.length_append, be4s_len, types_len, letters_len]
    omega
  unfold tzif_reader_block_2_f tzif_reader_block_2_b
  simp only [hj, Option.bind_some, cond_false]
  have e1 := row8 n (by omega) ti.length h3 ti 0 n [] (ix.flatMap (be 1) ++ (typesS 0 ts ++ (lettersS ts ++ r))) false (by omega) (by omega) hti rfl
  simp only [Int.natCast_zero, List.nil_append] at e1
  simp only [tzif_row_int64_1_f, tzif_row_int64_1_b, e1, Option.bind_some]
  have e2 := row1 n (by omega) ti.length h3 ix 0 n [] (typesS 0 ts ++ (lettersS ts ++ r)) false (by omega) (by omega) hix rfl
  simp only [Int.natCast_zero, List.nil_append] at e2
  simp only [tzif_row_int_f, tzif_row_int_b, e2, Option.bind_some]
  have e3 := kinds_l0 n (by omega) ts.length h2 ts 0 n 0 [] (lettersS ts ++ r) false (by omega) (by omega) hoff (by omega) rfl
  simp only [Int.natCast_zero, List.nil_append] at e3
  simp only [tzif_kind_f, tzif_kind_b, e3, Option.bind_some, take_val]
  have e4 : takeS (sumL ts : Int) (lettersS ts ++ r) false = (lettersS ts, r, false) := by
    rw [← letters_len]; exact takeS_app _ _ _
  have w4 : IntKind.i64.wrap (IntKind.i64.wrap (IntKind.i64.wrap ((0 : Int) * IntKind.i64.wrap ((8 : Int) + 4)) + 0) + 0) = 0 := by decide
  have e5 : takeS 0 r false = ([], r, false) := takeS_app [] r false
  simp only [e4, w4, e5, kinds_len]
  have e6 := types_2_l0 n ts h6 h8 h2 ti ix [] ts 0 n 0 r [] (by simp) (by simp) (by simp) (by omega) (by omega) rfl
  simp only [Int.natCast_zero, List.nil_append] at e6
  simp only [e6, Option.bind_some]
theorem types_l0 (n : Nat) (ts : List Ty) (hok : ts.all okT = true) (hs : sumL ts ≤ 256) (hts : ts.length ≤ 255) (h1 h2 : List Int) (h3 : Str) : ∀ (r : List Ty) (i m o : Nat) (b : List Int) (acc : List (List AV)), ts.drop i = r → (lettersS ts).drop o = lettersS r → (kindsS 0 ts).drop i = kindsS o r → o + sumL r = sumL ts → r.length < m → acc.length = i →
    tzif_reader_block_l0 n m (lettersS ts) (kindsS 0 ts) (ts.length : Int) (i : Int) b false acc h1 h2 h3 = some (b, false, acc ++ r.map cT, h1, h2, h3)
  | [], i, m + 1, o, b, acc, hd, _, _, _, _, _ => by
    have hi := drop_nil hd
    simp only [tzif_reader_block_l0, tzif_reader_block_l0_b]
    rw [cond_neg (by omega)]
    simp
  | t :: r, i, m + 1, o, b, acc, hd, hl, hk, ho, hm, ha => by
    obtain ⟨k1, k2, k3⟩ := drop_cons hd
    simp only [List.length_cons, sumL] at hm ho
    have ht : okT t = true := List.all_eq_true.1 hok t (List.mem_of_getElem? k1)
    obtain ⟨j1, j2, j3⟩ := drop_cons (show (kindsS 0 ts).drop i = [.int .i64 t.1, .int .i64 (if t.2.1 then 1 else 0), .int .i64 (o : Int)] :: kindsS (o + (t.2.2.length + 1)) r from hk)
    have hlen := letters_len ts
    have e0 : (if ((lettersS ts).length : Int) < (o : Int) then ((lettersS ts).length : Int) else (o : Int)) = (o : Int) := if_neg (by omega)
    have el : (lettersS ts).drop o = intsOf t.2.2 ++ (0 :: lettersS r) := by rw [hl]; simp [lettersS]
    have ej : tzif_reader_block_j0 n true b false acc h1 h2 h3 t.1 (if t.2.1 then 1 else 0) (o : Int) = some (b, false, acc, h1, h2, h3, t.1, (if t.2.1 then 1 else 0), (o : Int)) := by
      unfold tzif_reader_block_j0 tzif_reader_block_j0_b
      cases t.2.1 <;> rfl
    simp only [tzif_reader_block_l0, tzif_reader_block_l0_b]
    rw [cond_pos (by omega), cond_pos (by omega), Int.toNat_natCast, j1, wrap1 _ (by omega)]
    simp only [Option.bind_some, unc, getI, unn, decide_true, cond_true, e0]
    rw [cond_pos (by omega), cond_pos (by omega), Int.toNat_natCast, el, cut_val n t r ht (by simp only [sumL]; omega)]
    simp only [Option.bind_some, ej, strOf_intsOf]
    rw [cond_pos (by simp only [List.length_cons, List.length_nil]; omega)]
    have e5 : ((if t.2.1 = true then (1 : Int) else 0) == 1) = t.2.1 := by cases t.2.1 <;> rfl
    rw [e5]
    refine (types_l0 n ts hok hs hts h1 h2 h3 r (i + 1) m (o + (t.2.2.length + 1)) b _ k2 ?_ j2 (by omega) (by omega) (by simp only [List.length_append, List.length_cons, List.length_nil]; omega)).trans ?_
    · rw [← List.drop_drop, el, show t.2.2.length + 1 = (intsOf t.2.2).length + 1 by rw [intsOf_length], ← List.drop_drop, List.drop_left']
      · rfl
      · rfl
    · simp [cT]
theorem block_ok (n : Nat) (hn : 4001 ≤ n) (v : Int) (ts : List Ty) (ti ix : List Int) (r : List Int) (h1 : 1 ≤ ts.length) (h2 : ts.length ≤ 255) (h3 : ti.length ≤ 4000) (h4 : ti.length = ix.length) (h6 : ts.all okT = true) (h8 : sumL ts ≤ 256) (hti : ∀ x ∈ ti, -2147483648 ≤ x ∧ x ≤ 2147483647) (hix : ∀ x ∈ ix, 0 ≤ x ∧ x ≤ 255) :
    tzif_reader_block_f n v 0 0 0 (ti.length : Int) (ts.length : Int) (sumL ts : Int) 4 (ti.flatMap (be 4) ++ (ix.flatMap (be 1) ++ (typesS 0 ts ++ (lettersS ts ++ r)))) false = some (ts.map cT, ti, ix, [], r, false) := by
  have hs : 2 ≤ sumL ts := by
    cases ts with
    | nil => simp at h1
    | cons t r' =>
      have := List.all_eq_true.1 h6 t (by simp)
      have h0 : t.2.2 ≠ [] := fun e => by simp [okT, e] at this
      have := List.length_pos_iff.2 h0
      simp only [sumL]; omega
  have hoff : ∀ t ∈ ts, -89999 ≤ t.1 ∧ t.1 ≤ 93599 := fun t ht => by
    have := List.all_eq_true.1 h6 t ht
    simp only [okT, Bool.and_eq_true, Bool.not_eq_true', decide_eq_false_iff_not] at this
    omega
  have hlong : tzif_head_long_f n v 0 0 0 (ti.length : Int) (ts.length : Int) (sumL ts : Int) 4 = some (((ti.length * 5 + ts.length * 6 + sumL ts : Nat)) : Int) := by
    unfold tzif_head_long_f tzif_head_long_b
    have w1 : IntKind.i64.wrap ((4 : Int) + 1) = 5 := by decide
    have w4 : IntKind.i64.wrap ((0 : Int) * IntKind.i64.wrap ((4 : Int) + 4)) = 0 := by decide
    rw [w1, w4, wi ((ti.length : Int) * 5) (by omega) (by omega), wi ((ts.length : Int) * 6) (by omega) (by omega), wi ((ti.length : Int) * 5 + (ts.length : Int) * 6) (by omega) (by omega)]
    have hX : IntKind.i64.wrap (((ti.length : Int) * 5 + (ts.length : Int) * 6) + (sumL ts : Int)) = ((ti.length : Int) * 5 + (ts.length : Int) * 6) + (sumL ts : Int) := wi _ (by omega) (by omega)
    simp only [Int.add_zero, hX]
    congr 1
  have hmay : tzif_head_may_f n v 0 0 0 (ti.length : Int) (ts.length : Int) (sumL ts : Int) = some true := by
    unfold tzif_head_may_f tzif_head_may_b
    rw [cond_pos (by omega), cond_pos (by omega), cond_pos (by omega), cond_pos (by omega), cond_pos (by omega), cond_pos (by omega)]
    rfl
  have hj : tzif_reader_block_j1 n 4 (ti.flatMap (be 4) ++ (ix.flatMap (be 1) ++ (typesS 0 ts ++ (lettersS ts ++ r)))) false v 0 0 0 (ti.length : Int) (ts.length : Int) (sumL ts : Int) [] [] [] [] = some (false, ti.flatMap (be 4) ++ (ix.flatMap (be 1) ++ (typesS 0 ts ++ (lettersS ts ++ r))), false, v, 0, 0, 0, (ti.length : Int), (ts.length : Int), (sumL ts : Int), [], [], [], []) := by
    unfold tzif_reader_block_j1 tzif_reader_block_j1_b
    simp only [hmay, hlong, cond_false, Option.bind_some, Bool.not_true]
    rw [decide_eq_false]
    simp only [List.length_append, be4s_len, types_len, letters_len]
    omega
  unfold tzif_reader_block_f tzif_reader_block_b
  simp only [hj, Option.bind_some, cond_false]
  have e1 := row4 n (by omega) ti.length h3 ti 0 n [] (ix.flatMap (be 1) ++ (typesS 0 ts ++ (lettersS ts ++ r))) false (by omega) (by omega) hti rfl
  simp only [Int.natCast_zero, List.nil_append] at e1
  simp only [tzif_row_int64_f, tzif_row_int64_b, e1, Option.bind_some]
  have e2 := row1 n (by omega) ti.length h3 ix 0 n [] (typesS 0 ts ++ (lettersS ts ++ r)) false (by omega) (by omega) hix rfl
  simp only [Int.natCast_zero, List.nil_append] at e2
  simp only [tzif_row_int_f, tzif_row_int_b, e2, Option.bind_some]
  have e3 := kinds_l0 n (by omega) ts.length h2 ts 0 n 0 [] (lettersS ts ++ r) false (by omega) (by omega) hoff (by omega) rfl
  simp only [Int.natCast_zero, List.nil_append] at e3
  simp only [tzif_kind_f, tzif_kind_b, e3, Option.bind_some, take_val]
  have e4 : takeS (sumL ts : Int) (lettersS ts ++ r) false = (lettersS ts, r, false) := by
    rw [← letters_len]; exact takeS_app _ _ _
  have w4 : IntKind.i64.wrap (IntKind.i64.wrap (IntKind.i64.wrap ((0 : Int) * IntKind.i64.wrap ((4 : Int) + 4)) + 0) + 0) = 0 := by decide
  have e5 : takeS 0 r false = ([], r, false) := takeS_app [] r false
  simp only [e4, w4, e5, kinds_len]
  have e6 := types_l0 n ts h6 h8 h2 ti ix [] ts 0 n 0 r [] (by simp) (by simp) (by simp) (by omega) (by omega) rfl
  simp only [Int.natCast_zero, List.nil_append] at e6
  simp only [e6, Option.bind_some]
end Go.Proofs.YtcbgfjghebopoaaDoor.H

/- Chapter 06: a file that is put is parsed as it was; cut off, or with more behind, it is none (the program's way). -/
namespace Go.Proofs.YtcbgfjghebopoaaDoor.H
open Go.Sh Go.RowKit
set_option linter.unusedSimpArgs false
set_option linter.unusedVariables false

theorem block2_bad (n : Nat) (v c1 c2 c3 c4 c5 c6 w : Int) (b : List Int) : tzif_reader_block_2_f n v c1 c2 c3 c4 c5 c6 w b true = some ([], [], [], [], b, true) := by
  unfold tzif_reader_block_2_f tzif_reader_block_2_b tzif_reader_block_2_j1 tzif_reader_block_2_j1_b
  rfl
theorem block_bad (n : Nat) (v c1 c2 c3 c4 c5 c6 w : Int) (b : List Int) : tzif_reader_block_f n v c1 c2 c3 c4 c5 c6 w b true = some ([], [], [], [], b, true) := by
  unfold tzif_reader_block_f tzif_reader_block_b tzif_reader_block_j1 tzif_reader_block_j1_b
  rfl
theorem long2_val (n : Nat) (v : Int) (a b c : Nat) (ha : a ≤ 4000) (hb : b ≤ 255) (hc : c ≤ 256) : tzif_head_long_f n v 0 0 0 (a : Int) (b : Int) (c : Int) 8 = some ((a * 9 + b * 6 + c : Nat) : Int) := by
  unfold tzif_head_long_f tzif_head_long_b
  have w1 : IntKind.i64.wrap ((8 : Int) + 1) = 9 := by decide
  have w4 : IntKind.i64.wrap ((0 : Int) * IntKind.i64.wrap ((8 : Int) + 4)) = 0 := by decide
  rw [w1, w4, wi ((a : Int) * 9) (by omega) (by omega), wi ((b : Int) * 6) (by omega) (by omega), wi ((a : Int) * 9 + (b : Int) * 6) (by omega) (by omega)]
  have hX : IntKind.i64.wrap (((a : Int) * 9 + (b : Int) * 6) + (c : Int)) = ((a : Int) * 9 + (b : Int) * 6) + (c : Int) := wi _ (by omega) (by omega)
  simp only [Int.add_zero, hX]
  congr 1
theorem block2_short (n : Nat) (v : Int) (a b c : Nat) (ha : a ≤ 4000) (hb : b ≤ 255) (hb1 : 1 ≤ b) (hc : c ≤ 256) (hc1 : 1 ≤ c) (r : List Int) (hr : r.length < a * 9 + b * 6 + c) : tzif_reader_block_2_f n v 0 0 0 (a : Int) (b : Int) (c : Int) 8 r false = some ([], [], [], [], r, true) := by
  have hmay : tzif_head_may_f n v 0 0 0 (a : Int) (b : Int) (c : Int) = some true := by
    unfold tzif_head_may_f tzif_head_may_b
    rw [cond_pos (by omega), cond_pos (by omega), cond_pos (by omega), cond_pos (by omega), cond_pos (by omega), cond_pos (by omega)]
    rfl
  unfold tzif_reader_block_2_f tzif_reader_block_2_b tzif_reader_block_2_j1 tzif_reader_block_2_j1_b
  simp only [hmay, long2_val n v a b c ha hb hc, cond_false, Option.bind_some, Bool.not_true]
  rw [decide_eq_true (by omega)]
  rfl
abbrev Zo := List (List AV) × List Int × List Int × Str × List Int × Bool
theorem file_j0_bad (n : Nat) (b : List Int) (z0 : List (List AV)) (z1 z2 : List Int) (z3 : Str) (a0 a1 a2 a3 a4 a5 a6 b0 b1 b2 b3 b4 b5 b6 : Int) (y0 : List (List AV)) (y1 y2 : List Int) (y3 : Str) :
    tzif_reader_file_j0 n b true z0 z1 z2 z3 a0 a1 a2 a3 a4 a5 a6 b0 b1 b2 b3 b4 b5 b6 y0 y1 y2 y3 = some (b, true, z0, z1, z2, z3, a0, a1, a2, a3, a4, a5, a6, b0, b1, b2, b3, b4, b5, b6, y0, y1, y2, y3) := rfl
theorem file_bad (n : Nat) (hn : 20 ≤ n) (b : List Int) (h : (headR b false).2.2.2.2.2.2.2.2 = true) : ∃ x : Zo, tzif_reader_file_f n b false = some x ∧ x.2.2.2.2.2 = true := by
  unfold tzif_reader_file_f tzif_reader_file_b
  rw [head_val' n hn]
  generalize headR b false = o at h
  simp only [Option.bind_some, h]
  cases hv : o.1 == 0 with
  | true => rw [cond_true, block_bad]; exact ⟨_, rfl, rfl⟩
  | false =>
    simp only [cond_false, tzif_head_long_f, tzif_head_long_b, Option.bind_some, take_val, head_val' n hn]
    generalize hl : IntKind.i64.wrap _ = l
    have h2 := takeS_bad l o.2.2.2.2.2.2.2.1
    generalize takeS l o.2.2.2.2.2.2.2.1 true = t at h2
    have h3 := headR_bad t.2.1
    rw [h2]
    generalize headR t.2.1 true = p at h3
    simp only [h3, block2_bad, Option.bind_some, file_j0_bad]
    exact ⟨_, rfl, rfl⟩
theorem file_step (n : Nat) (hn : 20 ≤ n) {b r r2 r3 r4 : List Int} {x : List Int} {bad2 bad3 bad4 : Bool} {v2 d1 d2 d3 d4 d5 d6 : Int} {z0 : List (List AV)} {z1 z2 : List Int} {z3 : Str}
    (h1 : headR b false = (50, 0, 0, 0, 0, 1, 1, r, false)) (h2 : takeS 7 r false = (x, r2, bad2)) (h3 : headR r2 bad2 = (v2, d1, d2, d3, d4, d5, d6, r3, bad3)) (h4 : tzif_reader_block_2_f n v2 d1 d2 d3 d4 d5 d6 8 r3 bad3 = some (z0, z1, z2, z3, r4, bad4)) :
    tzif_reader_file_f n b false = (tzif_reader_file_j0 n r4 bad4 [] [] [] [] 50 0 0 0 0 1 1 v2 d1 d2 d3 d4 d5 d6 z0 z1 z2 z3).bind fun o312 => (cond (!o312.2.1) (cond (decide (0 ≤ (IntKind.i64.wrap ((o312.1.length : Int) - (1 : Int))))) (cond (decide ((IntKind.i64.wrap ((o312.1.length : Int) - (1 : Int))) ≤ (o312.1.length : Int))) (cond (decide ((1 : Int) ≤ ((IntKind.i64.wrap ((o312.1.length : Int) - (1 : Int))).toNat : Int))) (some (o312.2.2.2.2.2.2.2.2.2.2.2.2.2.2.2.2.2.2.2.2.1, o312.2.2.2.2.2.2.2.2.2.2.2.2.2.2.2.2.2.2.2.2.2.1, o312.2.2.2.2.2.2.2.2.2.2.2.2.2.2.2.2.2.2.2.2.2.2.1, strOf ((o312.1.take (IntKind.i64.wrap ((o312.1.length : Int) - (1 : Int))).toNat).drop 1), ([] : List Int), o312.2.1)) none) none) none) (some (o312.2.2.2.2.2.2.2.2.2.2.2.2.2.2.2.2.2.2.2.2.1, o312.2.2.2.2.2.2.2.2.2.2.2.2.2.2.2.2.2.2.2.2.2.1, o312.2.2.2.2.2.2.2.2.2.2.2.2.2.2.2.2.2.2.2.2.2.2.1, o312.2.2.2.2.2.2.2.2.2.2.2.2.2.2.2.2.2.2.2.2.2.2.2, o312.1, o312.2.1))) := by
  unfold tzif_reader_file_f tzif_reader_file_b
  have e7 : tzif_head_long_f n 50 0 0 0 0 1 1 4 = some 7 := by unfold tzif_head_long_f tzif_head_long_b; rfl
  rw [head_val' n hn, h1]
  simp only [Option.bind_some]
  rw [show ((50 : Int) == 0) = false by decide, cond_false, e7]
  simp only [Option.bind_some, take_val, h2, head_val' n hn, h3, h4]
theorem head_ex {b : List Int} {bad : Bool} (h : (headR b bad).2.2.2.2.2.2.2.2 = true) : ∃ v2 d1 d2 d3 d4 d5 d6 r3, headR b bad = (v2, d1, d2, d3, d4, d5, d6, r3, true) := by
  generalize headR b bad = o at h
  obtain ⟨a0, a1, a2, a3, a4, a5, a6, a7, a8⟩ := o
  simp only at h
  subst h
  exact ⟨a0, a1, a2, a3, a4, a5, a6, a7, rfl⟩
theorem file_step_bad (n : Nat) (hn : 20 ≤ n) {b r r2 r3 r4 : List Int} {x : List Int} {bad2 bad3 : Bool} {v2 d1 d2 d3 d4 d5 d6 : Int} {z0 : List (List AV)} {z1 z2 : List Int} {z3 : Str}
    (h1 : headR b false = (50, 0, 0, 0, 0, 1, 1, r, false)) (h2 : takeS 7 r false = (x, r2, bad2)) (h3 : headR r2 bad2 = (v2, d1, d2, d3, d4, d5, d6, r3, bad3)) (h4 : tzif_reader_block_2_f n v2 d1 d2 d3 d4 d5 d6 8 r3 bad3 = some (z0, z1, z2, z3, r4, true)) : ∃ x : Zo, tzif_reader_file_f n b false = some x ∧ x.2.2.2.2.2 = true := by
  rw [file_step n hn h1 h2 h3 h4, file_j0_bad]
  exact ⟨_, rfl, rfl⟩
/-- Is what stands behind the second block no footer. -/
def tailBad (t : List Int) : Bool := decide (t.length < 2) || t.getD 0 0 != 10 || t.getD (t.length - 1) 0 != 10
theorem file_tail (n : Nat) (hn : 20 ≤ n) {b r r2 r3 t : List Int} {x : List Int} {d1 d2 d3 d4 d5 d6 : Int} {z0 : List (List AV)} {z1 z2 : List Int} {z3 : Str} (ht : t.length ≤ 100000)
    (h1 : headR b false = (50, 0, 0, 0, 0, 1, 1, r, false)) (h2 : takeS 7 r false = (x, r2, false)) (h3 : headR r2 false = (50, d1, d2, d3, d4, d5, d6, r3, false)) (h4 : tzif_reader_block_2_f n 50 d1 d2 d3 d4 d5 d6 8 r3 false = some (z0, z1, z2, z3, t, false)) :
    tzif_reader_file_f n b false = some (if tailBad t then (z0, z1, z2, z3, t, true) else (z0, z1, z2, strOf ((t.take (t.length - 1)).drop 1), [], false)) := by
  rw [file_step n hn h1 h2 h3 h4]
  have hj : tzif_reader_file_j0 n t false [] [] [] [] 50 0 0 0 0 1 1 50 d1 d2 d3 d4 d5 d6 z0 z1 z2 z3 = some (t, tailBad t, [], [], [], [], 50, 0, 0, 0, 0, 1, 1, 50, d1, d2, d3, d4, d5, d6, z0, z1, z2, z3) := by
    unfold tzif_reader_file_j0 tzif_reader_file_j0_b tailBad
    rw [cond_false, show ((50 : Int) != 50) = false by decide, cond_false]
    by_cases c1 : t.length < 2
    · rw [cond_pos (by omega), decide_eq_true c1]; rfl
    · rw [cond_neg (by omega), decide_eq_false c1, get_of (show 0 < t.length by omega), Option.bind_some]
      cases c2 : t.getD 0 0 != 10 with
      | true => rfl
      | false =>
        rw [cond_false, wi _ (by omega) (by omega), cond_pos (by omega), show ((t.length : Int) - 1).toNat = t.length - 1 by omega, get_of (show t.length - 1 < t.length by omega)]
        rfl
  rw [hj]
  simp only [Option.bind_some]
  cases hb : tailBad t with
  | true => rfl
  | false =>
    have c1 : ¬ t.length < 2 := by
      intro h
      simp [tailBad, h] at hb
    rw [wi _ (by omega) (by omega), cond_pos (by omega), cond_pos (by omega), show ((t.length : Int) - 1).toNat = t.length - 1 by omega, cond_pos (by omega)]
    rfl
theorem parse_err (n : Nat) (b : List Int) (h : ∃ x : Zo, tzif_reader_file_f n b false = some x ∧ x.2.2.2.2.2 = true) : tzif_Parse_f n b = some ([], [], [], [], 60) := by
  obtain ⟨x, h1, h2⟩ := h
  unfold tzif_Parse_f tzif_Parse_b
  rw [h1]
  simp only [Option.bind_some, h2]
  rfl
theorem parse_ok (n : Nat) (hn : 4001 ≤ n) (b : List Int) (ts : List Ty) (ti ix : List Int) (foot : Str) (h : tzif_reader_file_f n b false = some (ts.map cT, ti, ix, foot, [], false)) (hR : RightS ts ti ix foot = true) : tzif_Parse_f n b = some (ts.map cT, ti, ix, foot, 0) := by
  unfold tzif_Parse_f tzif_Parse_b
  rw [h]
  simp only [Option.bind_some, cond_false, List.length_nil, Int.natCast_zero]
  rw [cond_neg (by omega), right_val n hn, hR]
  rfl
/-- What stands ahead of the second block. -/
def aheadS (ts : List Ty) (ti : List Int) : List Int := headS [0, 0, 0, 0, 1, 1] ++ (List.replicate 7 0 ++ headS [0, 0, 0, (ti.length : Int), (ts.length : Int), (sumL ts : Int)])
theorem put_split (ts : List Ty) (ti ix : List Int) (foot : Str) : putS ts ti ix foot = aheadS ts ti ++ (bodyS ts ti ix ++ (10 :: (intsOf foot ++ [10]))) := by
  simp [putS, aheadS, letters_len]
theorem ahead_len (ts : List Ty) (ti : List Int) : (aheadS ts ti).length = 95 := by
  simp only [aheadS, List.length_append, headS_len, List.length_replicate, List.length_cons, List.length_nil]
theorem body_len (ts : List Ty) (ti ix : List Int) (h : ti.length = ix.length) : (bodyS ts ti ix).length = ti.length * 9 + ts.length * 6 + sumL ts := by
  simp only [bodyS, List.length_append, be4s_len, types_len, letters_len]; omega
theorem head0 (r : List Int) : headR (headS [0, 0, 0, 0, 1, 1] ++ r) false = (50, 0, 0, 0, 0, 1, 1, r, false) := by
  rw [headS_V]
  exact headR_ok 50 0 0 0 0 1 1 (.inr (.inl rfl)) (by decide) r
theorem head1 (a b c : Nat) (ha : a ≤ 4000) (hb : b ≤ 255) (hc : c ≤ 256) (r : List Int) : headR (headS [0, 0, 0, (a : Int), (b : Int), (c : Int)] ++ r) false = (50, 0, 0, 0, (a : Int), (b : Int), (c : Int), r, false) := by
  rw [headS_V]
  refine headR_ok 50 0 0 0 _ _ _ (.inr (.inl rfl)) (fun x hx => ?_) r
  simp only [List.mem_cons, List.not_mem_nil, or_false] at hx
  rcases hx with rfl | rfl | rfl | rfl | rfl | rfl <;> omega
theorem ix_range {ts : List Ty} {ti ix : List Int} {foot : Str} (hR : RightS ts ti ix foot = true) : ∀ x ∈ ix, 0 ≤ x ∧ x ≤ 255 := by
  obtain ⟨h1, h2, h3, h4, h5, h6, h7, h8⟩ := right_parts hR
  intro x hx
  obtain ⟨k, hk, rfl⟩ := List.mem_iff_getElem.1 hx
  have h := List.all_eq_true.1 h7 k (by rw [List.mem_range'_1]; omega)
  simp only [okAt, Bool.and_eq_true, decide_eq_true_eq] at h
  have e : ix.getD k 0 = ix[k] := by rw [List.getD_eq_getElem?_getD, List.getElem?_eq_getElem hk]; rfl
  rw [e] at h
  omega
/-- A right zone's bytes, with any tail. -/
theorem file_of (n : Nat) (hn : 4001 ≤ n) (ts : List Ty) (ti ix : List Int) (foot : Str) (hR : RightS ts ti ix foot = true) (hti : ∀ x ∈ ti, -9223372036854775808 ≤ x ∧ x ≤ 9223372036854775807) (t : List Int) (ht : t.length ≤ 100000) :
    tzif_reader_file_f n (aheadS ts ti ++ (bodyS ts ti ix ++ t)) false = some (if tailBad t then (ts.map cT, ti, ix, [], t, true) else (ts.map cT, ti, ix, strOf ((t.take (t.length - 1)).drop 1), [], false)) := by
  obtain ⟨h1, h2, h3, h4, h5, h6, h7, h8⟩ := right_parts hR
  have e0 : aheadS ts ti ++ (bodyS ts ti ix ++ t) = headS [0, 0, 0, 0, 1, 1] ++ (List.replicate 7 0 ++ (headS [0, 0, 0, (ti.length : Int), (ts.length : Int), (sumL ts : Int)] ++ (ti.flatMap (be 8) ++ (ix.flatMap (be 1) ++ (typesS 0 ts ++ (lettersS ts ++ t)))))) := by
    simp [aheadS, bodyS]
  rw [e0]
  refine file_tail n (by omega) ht (head0 _) (takeS_app (List.replicate 7 0) _ false) (head1 _ _ _ h3 h2 h8 _) ?_
  exact block_2_ok n hn 50 ts ti ix t h1 h2 h3 h4 h6 h8 hti (ix_range hR)
theorem parse_put (n : Nat) (hn : 4001 ≤ n) (ts : List Ty) (ti ix : List Int) (foot : Str) (hR : RightS ts ti ix foot = true) (hti : ∀ x ∈ ti, -9223372036854775808 ≤ x ∧ x ≤ 9223372036854775807) : tzif_Parse_f n (putS ts ti ix foot) = some (ts.map cT, ti, ix, foot, 0) := by
  have h5 := (right_parts hR).2.2.2.2.1
  have hf : foot.length ≤ 100 := by
    simp only [textS, Bool.and_eq_true, decide_eq_true_eq] at h5
    omega
  refine parse_ok n hn _ ts ti ix foot ?_ hR
  have hl : (10 :: (intsOf foot ++ [10])).length = foot.length + 2 := by simp [intsOf_length]
  have hb : tailBad (10 :: (intsOf foot ++ [10])) = false := by
    unfold tailBad
    rw [decide_eq_false (by omega), hl]
    have e2 : (10 :: (intsOf foot ++ [10])).getD (foot.length + 2 - 1) 0 = 10 := by
      rw [show foot.length + 2 - 1 = foot.length + 1 by omega, List.getD_cons_succ, List.getD_eq_getElem?_getD, List.getElem?_append_right (by rw [intsOf_length]; omega), intsOf_length]
      simp
    rw [e2]
    rfl
  rw [put_split, file_of n hn ts ti ix foot hR hti _ (by omega), hb]
  have e3 : ((10 :: (intsOf foot ++ [10])).take ((10 :: (intsOf foot ++ [10])).length - 1)).drop 1 = intsOf foot := by
    rw [hl, show foot.length + 2 - 1 = foot.length + 1 by omega, List.take_succ_cons, List.drop_succ_cons, List.drop_zero, ← intsOf_length foot, List.take_left']
    rfl
  rw [e3, strOf_intsOf]
  rfl
theorem parse_more (n : Nat) (hn : 4001 ≤ n) (ts : List Ty) (ti ix : List Int) (foot : Str) (hR : RightS ts ti ix foot = true) (hti : ∀ x ∈ ti, -9223372036854775808 ≤ x ∧ x ≤ 9223372036854775807) : tzif_Parse_f n (putS ts ti ix foot ++ [0]) = some ([], [], [], [], 60) := by
  have h5 := (right_parts hR).2.2.2.2.1
  have hf : foot.length ≤ 100 := by
    simp only [textS, Bool.and_eq_true, decide_eq_true_eq] at h5
    omega
  refine parse_err n _ ?_
  have e : putS ts ti ix foot ++ [0] = aheadS ts ti ++ (bodyS ts ti ix ++ (10 :: (intsOf foot ++ [10, 0]))) := by rw [put_split]; simp
  have hl : (10 :: (intsOf foot ++ [10, 0])).length = foot.length + 3 := by simp [intsOf_length]
  have hb : tailBad (10 :: (intsOf foot ++ [10, 0])) = true := by
    unfold tailBad
    have e2 : (10 :: (intsOf foot ++ [10, 0])).getD (foot.length + 3 - 1) 0 = 0 := by
      rw [show foot.length + 3 - 1 = foot.length + 1 + 1 by omega, List.getD_cons_succ, List.getD_eq_getElem?_getD, List.getElem?_append_right (by rw [intsOf_length]; omega), intsOf_length, show foot.length + 1 - foot.length = 1 by omega]
      rfl
    rw [hl, e2]
    simp
  rw [e, file_of n hn ts ti ix foot hR hti _ (by omega), hb]
  exact ⟨_, rfl, rfl⟩
theorem tail_cut (foot : Str) (hf : foot.all (okC 32) = true) (j : Nat) (hj : j < foot.length + 2) : tailBad ((10 :: (intsOf foot ++ [10])).take j) = true := by
  unfold tailBad
  by_cases h2 : j < 2
  · rw [decide_eq_true (by simp; omega)]; rfl
  · have hlen : ((10 :: (intsOf foot ++ [10])).take j).length = j := by rw [List.length_take]; simp [intsOf_length]; omega
    obtain ⟨i, rfl⟩ : ∃ i, j = i + 2 := ⟨j - 2, by omega⟩
    have hi : i < foot.length := by omega
    have e2 : ((10 :: (intsOf foot ++ [10])).take (i + 2)).getD (i + 2 - 1) 0 = (foot[i].toNat : Int) := by
      rw [show i + 2 - 1 = i + 1 by omega, List.getD_eq_getElem?_getD, List.getElem?_take, if_pos (by omega), List.getElem?_cons_succ, List.getElem?_append_left (by rw [intsOf_length]; omega), get_ints, List.getElem?_eq_getElem hi]
      rfl
    have h3 := List.all_eq_true.1 hf foot[i] (List.getElem_mem hi)
    simp only [okC, Bool.and_eq_true, Bool.not_eq_true', decide_eq_false_iff_not] at h3
    rw [hlen, e2]
    have : ((foot[i].toNat : Int) != 10) = true := by simp; omega
    rw [this, Bool.or_true]
theorem parse_cut (n : Nat) (hn : 4001 ≤ n) (ts : List Ty) (ti ix : List Int) (foot : Str) (hR : RightS ts ti ix foot = true) (hti : ∀ x ∈ ti, -9223372036854775808 ≤ x ∧ x ≤ 9223372036854775807) (m : Nat) (hm : m < (putS ts ti ix foot).length) : tzif_Parse_f n ((putS ts ti ix foot).take m) = some ([], [], [], [], 60) := by
  obtain ⟨h1, h2, h3, h4, h5, h6, h7, h8⟩ := right_parts hR
  have hf : foot.length ≤ 100 := by
    simp only [textS, Bool.and_eq_true, decide_eq_true_eq] at h5
    omega
  have hf2 : foot.all (okC 32) = true := by
    simp only [textS, Bool.and_eq_true] at h5
    exact h5.2
  have hs : 1 ≤ sumL ts := by
    cases ts with
    | nil => simp at h1
    | cons t r => simp only [sumL]; omega
  have hbl := body_len ts ti ix h4
  have hal := ahead_len ts ti
  have htl : (10 :: (intsOf foot ++ [10])).length = foot.length + 2 := by simp [intsOf_length]
  have hpl : (putS ts ti ix foot).length = 95 + ((bodyS ts ti ix).length + (foot.length + 2)) := by rw [put_split, List.length_append, List.length_append, htl, hal]
  have l0 : (headS [0, 0, 0, 0, 1, 1]).length = 44 := by rw [headS_len]; rfl
  have l1 : (headS [0, 0, 0, (ti.length : Int), (ts.length : Int), (sumL ts : Int)]).length = 44 := by rw [headS_len]; rfl
  refine parse_err n _ ?_
  by_cases c1 : m < 44
  · exact file_bad n (by omega) _ (headR_short (by rw [List.length_take]; omega))
  have e1 : (putS ts ti ix foot).take m = headS [0, 0, 0, 0, 1, 1] ++ ((List.replicate 7 0 ++ (headS [0, 0, 0, (ti.length : Int), (ts.length : Int), (sumL ts : Int)] ++ (bodyS ts ti ix ++ (10 :: (intsOf foot ++ [10]))))).take (m - 44)) := by
    rw [show putS ts ti ix foot = headS [0, 0, 0, 0, 1, 1] ++ (List.replicate 7 0 ++ (headS [0, 0, 0, (ti.length : Int), (ts.length : Int), (sumL ts : Int)] ++ (bodyS ts ti ix ++ (10 :: (intsOf foot ++ [10]))))) by rw [put_split]; simp only [aheadS, List.append_assoc], List.take_append, l0, List.take_of_length_le (by omega)]
  by_cases c2 : m < 51
  · rw [e1]
    exact file_step_bad n (by omega) (head0 _) (takeS_short (by rw [List.length_take]; omega)) (Prod.ext rfl (Prod.ext rfl (Prod.ext rfl (Prod.ext rfl (Prod.ext rfl (Prod.ext rfl (Prod.ext rfl (Prod.ext rfl (headR_bad [])))))))))  (block2_bad n _ _ _ _ _ _ _ _ _)
  have e2 : (List.replicate 7 0 ++ (headS [0, 0, 0, (ti.length : Int), (ts.length : Int), (sumL ts : Int)] ++ (bodyS ts ti ix ++ (10 :: (intsOf foot ++ [10]))))).take (m - 44) = List.replicate 7 0 ++ ((headS [0, 0, 0, (ti.length : Int), (ts.length : Int), (sumL ts : Int)] ++ (bodyS ts ti ix ++ (10 :: (intsOf foot ++ [10])))).take (m - 51)) := by
    rw [List.take_append, List.length_replicate, List.take_of_length_le (by simp; omega), show m - 44 - 7 = m - 51 by omega]
  rw [e2] at e1
  by_cases c3 : m < 95
  · rw [e1]
    obtain ⟨v2, d1, d2, d3, d4, d5, d6, r3, hh⟩ := head_ex (b := (headS [0, 0, 0, (ti.length : Int), (ts.length : Int), (sumL ts : Int)] ++ (bodyS ts ti ix ++ (10 :: (intsOf foot ++ [10])))).take (m - 51)) (bad := false) (headR_short (by rw [List.length_take]; omega))
    exact file_step_bad n (by omega) (head0 _) (takeS_app (List.replicate 7 0) _ false) hh (block2_bad n _ _ _ _ _ _ _ _ _)
  have e3 : (headS [0, 0, 0, (ti.length : Int), (ts.length : Int), (sumL ts : Int)] ++ (bodyS ts ti ix ++ (10 :: (intsOf foot ++ [10])))).take (m - 51) = headS [0, 0, 0, (ti.length : Int), (ts.length : Int), (sumL ts : Int)] ++ ((bodyS ts ti ix ++ (10 :: (intsOf foot ++ [10]))).take (m - 95)) := by
    rw [List.take_append, l1, List.take_of_length_le (by omega), show m - 51 - 44 = m - 95 by omega]
  rw [e3] at e1
  by_cases c4 : m < 95 + (bodyS ts ti ix).length
  · rw [e1]
    refine file_step_bad n (by omega) (head0 _) (takeS_app (List.replicate 7 0) _ false) (head1 _ _ _ h3 h2 h8 _) (block2_short n 50 _ _ _ h3 h2 h1 h8 hs _ ?_)
    rw [List.length_take]; omega
  have e4 : (bodyS ts ti ix ++ (10 :: (intsOf foot ++ [10]))).take (m - 95) = bodyS ts ti ix ++ ((10 :: (intsOf foot ++ [10])).take (m - 95 - (bodyS ts ti ix).length)) := by
    rw [List.take_append, List.take_of_length_le (by omega)]
  rw [e4] at e1
  have e5 : (putS ts ti ix foot).take m = aheadS ts ti ++ (bodyS ts ti ix ++ ((10 :: (intsOf foot ++ [10])).take (m - 95 - (bodyS ts ti ix).length))) := by
    rw [e1]; simp [aheadS]
  rw [e5, file_of n hn ts ti ix foot hR hti _ (by rw [List.length_take]; omega), tail_cut foot hf2 _ (by omega)]
  exact ⟨_, rfl, rfl⟩
end Go.Proofs.YtcbgfjghebopoaaDoor.H

/- Chapter 07: numbers and hours read by the program. -/
import Derived.Test.YtpooncihlnllnaaDoorU1
namespace Go.Proofs.YtpooncihlnllnaaDoor.H
open Go.Sh Go.RowKit
set_option linter.unusedSimpArgs false
set_option linter.unusedVariables false

/-! ### numbers -/
def valS (d : Str) : Nat := d.foldl (fun a c => a * 10 + (c.toNat - 48)) 0
theorem valS_snoc (d : Str) (c : UInt8) : valS (d ++ [c]) = valS d * 10 + (c.toNat - 48) := by simp [valS, List.foldl_append]
theorem digitB_iff (c : UInt8) : digitB c = true ↔ 48 ≤ c.toNat ∧ c.toNat ≤ 57 := by
  unfold digitB
  simp only [Bool.and_eq_true, decide_eq_true_eq, UInt8.le_iff_toNat_le]
  exact Iff.rfl
theorem uint_val : ∀ (l : Str) (acc k : Nat), acc < 10 ^ k → k + l.length ≤ 18 → l.all digitB = true →
    Lib.parseUint10 acc l = .ok (l.foldl (fun a c => a * 10 + (c.toNat - 48)) acc) ∧ l.foldl (fun a c => a * 10 + (c.toNat - 48)) acc < 10 ^ (k + l.length)
  | [], acc, k, h, _, _ => ⟨rfl, h⟩
  | c :: r, acc, k, h, hk, hd => by
    simp only [List.all_cons, Bool.and_eq_true, digitB_iff] at hd
    simp only [List.length_cons] at hk
    have h17 : 10 ^ k ≤ 10 ^ 17 := Nat.pow_le_pow_right (by omega) (by omega)
    have hp : (10 : Nat) ^ (k + 1) = 10 ^ k * 10 := Nat.pow_succ ..
    have h1 : acc * 10 + (c.toNat - 48) < 10 ^ (k + 1) := by omega
    have h2 := uint_val r (acc * 10 + (c.toNat - 48)) (k + 1) h1 (by omega) hd.2
    rw [Lib.parseUint10, if_pos hd.1, if_neg (by omega), if_neg (by omega)]
    rw [show k + (c :: r).length = k + 1 + r.length by simp only [List.length_cons]; omega]
    exact h2
theorem valS_lt (d : Str) (hl : d.length ≤ 18) (hd : d.all digitB = true) : valS d < 10 ^ d.length := by
  have := (uint_val d 0 0 (by omega) (by omega) hd).2
  rwa [Nat.zero_add] at this
theorem atoi_val (n : Nat) (d : Str) (hl : d.length ≤ 3) (hd : d.all digitB = true) : strconv_Atoi_f n d = some (valS d : Int) := by
  unfold strconv_Atoi_f strconv_Atoi_v
  rw [cond_pos (by omega)]
  cases d with
  | nil => rfl
  | cons c r =>
    have h := (uint_val (c :: r) 0 0 (by omega) (by omega) hd).1
    have h2 := valS_lt (c :: r) (by omega) hd
    have h3 : (10 : Nat) ^ (c :: r).length ≤ 10 ^ 3 := Nat.pow_le_pow_right (by omega) hl
    have hc := hd
    simp only [List.all_cons, Bool.and_eq_true, digitB_iff] at hc
    unfold Lib.atoiAll
    simp only
    rw [if_neg (by omega), Lib.parseMag, if_neg (by simp), h]
    change some (match (if ¬ (c.toNat = 45) ∧ 9223372036854775808 ≤ valS (c :: r) then Lib.NumEnd.range else if c.toNat = 45 ∧ 9223372036854775808 < valS (c :: r) then .range else .ok (if c.toNat = 45 then -(valS (c :: r) : Int) else (valS (c :: r) : Int))) with | .ok v => v | .range => _ | _ => 0) = _
    rw [if_neg (by omega), if_neg (by omega), if_neg (by omega)]
/-- A number read: it, what is left, whether it is too short. -/
def numS (least most : Nat) (r : Str) : Nat × Str × Bool :=
  let d := runS digitB most r
  (valS d, r.drop d.length, decide (d.length < least))
theorem numS_len (a b : Nat) (r : Str) : (numS a b r).2.1.length ≤ r.length := by
  simp [numS, List.length_drop]
theorem numS_lt (a : Nat) (b : Nat) (r : Str) (hb : b ≤ 3) : (numS a b r).1 < 1000 := by
  have h1 := runS_len digitB b r
  have h2 := valS_lt (runS digitB b r) (by omega) (runS_all _ _ _)
  have h3 : (10 : Nat) ^ (runS digitB b r).length ≤ 10 ^ 3 := Nat.pow_le_pow_right (by omega) (by omega)
  exact Nat.lt_of_lt_of_le h2 h3
theorem number_val (n a b : Nat) (ha : a ≤ 3) (hb : b ≤ 3) (r : Str) (bad : Bool) (hs : r.length < 9223372036854775808) (hn : r.length < n) :
    footer_reader_number_f n (a : Int) (b : Int) r bad = some (((numS a b r).1 : Int), (numS a b r).2.1, bad || (numS a b r).2.2) := by
  have h1 := runS_len digitB b r
  unfold footer_reader_number_f footer_reader_number_b footer_reader_number_j0 footer_reader_number_j0_b numS
  rw [run2_val n b r bad hs hn]
  simp only [Option.bind_some]
  rw [atoi_val n _ (by omega) (runS_all _ _ _)]
  have hd : decide (((runS digitB b r).length : Int) < (a : Int)) = decide ((runS digitB b r).length < a) := by rw [decide_eq_decide]; omega
  rw [hd]
  cases bad <;> rfl

/-! ### hours -/
/-- Minutes and seconds read. -/
def minS (r : Str) : Int × Str × Bool :=
  let e := eatS 58 r
  if e.1 = true then
    let m := numS 2 2 e.2
    let f := eatS 58 m.2.1
    if f.1 = true then
      let s := numS 2 2 f.2
      (60 * (m.1 : Int) + s.1, s.2.1, m.2.2 || decide (60 ≤ m.1) || s.2.2 || decide (60 ≤ s.1))
    else (60 * (m.1 : Int), f.2, m.2.2 || decide (60 ≤ m.1))
  else (0, e.2, false)
theorem minS_len (r : Str) : (minS r).2.1.length ≤ r.length := by
  have h1 := eatS_len 58 r
  have h2 := numS_len 2 2 (eatS 58 r).2
  have h3 := eatS_len 58 (numS 2 2 (eatS 58 r).2).2.1
  have h4 := numS_len 2 2 (eatS 58 (numS 2 2 (eatS 58 r).2).2.1).2
  unfold minS
  dsimp only
  split
  · split <;> dsimp only <;> omega
  · exact h1
theorem minS_lt (r : Str) : 0 ≤ (minS r).1 ∧ (minS r).1 < 70000 := by
  have h2 := numS_lt 2 2 (eatS 58 r).2 (by omega)
  have h4 := numS_lt 2 2 (eatS 58 (numS 2 2 (eatS 58 r).2).2.1).2 (by omega)
  unfold minS
  dsimp only
  split
  · split <;> dsimp only <;> omega
  · simp
/-- A sign read. -/
def signS (r : Str) : Int × Str :=
  let e := eatS 45 r
  if e.1 = true then (-1, e.2) else (1, (eatS 43 e.2).2)
theorem signS_len (r : Str) : (signS r).2.length ≤ r.length := by
  have h1 := eatS_len 45 r
  have h2 := eatS_len 43 (eatS 45 r).2
  unfold signS
  dsimp only
  split <;> dsimp only <;> omega
theorem signS_or (r : Str) : (signS r).1 = -1 ∨ (signS r).1 = 1 := by
  unfold signS
  dsimp only
  split <;> simp
def hoursS (most : Nat) (r : Str) : Int × Str × Bool :=
  let g := signS r
  let h := numS 1 3 g.2
  let m := minS h.2.1
  (g.1 * (3600 * (h.1 : Int) + m.1), m.2.1, h.2.2 || decide (most < h.1) || m.2.2)
theorem hoursS_len (most : Nat) (r : Str) : (hoursS most r).2.1.length ≤ r.length := by
  have h1 := signS_len r
  have h2 := numS_len 1 3 (signS r).2
  have h3 := minS_len (numS 1 3 (signS r).2).2.1
  unfold hoursS
  dsimp only
  omega
theorem hoursS_lt (most : Nat) (r : Str) : -4000000 < (hoursS most r).1 ∧ (hoursS most r).1 < 4000000 := by
  have h1 := numS_lt 1 3 (signS r).2 (by omega)
  have h2 := minS_lt (numS 1 3 (signS r).2).2.1
  unfold hoursS
  dsimp only
  rcases signS_or r with h | h <;> rw [h] <;> omega
theorem sign_val (n : Nat) (r : Str) (b : Bool) : footer_reader_hours_j3 n 1 r b = some ((signS r).1, (signS r).2, b) := by
  unfold footer_reader_hours_j3 footer_reader_hours_j3_b signS
  rw [eat_val n 45 45]
  simp only [Option.bind_some]
  cases he : (eatS 45 r).1 with
  | true => rfl
  | false =>
    simp only [cond_false]
    rw [eat_val n 43 43]
    rfl
theorem wi (x : Int) (h : -9223372036854775808 ≤ x) (h2 : x ≤ 9223372036854775807) : IntKind.i64.wrap x = x := IntWalk.i64_in _ (by omega)
theorem bad_or (b c : Bool) (a : Nat) : cond (b || c) (some ((a : Nat), true)) (some (a, c)) = some (a, b || c) := by cases b <;> cases c <;> rfl
theorem min_val (n : Nat) (x : Int) (r : Str) (b : Bool) (hx : 0 ≤ x) (hx2 : x < 10000000) (hs : r.length < 9223372036854775808) (hn : r.length + 5 < n) :
    footer_reader_hours_l0 n n x 60 r b = some (x + (minS r).1, (minS r).2.1, b || (minS r).2.2) := by
  obtain ⟨k, rfl⟩ : ∃ k, n = k + 3 := ⟨n - 3, by omega⟩
  have h1 := eatS_len 58 r
  have h2 := numS_len 2 2 (eatS 58 r).2
  have h2' := numS_lt 2 2 (eatS 58 r).2 (by omega)
  have h3 := eatS_len 58 (numS 2 2 (eatS 58 r).2).2.1
  have h4 := numS_len 2 2 (eatS 58 (numS 2 2 (eatS 58 r).2).2.1).2
  have h4' := numS_lt 2 2 (eatS 58 (numS 2 2 (eatS 58 r).2).2.1).2 (by omega)
  have d60 : ∀ x : Nat, decide ((x : Int) ≥ (60 : Int)) = decide (60 ≤ x) := fun x => by rw [decide_eq_decide]; omega
  unfold minS
  rw [footer_reader_hours_l0, footer_reader_hours_l0_b, footer_reader_hours_j1, footer_reader_hours_j1_b]
  rw [cond_pos (by omega), eat_val (k + 3) 58 58]
  simp only [Option.bind_some]
  cases he : (eatS 58 r).1 with
  | false => simp
  | true =>
    simp only [cond_true, if_true]
    rw [show (2 : Int) = ((2 : Nat) : Int) from rfl, number_val (k + 3) 2 2 (by omega) (by omega) _ _ (by omega) (by omega)]
    simp only [Option.bind_some]
    rw [footer_reader_hours_j0, footer_reader_hours_j0_b]
    rw [show Int.tdiv 60 60 = 1 from rfl, wi 1 (by omega) (by omega), wi (60 * _) (by omega) (by omega), wi (x + _) (by omega) (by omega)]
    generalize hm : numS 2 2 (eatS 58 r).2 = m at *
    have hj : ∀ b' : Bool, (cond b' (some (m.2.1, true)) (some (m.2.1, decide ((m.1 : Int) ≥ (60 : Int))))) = some (m.2.1, b' || decide (60 ≤ m.1)) := fun b' => by rw [d60]; cases b' <;> rfl
    rw [hj]
    simp only [Option.bind_some]
    rw [footer_reader_hours_l0, footer_reader_hours_l0_b, footer_reader_hours_j1, footer_reader_hours_j1_b]
    rw [cond_pos (by omega), eat_val (k + 3) 58 58]
    simp only [Option.bind_some]
    cases hf : (eatS 58 m.2.1).1 with
    | false => simp [Bool.or_assoc]
    | true =>
      simp only [cond_true, if_true]
      rw [show (2 : Int) = ((2 : Nat) : Int) from rfl, number_val (k + 3) 2 2 (by omega) (by omega) _ _ (by omega) (by omega)]
      simp only [Option.bind_some]
      rw [footer_reader_hours_j0, footer_reader_hours_j0_b]
      rw [show Int.tdiv 1 60 = 0 from rfl, wi 0 (by omega) (by omega), wi (1 * _) (by omega) (by omega), wi (x + 60 * _ + _) (by omega) (by omega)]
      generalize hs : numS 2 2 (eatS 58 m.2.1).2 = s at *
      have hj : ∀ b' : Bool, (cond b' (some (s.2.1, true)) (some (s.2.1, decide ((s.1 : Int) ≥ (60 : Int))))) = some (s.2.1, b' || decide (60 ≤ s.1)) := fun b' => by rw [d60]; cases b' <;> rfl
      rw [hj]
      simp only [Option.bind_some]
      rw [footer_reader_hours_l0, footer_reader_hours_l0_b, footer_reader_hours_j1, footer_reader_hours_j1_b]
      rw [cond_neg (by omega)]
      simp only [Option.bind_some, cond_false, Bool.or_assoc, Int.one_mul, Int.add_assoc]
theorem hours_val (n most : Nat) (r : Str) (b : Bool) (hs : r.length < 9223372036854775808) (hn : r.length + 5 < n) :
    footer_reader_hours_f n (most : Int) r b = some ((hoursS most r).1, (hoursS most r).2.1, b || (hoursS most r).2.2) := by
  have h1 := signS_len r
  have h2 := numS_len 1 3 (signS r).2
  have h2' := numS_lt 1 3 (signS r).2 (by omega)
  have h3 := minS_lt (numS 1 3 (signS r).2).2.1
  unfold footer_reader_hours_f footer_reader_hours_b hoursS
  rw [sign_val]
  simp only [Option.bind_some]
  rw [show (footer_reader_number_f n (1 : Int) (3 : Int) (signS r).2 b) = _ from number_val n 1 3 (by omega) (by omega) _ _ (by omega) (by omega)]
  simp only [Option.bind_some]
  rw [footer_reader_hours_j2, footer_reader_hours_j2_b]
  generalize numS 1 3 (signS r).2 = h at *
  have hd : decide ((h.1 : Int) > (most : Int)) = decide (most < h.1) := by rw [decide_eq_decide]; omega
  have hj : ∀ b' : Bool, (cond b' (some (h.2.1, true)) (some (h.2.1, decide ((h.1 : Int) > (most : Int))))) = some (h.2.1, b' || decide (most < h.1)) := fun b' => by rw [hd]; cases b' <;> rfl
  rw [hj]
  simp only [Option.bind_some]
  rw [wi ((h.1 : Int) * 3600) (by omega) (by omega), min_val n _ _ _ (by omega) (by omega) (by omega) (by omega)]
  simp only [Option.bind_some]
  rw [Int.mul_comm (h.1 : Int) 3600]
  rcases signS_or r with hg | hg <;> rw [hg] <;> rw [wi _ (by omega) (by omega)] <;> simp only [Bool.or_assoc]
end Go.Proofs.YtpooncihlnllnaaDoor.H

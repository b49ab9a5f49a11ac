/- Chapter 06: TzifPuts. -/
import Derived.Test.YtcbgfjghebopoaaDoorU5
import Derived.Test.YtcbgfjghebopoaaDoorU3a
namespace Go.Proofs.YtcbgfjghebopoaaDoor.H
open Go.Sh Go.RowKit
set_option linter.unusedSimpArgs false
set_option linter.unusedVariables false

theorem same_types (n : Nat) (xs ys : List Ty) (hx : xs.length ≤ 100000) (hl : xs.length = ys.length) : ∀ (r r' : List Ty) (i m : Nat), xs.drop i = r → ys.drop i = r' → r.length < m →
    tzif_Type_1_l0 n m (xs.map cT) (ys.map cT) (xs.length : Int) (i : Int) = some (if r == r' then Sum.inr () else Sum.inl ())
  | [], r', i, m + 1, h, h', _ => by
    have hi := drop_nil h
    have : r' = [] := by rw [← h']; exact List.drop_eq_nil_of_le (by omega)
    subst this
    simp only [tzif_Type_1_l0, tzif_Type_1_l0_b]
    rw [cond_neg (by omega)]
    rfl
  | t :: r, [], i, m + 1, h, h', _ => by
    have h1 := drop_nil h'
    obtain ⟨_, _, h2⟩ := drop_cons h
    omega
  | t :: r, t' :: r', i, m + 1, h, h', hm => by
    obtain ⟨k1, k2, k3⟩ := drop_cons h
    obtain ⟨j1, j2, j3⟩ := drop_cons h'
    simp only [List.length_cons] at hm
    simp only [tzif_Type_1_l0, tzif_Type_1_l0_b]
    rw [cond_pos (by omega), cond_pos (by omega), Int.toNat_natCast, List.getElem?_map, k1, wrap1 _ (by omega)]
    simp only [Option.map_some, Option.bind_some, cT, unc, getI, getB, getT, unn, decide_true, cond_true]
    rw [cond_pos (by omega), List.getElem?_map, j1]
    simp only [Option.map_some, Option.bind_some, unc, getI, getB, getT, unn, decide_true, cond_true, Bool.and_true, cT]
    have e : (t :: r == t' :: r') = ((t.1 == t'.1 && (t.2.1 == t'.2.1 && t.2.2 == t'.2.2)) && (r == r')) := rfl
    rw [e]
    cases hc : (t.1 == t'.1 && (t.2.1 == t'.2.1 && t.2.2 == t'.2.2)) with
    | false => rfl
    | true =>
      simp only [Bool.not_true, cond_false, Bool.true_and]
      exact same_types n xs ys hx hl r r' (i + 1) m k2 j2 (by omega)
theorem same_ints (n : Nat) (xs ys : List Int) (hx : xs.length ≤ 100000) (hl : xs.length = ys.length) : ∀ (r r' : List Int) (i m : Nat), xs.drop i = r → ys.drop i = r' → r.length < m →
    slices_Equal_int64_int64_l0 n m xs ys (xs.length : Int) (i : Int) = some (if r == r' then Sum.inr () else Sum.inl ()) ∧ slices_Equal_int_int_l0 n m xs ys (xs.length : Int) (i : Int) = some (if r == r' then Sum.inr () else Sum.inl ())
  | [], r', i, m + 1, h, h', _ => by
    have hi := drop_nil h
    have : r' = [] := by rw [← h']; exact List.drop_eq_nil_of_le (by omega)
    subst this
    simp only [slices_Equal_int64_int64_l0, slices_Equal_int64_int64_l0_b, slices_Equal_int_int_l0, slices_Equal_int_int_l0_b]
    rw [cond_neg (by omega), cond_neg (by omega)]
    exact ⟨rfl, rfl⟩
  | t :: r, [], i, m + 1, h, h', _ => by
    have h1 := drop_nil h'
    obtain ⟨_, _, h2⟩ := drop_cons h
    omega
  | t :: r, t' :: r', i, m + 1, h, h', hm => by
    obtain ⟨k1, k2, k3⟩ := drop_cons h
    obtain ⟨j1, j2, j3⟩ := drop_cons h'
    simp only [List.length_cons] at hm
    simp only [slices_Equal_int64_int64_l0, slices_Equal_int64_int64_l0_b, slices_Equal_int_int_l0, slices_Equal_int_int_l0_b, decide_eq_true (show ((i : Int) < (xs.length : Int)) by omega), decide_eq_true (show (0 : Int) ≤ (i : Int) by omega), cond_true, Int.toNat_natCast, k1, j1, Option.bind_some, wrap1 i (by omega)]
    have e : (t :: r == t' :: r') = ((t == t') && (r == r')) := rfl
    rw [e, bne]
    obtain ⟨ih1, ih2⟩ := same_ints n xs ys hx hl r r' (i + 1) m k2 j2 (by omega)
    cases hc : t == t' with
    | false => exact ⟨rfl, rfl⟩
    | true =>
      simp only [Bool.not_true, cond_false, Bool.true_and]
      exact ⟨ih1, ih2⟩
def SameS (ts : List Ty) (ti ix : List Int) (foot : Str) (ts' : List Ty) (ti' ix' : List Int) (foot' : Str) : Bool := (ts == ts') && ((ti == ti') && ((ix == ix') && (foot == foot')))
theorem beq_len {α : Type} [BEq α] [LawfulBEq α] {l m : List α} (h : ¬ l.length = m.length) : (l == m) = false := by
  rw [Bool.eq_false_iff]
  intro e
  exact h (by rw [eq_of_beq e])
theorem lenB_ne {a b : Nat} (h : ¬ a = b) : ((a : Int) != (b : Int)) = true := by simp; omega
theorem lenB_eq {a b : Nat} (h : a = b) : ((a : Int) != (b : Int)) = false := by simp; omega
theorem types_val (n : Nat) (xs ys : List Ty) (hx : xs.length ≤ 100000) (hn : xs.length < n) : tzif_Type_1_f n (xs.map cT) (ys.map cT) = some (xs == ys) := by
  unfold tzif_Type_1_f tzif_Type_1_b
  rw [List.length_map, List.length_map]
  by_cases h : xs.length = ys.length
  · have e := same_types n xs ys hx h xs ys 0 n (by simp) (by simp) hn
    simp only [Int.natCast_zero] at e
    rw [lenB_eq h, cond_false, e]
    cases hc : xs == ys <;> rfl
  · rw [lenB_ne h, beq_len h]; rfl
theorem equal64_val (n : Nat) (xs ys : List Int) (hx : xs.length ≤ 100000) (hn : xs.length < n) : slices_Equal_int64_int64_f n xs ys = some (xs == ys) := by
  unfold slices_Equal_int64_int64_f slices_Equal_int64_int64_b
  by_cases h : xs.length = ys.length
  · have e := (same_ints n xs ys hx h xs ys 0 n (by simp) (by simp) hn).1
    simp only [Int.natCast_zero] at e
    rw [lenB_eq h, cond_false, e]
    cases hc : xs == ys <;> rfl
  · rw [lenB_ne h, beq_len h]; rfl
theorem equal_val (n : Nat) (xs ys : List Int) (hx : xs.length ≤ 100000) (hn : xs.length < n) : slices_Equal_int_int_f n xs ys = some (xs == ys) := by
  unfold slices_Equal_int_int_f slices_Equal_int_int_b
  by_cases h : xs.length = ys.length
  · have e := (same_ints n xs ys hx h xs ys 0 n (by simp) (by simp) hn).2
    simp only [Int.natCast_zero] at e
    rw [lenB_eq h, cond_false, e]
    cases hc : xs == ys <;> rfl
  · rw [lenB_ne h, beq_len h]; rfl
theorem same_val (n : Nat) (ts : List Ty) (ti ix : List Int) (foot : Str) (ts' : List Ty) (ti' ix' : List Int) (foot' : Str) (h1 : ts.length ≤ 100000) (h2 : ti.length ≤ 100000) (h3 : ix.length ≤ 100000) (hn1 : ts.length < n) (hn2 : ti.length < n) (hn3 : ix.length < n) :
    tzif_Same_f n (ts.map cT) ti ix foot (ts'.map cT) ti' ix' foot' = some (SameS ts ti ix foot ts' ti' ix' foot') := by
  unfold tzif_Same_f tzif_Same_b SameS
  rw [types_val n ts ts' h1 hn1, equal64_val n ti ti' h2 hn2, equal_val n ix ix' h3 hn3]
  simp only [Option.bind_some]
  cases ts == ts' <;> cases ti == ti' <;> cases ix == ix' <;> rfl
theorem rat_l1 (n : Nat) (h0 : List (List AV)) (ti ix : List Int) (h3 : Str) (sec : Int) (hb : ti.length ≤ 4000) (hl : ti.length = ix.length) (hm0 : ∀ (b a : Nat), a < b → b < ti.length → ti.getD a 0 < ti.getD b 0) : ∀ (k m : Nat), k ≤ ti.length → k < m → (k < ti.length → sec < ti.getD k 0) →
    clepsydraref06_At_l1 n m sec ((k : Int) - 1) h0 ti ix h3 = some (if 0 < come ti sec then Sum.inl (ix.getD (come ti sec - 1) 0, h0, ti, ix, h3) else Sum.inr (h0, ti, ix, h3))
  | 0, m + 1, _, _, h2 => by
    simp only [clepsydraref06_At_l1, clepsydraref06_At_l1_b]
    have hc : come ti sec = 0 := come_eq hm0 (by omega) (fun h => absurd h (by omega)) h2
    rw [cond_neg (by omega), if_neg (by omega)]
  | k + 1, m + 1, hk, hm, h2 => by
    simp only [clepsydraref06_At_l1, clepsydraref06_At_l1_b]
    rw [show (((k + 1 : Nat) : Int) - 1) = (k : Int) by omega, cond_pos (by omega), cond_pos (by omega), Int.toNat_natCast, get_of (show k < ti.length by omega), Option.bind_some]
    by_cases hc : ti.getD k 0 ≤ sec
    · have he : come ti sec = k + 1 := come_eq hm0 hk (fun _ => by simpa using hc) h2
      rw [cond_pos hc, cond_pos (by omega), get_of (show k < ix.length by omega), Option.bind_some, he, if_pos (by omega), Nat.add_sub_cancel]
    · rw [cond_neg hc, wi _ (by omega) (by omega)]
      exact rat_l1 n h0 ti ix h3 sec hb hl hm0 k m (by omega) (by omega) (fun _ => by omega)
theorem rat_l0 (n : Nat) (ts : List Ty) (h1 h2 : List Int) (h3 : Str) (hts : ts.length ≤ 255) : ∀ (r : List Ty) (i m : Nat), ts.drop i = r → r.length < m →
    clepsydraref06_At_l0 n m (i : Int) (ts.map cT) h1 h2 h3 = some (match r.findIdx? fun t => !t.2.1 with | some j => Sum.inl (((i + j : Nat) : Int), ts.map cT, h1, h2, h3) | none => Sum.inr (ts.map cT, h1, h2, h3))
  | [], i, m + 1, h, _ => by
    have hi := drop_nil h
    simp only [clepsydraref06_At_l0, clepsydraref06_At_l0_b]
    rw [cond_neg (by rw [List.length_map]; omega)]
    simp
  | t :: r, i, m + 1, h, hm => by
    obtain ⟨k1, k2, k3⟩ := drop_cons h
    simp only [List.length_cons] at hm
    simp only [clepsydraref06_At_l0, clepsydraref06_At_l0_b]
    rw [cond_pos (by rw [List.length_map]; omega), cond_pos (by omega), Int.toNat_natCast, List.getElem?_map, k1, wrap1 _ (by omega)]
    simp only [Option.map_some, Option.bind_some, cT, unc, getI, getB, getT, unn, List.findIdx?_cons, decide_true, cond_true]
    cases hd : t.2.1 with
    | false => simp
    | true =>
      simp only [Bool.not_true, cond_false, Bool.false_eq_true, if_false]
      refine (rat_l0 n ts h1 h2 h3 hts r (i + 1) m k2 (by omega)).trans ?_
      cases r.findIdx? (fun t => !t.2.1) with
      | none => rfl
      | some j => simp only [Option.map_some]; congr 3; omega
theorem rat_val (n : Nat) (hn : 4001 ≤ n) (ts : List Ty) (ti ix : List Int) (foot : Str) (sec : Int) (hall : ∀ t ∈ ts, t.2.2.length ≤ 9223372036854775807 ∧ t.2.2.length < n) (hf : foot.length ≤ 4000) : clepsydraref06_At_f n (ts.map cT) ti ix foot sec = some (AtS ts ti ix foot sec) := by
  unfold clepsydraref06_At_f clepsydraref06_At_b AtS
  rw [rright_val n hn ts ti ix foot hall hf]
  simp only [Option.bind_some]
  cases hR : RightS ts ti ix foot with
  | false => rfl
  | true =>
    obtain ⟨h1, h2, h3, h4, h5, h6, h7, h8⟩ := right_parts hR
    have e1 := rat_l1 n (ts.map cT) ti ix foot sec h3 h4 (mono_of h4 h7) ti.length n (by omega) (by omega) (fun h => absurd h (by omega))
    simp only [Bool.not_true, cond_false, if_true]
    rw [wi _ (by omega) (by omega), e1]
    by_cases hp : 0 < come ti sec
    · rw [if_pos hp, if_pos hp]; rfl
    · rw [if_neg hp, if_neg hp]
      have e5 := rat_l0 n ts ti ix foot h2 ts 0 n (by simp) (by omega)
      simp only [Int.natCast_zero] at e5
      simp only [Option.bind_some, Sum.elim_inr, e5, stdS]
      cases ts.findIdx? (fun t => !t.2.1) with
      | none => rfl
      | some j => simp only [Sum.elim_inl, Option.bind_some, Nat.zero_add]
theorem rsame_l2 (n : Nat) (xs ys : List Ty) (a1 a2 : List Int) (a3 : Str) (b1 b2 : List Int) (b3 : Str) (hx : xs.length ≤ 100000) (hl : xs.length = ys.length) : ∀ (r r' : List Ty) (i m : Nat), xs.drop i = r → ys.drop i = r' → r.length < m →
    clepsydraref06_Same_l2 n m (i : Int) (xs.map cT) a1 a2 a3 (ys.map cT) b1 b2 b3 = some (if r == r' then Sum.inr (xs.map cT, a1, a2, a3, ys.map cT, b1, b2, b3) else Sum.inl (xs.map cT, a1, a2, a3, ys.map cT, b1, b2, b3))
  | [], r', i, m + 1, h, h', _ => by
    have hi := drop_nil h
    have : r' = [] := by rw [← h']; exact List.drop_eq_nil_of_le (by omega)
    subst this
    simp only [clepsydraref06_Same_l2, clepsydraref06_Same_l2_b]
    rw [cond_neg (by rw [List.length_map]; omega)]
    rfl
  | t :: r, [], i, m + 1, h, h', _ => by
    have h1 := drop_nil h'
    obtain ⟨_, _, h2⟩ := drop_cons h
    omega
  | t :: r, t' :: r', i, m + 1, h, h', hm => by
    obtain ⟨k1, k2, k3⟩ := drop_cons h
    obtain ⟨j1, j2, j3⟩ := drop_cons h'
    simp only [List.length_cons] at hm
    simp only [clepsydraref06_Same_l2, clepsydraref06_Same_l2_b]
    rw [cond_pos (by rw [List.length_map]; omega), cond_pos (by omega), Int.toNat_natCast, List.getElem?_map, k1, wrap1 _ (by omega)]
    simp only [Option.map_some, Option.bind_some, cT, unc, getI, getB, getT, unn, decide_true, cond_true]
    rw [cond_pos (by omega), List.getElem?_map, j1]
    simp only [Option.map_some, Option.bind_some, unc, getI, getB, getT, unn, decide_true, cond_true, Bool.and_true, cT]
    have e : (t :: r == t' :: r') = ((t.1 == t'.1 && (t.2.1 == t'.2.1 && t.2.2 == t'.2.2)) && (r == r')) := rfl
    rw [e]
    cases hc : (t.1 == t'.1 && (t.2.1 == t'.2.1 && t.2.2 == t'.2.2)) with
    | false => rfl
    | true =>
      simp only [Bool.not_true, cond_false, Bool.true_and]
      exact rsame_l2 n xs ys a1 a2 a3 b1 b2 b3 hx hl r r' (i + 1) m k2 j2 (by omega)
theorem rsame_l1 (n : Nat) (xs ys : List Int) (a0 : List (List AV)) (a2 : List Int) (a3 : Str) (b0 : List (List AV)) (b2 : List Int) (b3 : Str) (hx : xs.length ≤ 100000) (hl : xs.length = ys.length) : ∀ (r r' : List Int) (i m : Nat), xs.drop i = r → ys.drop i = r' → r.length < m →
    clepsydraref06_Same_l1 n m (i : Int) a0 xs a2 a3 b0 ys b2 b3 = some (if r == r' then Sum.inr (a0, xs, a2, a3, b0, ys, b2, b3) else Sum.inl (a0, xs, a2, a3, b0, ys, b2, b3)) ∧
    clepsydraref06_Same_l0 n m (i : Int) a0 a2 xs a3 b0 b2 ys b3 = some (if r == r' then Sum.inr (a0, a2, xs, a3, b0, b2, ys, b3) else Sum.inl (a0, a2, xs, a3, b0, b2, ys, b3))
  | [], r', i, m + 1, h, h', _ => by
    have hi := drop_nil h
    have : r' = [] := by rw [← h']; exact List.drop_eq_nil_of_le (by omega)
    subst this
    simp only [clepsydraref06_Same_l1, clepsydraref06_Same_l1_b, clepsydraref06_Same_l0, clepsydraref06_Same_l0_b]
    rw [cond_neg (by omega), cond_neg (by omega)]
    exact ⟨rfl, rfl⟩
  | t :: r, [], i, m + 1, h, h', _ => by
    have h1 := drop_nil h'
    obtain ⟨_, _, h2⟩ := drop_cons h
    omega
  | t :: r, t' :: r', i, m + 1, h, h', hm => by
    obtain ⟨k1, k2, k3⟩ := drop_cons h
    obtain ⟨j1, j2, j3⟩ := drop_cons h'
    simp only [List.length_cons] at hm
    simp only [clepsydraref06_Same_l1, clepsydraref06_Same_l1_b, clepsydraref06_Same_l0, clepsydraref06_Same_l0_b, decide_eq_true (show ((i : Int) < (xs.length : Int)) by omega), decide_eq_true (show (0 : Int) ≤ (i : Int) by omega), cond_true, Int.toNat_natCast, k1, j1, Option.bind_some, wrap1 i (by omega)]
    have e : (t :: r == t' :: r') = ((t == t') && (r == r')) := rfl
    rw [e, bne]
    obtain ⟨ih1, ih2⟩ := rsame_l1 n xs ys a0 a2 a3 b0 b2 b3 hx hl r r' (i + 1) m k2 j2 (by omega)
    cases hc : t == t' with
    | false => exact ⟨rfl, rfl⟩
    | true =>
      simp only [Bool.not_true, cond_false, Bool.true_and]
      exact ⟨ih1, ih2⟩
theorem rsame_val (n : Nat) (ts : List Ty) (ti ix : List Int) (foot : Str) (ts' : List Ty) (ti' ix' : List Int) (foot' : Str) (h1 : ts.length ≤ 100000) (h2 : ti.length ≤ 100000) (h3 : ix.length ≤ 100000) (hn1 : ts.length < n) (hn2 : ti.length < n) (hn3 : ix.length < n) :
    clepsydraref06_Same_f n (ts.map cT) ti ix foot (ts'.map cT) ti' ix' foot' = some (SameS ts ti ix foot ts' ti' ix' foot') := by
  unfold clepsydraref06_Same_f clepsydraref06_Same_b clepsydraref06_Same_j0 clepsydraref06_Same_j0_b SameS
  rw [List.length_map, List.length_map]
  by_cases c1 : ts.length = ts'.length
  case neg => rw [lenB_ne c1, beq_len c1]; rfl
  by_cases c2 : ti.length = ti'.length
  case neg => rw [lenB_eq c1, lenB_ne c2, beq_len c2]; cases ts == ts' <;> rfl
  by_cases c3 : ix.length = ix'.length
  case neg => rw [lenB_eq c1, lenB_eq c2, lenB_ne c3, beq_len c3]; cases ts == ts' <;> cases ti == ti' <;> rfl
  rw [lenB_eq c1, lenB_eq c2, lenB_eq c3]
  simp only [cond_false, Option.bind_some]
  cases c4 : foot == foot' with
  | false => cases ts == ts' <;> cases ti == ti' <;> cases ix == ix' <;> rfl
  | true =>
    have e2 := rsame_l2 n ts ts' ti ix foot ti' ix' foot' h1 c1 ts ts' 0 n (by simp) (by simp) hn1
    have e1 := (rsame_l1 n ti ti' (ts.map cT) ix foot (ts'.map cT) ix' foot' h2 c2 ti ti' 0 n (by simp) (by simp) hn2).1
    have e0 := (rsame_l1 n ix ix' (ts.map cT) ti foot (ts'.map cT) ti' foot' h3 c3 ix ix' 0 n (by simp) (by simp) hn3).2
    simp only [Int.natCast_zero] at e0 e1 e2
    simp only [Bool.not_true, cond_false, e2, Option.bind_some]
    cases c5 : ts == ts' with
    | false => rfl
    | true =>
      simp only [if_true, Sum.elim_inr, e1, Option.bind_some]
      cases c6 : ti == ti' with
      | false => rfl
      | true =>
        simp only [if_true, Sum.elim_inr, e0, Option.bind_some]
        cases c7 : ix == ix' <;> rfl
theorem plain_l0 (n : Nat) (ts : List Ty) (ti ix : List Int) (foot : Str) (g0 : List (List AV)) (g1 g2 : List Int) (g3 : Str) (hts : ts.length ≤ 300) : ∀ (r : List Ty) (i m : Nat) (acc : List (List AV)) (h1 h2 : List Int) (h3 : Str), ts.drop i = r → r.length < m → acc.length + r.length ≤ 300 →
    clepsydralaw06_plain_l0 n m (i : Int) (ts.map cT) ti ix foot g0 g1 g2 g3 acc h1 h2 h3 = some (ts.map cT, ti, ix, foot, g0, g1, g2, g3, acc ++ r.map cT, h1, h2, h3)
  | [], i, m + 1, acc, h1, h2, h3, h, _, _ => by
    have hi := drop_nil h
    simp only [clepsydralaw06_plain_l0, clepsydralaw06_plain_l0_b]
    rw [cond_neg (by rw [List.length_map]; omega)]
    simp
  | t :: r, i, m + 1, acc, h1, h2, h3, h, hm, ha => by
    obtain ⟨k1, k2, k3⟩ := drop_cons h
    simp only [List.length_cons] at hm ha
    simp only [clepsydralaw06_plain_l0, clepsydralaw06_plain_l0_b]
    rw [cond_pos (by rw [List.length_map]; omega), cond_pos (by omega), Int.toNat_natCast, List.getElem?_map, k1, wrap1 _ (by omega)]
    simp only [Option.map_some, Option.bind_some, cT, unc, getI, getB, getT, unn, decide_true, cond_true]
    rw [cond_pos (by simp only [List.length_cons, List.length_nil]; omega)]
    refine (plain_l0 n ts ti ix foot g0 g1 g2 g3 hts r (i + 1) m _ h1 h2 h3 k2 (by omega) (by simp only [List.length_append, List.length_cons, List.length_nil]; omega)).trans ?_
    simp [cT]
theorem plain_val (n : Nat) (hn : 301 ≤ n) (ts : List Ty) (ti ix : List Int) (foot : Str) (hts : ts.length ≤ 300) : clepsydralaw06_plain_f n (ts.map cT) ti ix foot = some (ts.map cT, ti, ix, foot) := by
  unfold clepsydralaw06_plain_f clepsydralaw06_plain_b
  have e := plain_l0 n ts ti ix foot [] [] [] [] hts ts 0 n [] ti ix foot (by simp) (by omega) (by simp; omega)
  simp only [Int.natCast_zero] at e
  rw [e]
  rfl
theorem same_self (ts : List Ty) (ti ix : List Int) (foot : Str) : SameS ts ti ix foot ts ti ix foot = true := by simp [SameS]
theorem TzifPuts_law (n : Nat) (hn : 5000 ≤ n) (ts : List Ty) (ti ix : List Int) (foot : Str) (ts' : List Ty) (ti' ix' : List Int) (foot' : Str) (sec : Int) (hall : ∀ t ∈ ts, t.2.2.length ≤ 9223372036854775807 ∧ t.2.2.length < n) :
    clepsydralaw06_TzifPuts_f n (ts.map cT) ti ix foot (ts'.map cT) ti' ix' foot' sec = some true := by
  obtain ⟨m, rfl⟩ : ∃ m, n = m + 5000 := ⟨n - 5000, by omega⟩
  have hw := works_val m
  have hf : ∀ ts ti ix foot, clepsydralaw06_few_f (m + 5000) (List.map cT ts) ti ix foot 500 = some (fewS ts ti ix foot 500) := fun ts ti ix foot => few_val _ ts ti ix foot 500
  unfold clepsydralaw06_TzifPuts_f clepsydralaw06_TzifPuts_b clepsydralaw06_TzifPuts_j1 clepsydralaw06_TzifPuts_j1_b
  simp only [hf, Option.bind_some]
  cases c0 : fewS ts ti ix foot 500 with
  | false => simp [hw]
  | true =>
  cases c1 : fewS ts' ti' ix' foot' 500 with
  | false => simp [hw]
  | true =>
  have d0 := c0
  have d1 := c1
  simp only [fewS, Bool.and_eq_true, decide_eq_true_eq] at d0 d1
  simp only [Bool.not_true, cond_false, Option.bind_some]
  rw [plain_val _ (by omega) ts ti ix foot (by omega)]
  simp only [Option.bind_some]
  rw [put_val _ (by omega), rright_val _ (by omega) ts ti ix foot hall (by omega)]
  have hj : clepsydralaw06_TzifPuts_j0 (m + 5000) (if RightS ts ti ix foot then (putS ts ti ix foot, (0 : Int)) else ([], 2)).1 (if RightS ts ti ix foot then (putS ts ti ix foot, (0 : Int)) else ([], 2)).2 (RightS ts ti ix foot) (ts.map cT) ti ix foot (ts'.map cT) ti' ix' foot' (ts.map cT) ti ix foot = some (false, ts.map cT, ti, ix, foot, ts'.map cT, ti', ix', foot', ts.map cT, ti, ix, foot) := by
    unfold clepsydralaw06_TzifPuts_j0 clepsydralaw06_TzifPuts_j0_b
    rw [right_val _ (by omega)]
    cases hR : RightS ts ti ix foot with
    | false => rfl
    | true =>
      simp only [if_true, Option.bind_some, rput_val _ (show 4001 ≤ m + 5000 by omega) ts ti ix foot hR]
      have e1 : (strOf (putS ts ti ix foot) == strOf (putS ts ti ix foot)) = true := by simp
      rw [e1]
      rfl
  simp only [Option.bind_some, hj, cond_false]
  rw [at_val _ (by omega), rat_val _ (by omega) ts ti ix foot sec hall (by omega)]
  have e2 : (AtS ts ti ix foot sec == AtS ts ti ix foot sec) = true := by simp
  simp only [Option.bind_some, e2, cond_true]
  rw [same_val _ ts ti ix foot ts' ti' ix' foot' (by omega) (by omega) (by omega) (by omega) (by omega) (by omega), plain_val _ (by omega) ts' ti' ix' foot' (by omega)]
  simp only [Option.bind_some]
  rw [rsame_val _ ts ti ix foot ts' ti' ix' foot' (by omega) (by omega) (by omega) (by omega) (by omega) (by omega)]
  have e3 : (SameS ts ti ix foot ts' ti' ix' foot' == SameS ts ti ix foot ts' ti' ix' foot') = true := by simp
  simp only [Option.bind_some, e3, cond_true]
  rw [same_val _ ts ti ix foot ts ti ix foot (by omega) (by omega) (by omega) (by omega) (by omega) (by omega), same_self]
  simp [hw]
theorem lens_bound : ∀ (ts : List Ty), ∃ n, ∀ t ∈ ts, t.2.2.length < n
  | [] => ⟨0, by simp⟩
  | t :: r => by
    obtain ⟨n, h⟩ := lens_bound r
    refine ⟨n + (t.2.2.length + 1), fun u hu => ?_⟩
    rcases List.mem_cons.1 hu with rfl | hu
    · omega
    · have := h u hu; omega
theorem TzifPuts_row {els : List (List AV)} {ti ix : List Int} {foot : Str} {els' : List (List AV)} {ti' ix' : List Int} {foot' : Str} {sec : Int} (h0 : ∀ e ∈ els, LD.sats [.int .i64, .bool, .str] e) (h1 : ∀ e ∈ els', LD.sats [.int .i64, .bool, .str] e) : ∃ n, clepsydralaw06_TzifPuts_f n els ti ix foot els' ti' ix' foot' sec = some true := by
  obtain ⟨ts, rfl, w⟩ := open_types h0
  obtain ⟨ts', rfl, _⟩ := open_types h1
  obtain ⟨n, hn⟩ := lens_bound ts
  exact ⟨n + 5000, TzifPuts_law (n + 5000) (by omega) ts ti ix foot ts' ti' ix' foot' sec fun t ht => ⟨(w t ht).2.2, by have := hn t ht; omega⟩⟩
end Go.Proofs.YtcbgfjghebopoaaDoor.H

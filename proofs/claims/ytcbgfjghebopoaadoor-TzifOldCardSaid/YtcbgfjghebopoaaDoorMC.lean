import Derived.Test.YtcbgfjghebopoaaDoorMA
import Derived.KernelRfl
import Derived.Test.YtcbgfjghebopoaaDoorT1234
import Derived.Test.YtcbgfjghebopoaaDoorMB
import Derived.Test.YtcbgfjghebopoaaDoorT24
/- Chapter 06: what a statement lets in; the chapter's examples. -/
namespace Go.Proofs.YtcbgfjghebopoaaDoor.H
open Go.Sh Go.RowKit
set_option linter.unusedSimpArgs false
set_option linter.unusedVariables false

def fewS (ts : List Ty) (ti ix : List Int) (foot : Str) (n : Nat) : Bool := decide (ts.length ≤ 300) && decide (ti.length ≤ n) && decide (ix.length ≤ n) && decide (foot.length ≤ 200)
theorem few_val (n : Nat) (ts : List Ty) (ti ix : List Int) (foot : Str) (m : Nat) : clepsydralaw06_few_f n (ts.map cT) ti ix foot (m : Int) = some (fewS ts ti ix foot m) := by
  unfold clepsydralaw06_few_f clepsydralaw06_few_b fewS
  rw [List.length_map]
  by_cases c1 : ts.length ≤ 300
  · rw [cond_pos (by omega)]
    by_cases c2 : ti.length ≤ m
    · rw [cond_pos (by omega)]
      by_cases c3 : ix.length ≤ m
      · rw [cond_pos (by omega), decide_eq_true c1, decide_eq_true c2, decide_eq_true c3]
        simp only [Bool.true_and]
        congr 1
        rw [decide_eq_decide]; omega
      · rw [cond_neg (by omega)]; simp [c3]
    · rw [cond_neg (by omega)]; simp [c2]
  · rw [cond_neg (by omega)]; simp [c1]
theorem works_val (m : Nat) : clepsydralaw06_works_f (m + 5000) = some true := by kernel_rfl

end Go.Proofs.YtcbgfjghebopoaaDoor.H

/- Chapter 06: are two zones the same (the program's way). -/
namespace Go.Proofs.YtcbgfjghebopoaaDoor.H
open Go.Sh Go.RowKit
set_option linter.unusedSimpArgs false
set_option linter.unusedVariables false

theorem same_types (n : Nat) (xs ys : List Ty) (hx : xs.length ≤ 100000) (hl : xs.length = ys.length) : ∀ (r r' : List Ty) (i m : Nat), xs.drop i = r → ys.drop i = r' → r.length < m →
    tzif_Type_1_l0 n m (xs.map cT) (ys.map cT) (xs.length : Int) (i : Int) = some (if r == r' then Sum.inr () else Sum.inl ())
  | [], r', i, m + 1, h, h', _ => by
    have hi := drop_nil h
    have : r' = [] := by rw [← h']; exact List.drop_eq_nil_of_le (by omega)
    subst this
    simp only [tzif_Type_1_l0, tzif_Type_1_l0_b]
    rw [cond_neg (by omega)]
    rfl
  | t :: r, [], i, m + 1, h, h', _ => by
    have h1 := drop_nil h'
    obtain ⟨_, _, h2⟩ := drop_cons h
    omega
  | t :: r, t' :: r', i, m + 1, h, h', hm => by
    obtain ⟨k1, k2, k3⟩ := drop_cons h
    obtain ⟨j1, j2, j3⟩ := drop_cons h'
    simp only [List.length_cons] at hm
    simp only [tzif_Type_1_l0, tzif_Type_1_l0_b]
    rw [cond_pos (by omega), cond_pos (by omega), Int.toNat_natCast, List.getElem?_map, k1, wrap1 _ (by omega)]
    simp only [Option.map_some, Option.bind_some, cT, unc, getI, getB, getT, unn, decide_true, cond_true]
    rw [cond_pos (by omega), List.getElem?_map, j1]
    simp only [Option.map_some, Option.bind_some, unc, getI, getB, getT, unn, decide_true, cond_true, Bool.and_true, cT]
    have e : (t :: r == t' :: r') = ((t.1 == t'.1 && (t.2.1 == t'.2.1 && t.2.2 == t'.2.2)) && (r == r')) := rfl
    rw [e]
    cases hc : (t.1 == t'.1 && (t.2.1 == t'.2.1 && t.2.2 == t'.2.2)) with
    | false => rfl
    | true =>
      simp only [Bool.not_true, cond_false, Bool.true_and]
      exact same_types n xs ys hx hl r r' (i + 1) m k2 j2 (by omega)
theorem same_ints (n : Nat) (xs ys : List Int) (hx : xs.length ≤ 100000) (hl : xs.length = ys.length) : ∀ (r r' : List Int) (i m : Nat), xs.drop i = r → ys.drop i = r' → r.length < m →
    slices_Equal_int64_int64_l0 n m xs ys (xs.length : Int) (i : Int) = some (if r == r' then Sum.inr () else Sum.inl ()) ∧ slices_Equal_int_int_l0 n m xs ys (xs.length : Int) (i : Int) = some (if r == r' then Sum.inr () else Sum.inl ())
  | [], r', i, m + 1, h, h', _ => by
    have hi := drop_nil h
    have : r' = [] := by rw [← h']; exact List.drop_eq_nil_of_le (by omega)
    subst this
    simp only [slices_Equal_int64_int64_l0, slices_Equal_int64_int64_l0_b, slices_Equal_int_int_l0, slices_Equal_int_int_l0_b]
    rw [cond_neg (by omega), cond_neg (by omega)]
    exact ⟨rfl, rfl⟩
  | t :: r, [], i, m + 1, h, h', _ => by
    have h1 := drop_nil h'
    obtain ⟨_, _, h2⟩ := drop_cons h
    omega
  | t :: r, t' :: r', i, m + 1, h, h', hm => by
    obtain ⟨k1, k2, k3⟩ := drop_cons h
    obtain ⟨j1, j2, j3⟩ := drop_cons h'
    simp only [List.length_cons] at hm
    simp only [slices_Equal_int64_int64_l0, slices_Equal_int64_int64_l0_b, slices_Equal_int_int_l0, slices_Equal_int_int_l0_b, decide_eq_true (show ((i : Int) < (xs.length : Int)) by omega), decide_eq_true (show (0 : Int) ≤ (i : Int) by omega), cond_true, Int.toNat_natCast, k1, j1, Option.bind_some, wrap1 i (by omega)]
    have e : (t :: r == t' :: r') = ((t == t') && (r == r')) := rfl
    rw [e, bne]
    obtain ⟨ih1, ih2⟩ := same_ints n xs ys hx hl r r' (i + 1) m k2 j2 (by omega)
    cases hc : t == t' with
    | false => exact ⟨rfl, rfl⟩
    | true =>
      simp only [Bool.not_true, cond_false, Bool.true_and]
      exact ⟨ih1, ih2⟩
def SameS (ts : List Ty) (ti ix : List Int) (foot : Str) (ts' : List Ty) (ti' ix' : List Int) (foot' : Str) : Bool := (ts == ts') && ((ti == ti') && ((ix == ix') && (foot == foot')))
theorem beq_len {α : Type} [BEq α] [LawfulBEq α] {l m : List α} (h : ¬ l.length = m.length) : (l == m) = false := by
  rw [Bool.eq_false_iff]
  intro e
  exact h (by rw [eq_of_beq e])
theorem lenB_ne {a b : Nat} (h : ¬ a = b) : ((a : Int) != (b : Int)) = true := by simp; omega
theorem lenB_eq {a b : Nat} (h : a = b) : ((a : Int) != (b : Int)) = false := by simp; omega
theorem types_val (n : Nat) (xs ys : List Ty) (hx : xs.length ≤ 100000) (hn : xs.length < n) : tzif_Type_1_f n (xs.map cT) (ys.map cT) = some (xs == ys) := by
  unfold tzif_Type_1_f tzif_Type_1_b
  rw [List.length_map, List.length_map]
  by_cases h : xs.length = ys.length
  · have e := same_types n xs ys hx h xs ys 0 n (by simp) (by simp) hn
    simp only [Int.natCast_zero] at e
    rw [lenB_eq h, cond_false, e]
    cases hc : xs == ys <;> rfl
  · rw [lenB_ne h, beq_len h]; rfl
theorem equal64_val (n : Nat) (xs ys : List Int) (hx : xs.length ≤ 100000) (hn : xs.length < n) : slices_Equal_int64_int64_f n xs ys = some (xs == ys) := by
  unfold slices_Equal_int64_int64_f slices_Equal_int64_int64_b
  by_cases h : xs.length = ys.length
  · have e := (same_ints n xs ys hx h xs ys 0 n (by simp) (by simp) hn).1
    simp only [Int.natCast_zero] at e
    rw [lenB_eq h, cond_false, e]
    cases hc : xs == ys <;> rfl
  · rw [lenB_ne h, beq_len h]; rfl
theorem equal_val (n : Nat) (xs ys : List Int) (hx : xs.length ≤ 100000) (hn : xs.length < n) : slices_Equal_int_int_f n xs ys = some (xs == ys) := by
  unfold slices_Equal_int_int_f slices_Equal_int_int_b
  by_cases h : xs.length = ys.length
  · have e := (same_ints n xs ys hx h xs ys 0 n (by simp) (by simp) hn).2
    simp only [Int.natCast_zero] at e
    rw [lenB_eq h, cond_false, e]
    cases hc : xs == ys <;> rfl
  · rw [lenB_ne h, beq_len h]; rfl
theorem same_val (n : Nat) (ts : List Ty) (ti ix : List Int) (foot : Str) (ts' : List Ty) (ti' ix' : List Int) (foot' : Str) (h1 : ts.length ≤ 100000) (h2 : ti.length ≤ 100000) (h3 : ix.length ≤ 100000) (hn1 : ts.length < n) (hn2 : ti.length < n) (hn3 : ix.length < n) :
    tzif_Same_f n (ts.map cT) ti ix foot (ts'.map cT) ti' ix' foot' = some (SameS ts ti ix foot ts' ti' ix' foot') := by
  unfold tzif_Same_f tzif_Same_b SameS
  rw [types_val n ts ts' h1 hn1, equal64_val n ti ti' h2 hn2, equal_val n ix ix' h3 hn3]
  simp only [Option.bind_some]
  cases ts == ts' <;> cases ti == ti' <;> cases ix == ix' <;> rfl
theorem same_self (ts : List Ty) (ti ix : List Int) (foot : Str) : SameS ts ti ix foot ts ti ix foot = true := by simp [SameS]
end Go.Proofs.YtcbgfjghebopoaaDoor.H

/- Chapter 06: TzifBack. -/
namespace Go.Proofs.YtcbgfjghebopoaaDoor.H
open Go.Sh Go.RowKit
set_option linter.unusedSimpArgs false
set_option linter.unusedVariables false

theorem put_length {ts : List Ty} {ti ix : List Int} {foot : Str} (hR : RightS ts ti ix foot = true) : 105 ≤ (putS ts ti ix foot).length ∧ (putS ts ti ix foot).length ≤ 50000 := by
  obtain ⟨h1, h2, h3, h4, h5, h6, h7, h8⟩ := right_parts hR
  have hf : foot.length ≤ 100 := by
    simp only [textS, Bool.and_eq_true, decide_eq_true_eq] at h5
    omega
  have hs : 2 ≤ sumL ts := by
    cases ts with
    | nil => simp at h1
    | cons t r' =>
      have := List.all_eq_true.1 h6 t (by simp)
      have h0 : t.2.2 ≠ [] := fun e => by simp [okT, e] at this
      have := List.length_pos_iff.2 h0
      simp only [sumL]; omega
  rw [put_split, List.length_append, List.length_append, ahead_len, body_len ts ti ix h4]
  have htl : (10 :: (intsOf foot ++ [10])).length = foot.length + 2 := by simp [intsOf_length]
  rw [htl]
  omega
theorem TzifBack_law (m : Nat) (ts : List Ty) (ti ix : List Int) (foot : Str) (cut : Int) (hti : ∀ x ∈ ti, -9223372036854775808 ≤ x ∧ x ≤ 9223372036854775807) (hc : 0 ≤ cut ∧ cut ≤ 65535) : clepsydralaw06_TzifBack_f (m + 5000) (ts.map cT) ti ix foot cut = some true := by
  have hw := works_val m
  have hf : clepsydralaw06_few_f (m + 5000) (ts.map cT) ti ix foot 500 = some (fewS ts ti ix foot 500) := few_val _ ts ti ix foot 500
  unfold clepsydralaw06_TzifBack_f clepsydralaw06_TzifBack_b
  rw [hf]
  simp only [Option.bind_some]
  cases c0 : fewS ts ti ix foot 500 with
  | false => simp [hw]
  | true =>
  have d0 := c0
  simp only [fewS, Bool.and_eq_true, decide_eq_true_eq] at d0
  simp only [Bool.not_true, cond_false, put_val (m + 5000) (by omega), Option.bind_some]
  cases hR : RightS ts ti ix foot with
  | false => simp [hw]
  | true =>
  obtain ⟨l1, l2⟩ := put_length hR
  simp only [if_true]
  rw [show ((0 : Int) != 0) = false by decide, cond_false, parse_put _ (by omega) ts ti ix foot hR hti]
  simp only [Option.bind_some]
  have hj : clepsydralaw06_TzifBack_j0 (m + 5000) (putS ts ti ix foot) 0 (ts.map cT) ti ix foot (ts.map cT) ti ix foot = some (false, ts.map cT, ti, ix, foot, ts.map cT, ti, ix, foot) := by
    unfold clepsydralaw06_TzifBack_j0 clepsydralaw06_TzifBack_j0_b
    rw [show ((0 : Int) != 0) = false by decide, cond_false, same_val _ ts ti ix foot ts ti ix foot (by omega) (by omega) (by omega) (by omega) (by omega) (by omega), same_self]
    simp only [Option.bind_some, Bool.not_true, cond_false]
    rw [right_val _ (by omega), hR]
    simp only [Option.bind_some, Bool.not_true, cond_false]
    rw [decide_eq_false (by omega)]
  rw [hj]
  simp only [Option.bind_some, cond_false]
  generalize hL : (putS ts ti ix foot).length = L at l1 l2
  obtain ⟨c, hcd⟩ : ∃ c : Int, Int.tmod cut ((L : Int) - 1) = c := ⟨_, rfl⟩
  have hc0 : 0 ≤ c ∧ c < (L : Int) - 1 := by
    rw [← hcd, Int.tmod_eq_emod_of_nonneg hc.1]
    exact ⟨Int.emod_nonneg _ (by omega), Int.emod_lt_of_pos _ (by omega)⟩
  rw [wi ((L : Int) - 1) (by omega) (by omega), wi cut (by omega) (by omega), hcd, wi (1 + c) (by omega) (by omega), wi _ (by omega) (by omega)]
  rw [show ((L : Int) - 1 == 0) = false by simp; omega, cond_false, cond_pos (by omega), cond_pos (by omega), List.drop_zero, parse_cut _ (by omega) ts ti ix foot hR hti _ (by omega)]
  simp only [Option.bind_some, List.nil_append, List.length_nil, List.length_append, List.length_cons, hL]
  rw [cond_pos (by omega), cond_pos (by omega), parse_more _ (by omega) ts ti ix foot hR hti]
  simp [hw]
theorem TzifBack_row {els : List (List AV)} {ti ix : List Int} {foot : Str} {cut : Int} (h0 : ∀ e ∈ els, LD.sats [.int .i64, .bool, .str] e) (h1 : ∀ n ∈ ti, (Lit.int .i64 n).wf = true) (h2 : (Lit.int .u16 cut).wf = true) : ∃ n, clepsydralaw06_TzifBack_f n els ti ix foot cut = some true := by
  obtain ⟨ts, rfl, _⟩ := open_types h0
  refine ⟨0 + 5000, TzifBack_law 0 ts ti ix foot cut (fun x hx => wf_i64 (h1 x hx)) ?_⟩
  simp only [Lit.wf, Bool.and_eq_true, decide_eq_true_eq] at h2
  exact h2
end Go.Proofs.YtcbgfjghebopoaaDoor.H

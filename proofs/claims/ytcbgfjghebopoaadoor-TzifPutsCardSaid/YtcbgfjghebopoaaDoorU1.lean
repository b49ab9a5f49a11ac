/- Chapter 06: which zones are right (the program's way). -/
import Derived.Test.YtcbgfjghebopoaaDoorT01234
import Derived.Test.YtcbgfjghebopoaaDoorPA
namespace Go.Proofs.YtcbgfjghebopoaaDoor.H
open Go.Sh Go.RowKit
set_option linter.unusedSimpArgs false
set_option linter.unusedVariables false

abbrev Ty := Int × Bool × Str
/-- A type, as a row's element. -/
def cT (t : Ty) : List AV := [.int .i64 t.1, .bool t.2.1, .str t.2.2]
theorem wi (x : Int) (h : -9223372036854775808 ≤ x) (h2 : x ≤ 9223372036854775807) : IntKind.i64.wrap x = x := IntWalk.i64_in _ (by omega)
/-- May a byte be seen. -/
def okC (low : Int) (c : UInt8) : Bool := !decide ((c.toNat : Int) < low) && !decide ((c.toNat : Int) > 126)
def textS (s : Str) (many low : Int) : Bool := decide ((s.length : Int) ≤ many) && s.all (okC low)

theorem get_ints (s : Str) (i : Nat) : (intsOf s)[i]? = (s[i]?).map fun c => (c.toNat : Int) := by simp [intsOf]
theorem index_byte (n : Nat) (low : Int) (s : Str) (hs : s.length < 4000000000000000000) : ∀ (r : Str) (i m : Nat), s.drop i = r → r.length < m →
    (r.all (okC low) = true → slices_IndexFunc_byte_byte_l0 n m (intsOf s) (s.length : Int) (i : Int) low = some (Sum.inr low)) ∧
    (r.all (okC low) = false → ∃ j : Int, 0 ≤ j ∧ slices_IndexFunc_byte_byte_l0 n m (intsOf s) (s.length : Int) (i : Int) low = some (Sum.inl (j, low)))
  | [], i, m + 1, h, _ => by
    have hi := drop_nil h
    refine ⟨fun _ => ?_, fun h => by simp at h⟩
    simp only [slices_IndexFunc_byte_byte_l0, slices_IndexFunc_byte_byte_l0_b]
    rw [cond_neg (by omega)]
  | c :: r, i, m + 1, h, hm => by
    obtain ⟨h1, h2, h3⟩ := drop_cons h
    obtain ⟨ih1, ih2⟩ := index_byte n low s hs r (i + 1) m h2 (by simpa using hm)
    have e : slices_IndexFunc_byte_byte_l0 n (m + 1) (intsOf s) (s.length : Int) (i : Int) low = cond (!okC low c) (some (Sum.inl ((i : Int), low))) (slices_IndexFunc_byte_byte_l0 n m (intsOf s) (s.length : Int) ((i + 1 : Nat) : Int) low) := by
      simp only [slices_IndexFunc_byte_byte_l0, slices_IndexFunc_byte_byte_l0_b]
      rw [cond_pos (by omega), cond_pos (by omega), Int.toNat_natCast, get_ints, h1, wrap1 _ (by omega)]
      simp only [Option.map_some, Option.bind_some, tzif_text_1_f, tzif_text_1_b, okC]
      by_cases hl : (c.toNat : Int) < low
      · simp [hl]
      · by_cases hh : (c.toNat : Int) > 126 <;> simp [hl, hh]
    rw [e]
    cases hc : okC low c with
    | true =>
      simp only [List.all_cons, hc, Bool.true_and, Bool.not_true, cond_false]
      exact ⟨ih1, ih2⟩
    | false => simp [hc]
theorem text_val (n : Nat) (s : Str) (many low : Int) (hm : many < 4000000000000000000) (hn : (s.length : Int) ≤ many → s.length < n) : tzif_text_f n s many low = some (textS s many low) := by
  unfold tzif_text_f tzif_text_b textS
  by_cases h : (s.length : Int) ≤ many
  · rw [cond_pos h, decide_eq_true h, Bool.true_and]
    have hn' := hn h
    obtain ⟨h1, h2⟩ := index_byte n low s (by omega) s 0 n (by simp) hn'
    simp only [slices_ContainsFunc_byte_byte_f, slices_ContainsFunc_byte_byte_b, slices_IndexFunc_byte_byte_f, slices_IndexFunc_byte_byte_b, intsOf_length]
    cases hc : s.all (okC low) with
    | true =>
      have := h1 hc
      simp only [Int.natCast_zero] at this
      rw [this]
      simp
    | false =>
      obtain ⟨j, hj, this⟩ := h2 hc
      simp only [Int.natCast_zero] at this
      rw [this]
      simp [hj]
  · rw [cond_neg h, decide_eq_false h, Bool.false_and]

/-- Is a type right. -/
def okT (t : Ty) : Bool := !decide (t.1 < -89999) && !decide (t.1 > 93599) && !(t.2.2 == []) && textS t.2.2 15 33
def sumL : List Ty → Nat
  | [] => 0
  | t :: r => t.2.2.length + 1 + sumL r
theorem right_j1 (n : Nat) (hn : 16 ≤ n) (h0 : List (List AV)) (h1 h2 : List Int) (h3 : Str) (t : Ty) : tzif_Right_j1 n h0 h1 h2 h3 t.1 t.2.1 t.2.2 = some (!okT t, h0, h1, h2, h3, t.1, t.2.1, t.2.2) := by
  unfold tzif_Right_j1 tzif_Right_j1_b okT
  rw [text_val n t.2.2 15 33 (by omega) (fun h => by omega)]
  by_cases c1 : t.1 < -89999
  · simp [c1]
  · by_cases c2 : t.1 > 93599
    · simp [c1, c2]
    · cases c3 : t.2.2 == [] <;> simp [c1, c2, c3]
theorem okT_len {t : Ty} (h : okT t = true) : t.2.2.length ≤ 15 := by
  simp only [okT, textS, Bool.and_eq_true, decide_eq_true_eq] at h
  omega
theorem right_l1 (n : Nat) (hn : 16 ≤ n) (ts : List Ty) (h0 : List (List AV)) (h1 h2 : List Int) (h3 : Str) (hts : ts.length ≤ 255) : ∀ (r : List Ty) (i m x : Nat), ts.drop i = r → r.length < m → x ≤ 16 * i →
    tzif_Right_l1 n m (x : Int) (ts.map cT) (ts.length : Int) (i : Int) h0 h1 h2 h3 = some (if r.all okT then Sum.inr (((x + sumL r : Nat) : Int), h0, h1, h2, h3) else Sum.inl ())
  | [], i, m + 1, x, h, _, _ => by
    have hi := drop_nil h
    simp only [tzif_Right_l1, tzif_Right_l1_b]
    rw [cond_neg (by omega)]
    simp [sumL]
  | t :: r, i, m + 1, x, h, hm, hx => by
    obtain ⟨k1, k2, k3⟩ := drop_cons h
    simp only [tzif_Right_l1, tzif_Right_l1_b]
    rw [cond_pos (by omega), cond_pos (by omega), Int.toNat_natCast, List.getElem?_map, k1, wrap1 _ (by omega)]
    simp only [Option.map_some, Option.bind_some, cT, unc, getI, getB, getT, unn, right_j1 n hn]
    cases hc : okT t with
    | false => simp [hc]
    | true =>
      have hl := okT_len hc
      simp only [hc, Bool.not_true, cond_false]
      have e : IntKind.i64.wrap ((x : Int) + IntKind.i64.wrap ((t.2.2.length : Int) + 1)) = ((x + (t.2.2.length + 1) : Nat) : Int) := by
        rw [wi ((t.2.2.length : Int) + 1) (by omega) (by omega), wi _ (by omega) (by omega)]; omega
      rw [e, right_l1 n hn ts h0 h1 h2 h3 hts r (i + 1) m _ k2 (by simpa using hm) (by omega)]
      simp only [List.all_cons, hc, Bool.true_and, sumL, Nat.add_assoc, decide_true, cond_true]
/-- Does the index at a place be, and does its time stand behind the one ahead. -/
def okAt (ti ix : List Int) (len k : Nat) : Bool := decide (0 ≤ ix.getD k 0) && decide (ix.getD k 0 < len) && (k == 0 || decide (ti.getD (k - 1) 0 < ti.getD k 0))
theorem getD_of {l : List Int} {i : Nat} {v : Int} (h : l[i]? = some v) : l.getD i 0 = v := by rw [List.getD_eq_getElem?_getD, h]; rfl
theorem get_of {l : List Int} {i : Nat} (h : i < l.length) : l[i]? = some (l.getD i 0) := by rw [List.getD_eq_getElem?_getD, List.getElem?_eq_getElem h]; rfl
theorem right_j0 (n : Nat) (h0 : List (List AV)) (ti ix : List Int) (h3 : Str) (i : Nat) (v : Int) (hv : ix[i]? = some v) (hi : i < ti.length) (hb : ti.length ≤ 4000) : tzif_Right_j0 n (i : Int) v h0 ti ix h3 = some (!okAt ti ix h0.length i, h0, ti, ix, h3) := by
  unfold tzif_Right_j0 tzif_Right_j0_b okAt
  rw [getD_of hv]
  by_cases c1 : v < 0
  · rw [cond_pos c1]; simp [show ¬ (0 ≤ v) by omega]
  · rw [cond_neg c1, decide_eq_true (show 0 ≤ v by omega)]
    by_cases c2 : v ≥ (h0.length : Int)
    · rw [cond_pos c2]; simp [show ¬ (v < (h0.length : Int)) by omega]
    · rw [cond_neg c2, decide_eq_true (show v < (h0.length : Int) by omega)]
      by_cases c3 : (i : Int) > 0
      · rw [cond_pos c3, cond_pos (by omega), Int.toNat_natCast, get_of hi, Option.bind_some, wi _ (by omega) (by omega), cond_pos (by omega), show ((i : Int) - 1).toNat = i - 1 by omega, get_of (show i - 1 < ti.length by omega), Option.bind_some]
        have : (i == 0) = false := by simp; omega
        rw [this]
        by_cases c4 : ti.getD i 0 ≤ ti.getD (i - 1) 0
        · rw [decide_eq_true c4, decide_eq_false (show ¬ (ti.getD (i - 1) 0 < ti.getD i 0) by omega)]; rfl
        · rw [decide_eq_false c4, decide_eq_true (show ti.getD (i - 1) 0 < ti.getD i 0 by omega)]; rfl
      · rw [cond_neg c3]
        have : i = 0 := by omega
        subst this
        simp
theorem right_l0 (n : Nat) (h0 : List (List AV)) (ti ix : List Int) (h3 : Str) (hl : ti.length = ix.length) (hb : ti.length ≤ 4000) : ∀ (k i m : Nat), i + k = ix.length → k < m →
    tzif_Right_l0 n m ix (ix.length : Int) (i : Int) h0 ti ix h3 = some (if (List.range' i k).all (okAt ti ix h0.length) then Sum.inr (h0, ti, ix, h3) else Sum.inl (h0, ti, ix, h3))
  | 0, i, m + 1, h, _ => by
    simp only [tzif_Right_l0, tzif_Right_l0_b]
    rw [cond_neg (by omega)]
    simp
  | k + 1, i, m + 1, h, hm => by
    simp only [tzif_Right_l0, tzif_Right_l0_b]
    have hi : i < ix.length := by omega
    rw [cond_pos (by omega), cond_pos (by omega), Int.toNat_natCast, get_of hi, wrap1 _ (by omega)]
    simp only [Option.bind_some, right_j0 n h0 ti ix h3 i _ (get_of hi) (by omega) hb, List.range'_succ, List.all_cons]
    cases hc : okAt ti ix h0.length i with
    | false => simp
    | true =>
      simp only [Bool.not_true, cond_false, Bool.true_and]
      exact right_l0 n h0 ti ix h3 hl hb k (i + 1) m (by omega) (by omega)
/-- Is a zone right. -/
def RightS (ts : List Ty) (ti ix : List Int) (foot : Str) : Bool :=
  decide (1 ≤ ts.length) && decide (ts.length ≤ 255) && decide (ti.length ≤ 4000) && decide (ti.length = ix.length) && textS foot 100 32 && ts.all okT && (List.range' 0 ix.length).all (okAt ti ix ts.length) && decide (sumL ts ≤ 256)
theorem right_val (n : Nat) (hn : 4001 ≤ n) (ts : List Ty) (ti ix : List Int) (foot : Str) : tzif_Right_f n (ts.map cT) ti ix foot = some (RightS ts ti ix foot) := by
  unfold tzif_Right_f tzif_Right_b tzif_Right_j2 tzif_Right_j2_b RightS
  simp only [List.length_map]
  by_cases c1 : (ts.length : Int) < 1
  · rw [cond_pos c1]; simp [show ¬ (1 ≤ ts.length) by omega]
  rw [cond_neg c1, decide_eq_true (show 1 ≤ ts.length by omega)]
  by_cases c2 : (ts.length : Int) > 255
  · rw [cond_pos c2]; simp [show ¬ (ts.length ≤ 255) by omega]
  rw [cond_neg c2, decide_eq_true (show ts.length ≤ 255 by omega)]
  by_cases c3 : (ti.length : Int) > 4000
  · rw [cond_pos c3]; simp [show ¬ (ti.length ≤ 4000) by omega]
  rw [cond_neg c3, decide_eq_true (show ti.length ≤ 4000 by omega)]
  by_cases c4 : ti.length = ix.length
  case neg =>
    have : ((ti.length : Int) != (ix.length : Int)) = true := by simp; omega
    rw [this]; simp [c4]
  have : ((ti.length : Int) != (ix.length : Int)) = false := by simp; omega
  rw [this, decide_eq_true c4, text_val n foot 100 32 (by omega) (fun h => by omega)]
  simp only [cond_false, Option.bind_some, Bool.true_and]
  cases c5 : textS foot 100 32 with
  | false => simp
  | true =>
    have e1 := right_l1 n (by omega) ts (ts.map cT) ti ix foot (by omega) ts 0 n 0 (by simp) (by omega) (by omega)
    simp only [Int.natCast_zero, Nat.zero_add] at e1
    simp only [Bool.not_true, cond_false, List.length_map, e1, Option.bind_some]
    cases c6 : ts.all okT with
    | false => simp
    | true =>
      have e2 := right_l0 n (ts.map cT) ti ix foot c4 (by omega) ix.length 0 n (by omega) (by omega)
      simp only [Int.natCast_zero, List.length_map] at e2
      simp only [if_true, Sum.elim_inr, e2, Option.bind_some]
      cases c7 : (List.range' 0 ix.length).all (okAt ti ix ts.length) with
      | false => simp
      | true =>
        simp only [if_true, Sum.elim_inr, Bool.true_and]
        congr 1
        rw [decide_eq_decide]; omega
end Go.Proofs.YtcbgfjghebopoaaDoor.H

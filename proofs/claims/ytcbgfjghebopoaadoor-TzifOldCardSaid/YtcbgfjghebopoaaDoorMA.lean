import Derived.Test.YtcbgfjghebopoaaDoorT01234
import Derived.Test.YtcbgfjghebopoaaDoorPA
import Derived.Test.YtcbgfjghebopoaaDoorSY
/- Chapter 06: which zones are right (the program's way). -/
namespace Go.Proofs.YtcbgfjghebopoaaDoor.H
open Go.Sh Go.RowKit
set_option linter.unusedSimpArgs false
set_option linter.unusedVariables false

abbrev Ty := Int × Bool × Str
/-- A type, as a row's element. -/
def cT (t : Ty) : List AV := [.int .i64 t.1, .bool t.2.1, .str t.2.2]
theorem wi (x : Int) (h : -9223372036854775808 ≤ x) (h2 : x ≤ 9223372036854775807) : IntKind.i64.wrap x = x := IntWalk.i64_in _ (by omega)
/-- May a byte be seen. -/
def okC (low : Int) (c : UInt8) : Bool := !decide ((c.toNat : Int) < low) && !decide ((c.toNat : Int) > 126)
def textS (s : Str) (many low : Int) : Bool := decide ((s.length : Int) ≤ many) && s.all (okC low)

theorem get_ints (s : Str) (i : Nat) : (intsOf s)[i]? = (s[i]?).map fun c => (c.toNat : Int) := by simp [intsOf]
theorem index_byte (n : Nat) (low : Int) (s : Str) (hs : s.length < 4000000000000000000) : ∀ (r : Str) (i m : Nat), s.drop i = r → r.length < m →
    (r.all (okC low) = true → slices_IndexFunc_byte_byte_l0 n m (intsOf s) (s.length : Int) (i : Int) low = some (Sum.inr low)) ∧
    (r.all (okC low) = false → ∃ j : Int, 0 ≤ j ∧ slices_IndexFunc_byte_byte_l0 n m (intsOf s) (s.length : Int) (i : Int) low = some (Sum.inl (j, low)))
  | [], i, m + 1, h, _ => by
    have hi := drop_nil h
    refine ⟨fun _ => ?_, fun h => by simp at h⟩
    simp only [slices_IndexFunc_byte_byte_l0, slices_IndexFunc_byte_byte_l0_b]
    rw [cond_neg (by omega)]
  | c :: r, i, m + 1, h, hm => by
    obtain ⟨h1, h2, h3⟩ := drop_cons h
    obtain ⟨ih1, ih2⟩ := index_byte n low s hs r (i + 1) m h2 (by simpa using hm)
    have e : slices_IndexFunc_byte_byte_l0 n (m + 1) (intsOf s) (s.length : Int) (i : Int) low = cond (!okC low c) (some (Sum.inl ((i : Int), low))) (slices_IndexFunc_byte_byte_l0 n m (intsOf s) (s.length : Int) ((i + 1 : Nat) : Int) low) := by
      simp only [slices_IndexFunc_byte_byte_l0, slices_IndexFunc_byte_byte_l0_b]
      rw [cond_pos (by omega), cond_pos (by omega), Int.toNat_natCast, get_ints, h1, wrap1 _ (by omega)]
      simp only [Option.map_some, Option.bind_some, tzif_text_1_f, tzif_text_1_b, okC]
      by_cases hl : (c.toNat : Int) < low
      · simp [hl]
      · by_cases hh : (c.toNat : Int) > 126 <;> simp [hl, hh]
    rw [e]
    cases hc : okC low c with
    | true =>
      simp only [List.all_cons, hc, Bool.true_and, Bool.not_true, cond_false]
      exact ⟨ih1, ih2⟩
    | false => simp [hc]
theorem text_val (n : Nat) (s : Str) (many low : Int) (hm : many < 4000000000000000000) (hn : (s.length : Int) ≤ many → s.length < n) : tzif_text_f n s many low = some (textS s many low) := by
  unfold tzif_text_f tzif_text_b textS
  by_cases h : (s.length : Int) ≤ many
  · rw [cond_pos h, decide_eq_true h, Bool.true_and]
    have hn' := hn h
    obtain ⟨h1, h2⟩ := index_byte n low s (by omega) s 0 n (by simp) hn'
    simp only [slices_ContainsFunc_byte_byte_f, slices_ContainsFunc_byte_byte_b, slices_IndexFunc_byte_byte_f, slices_IndexFunc_byte_byte_b, intsOf_length]
    cases hc : s.all (okC low) with
    | true =>
      have := h1 hc
      simp only [Int.natCast_zero] at this
      rw [this]
      simp
    | false =>
      obtain ⟨j, hj, this⟩ := h2 hc
      simp only [Int.natCast_zero] at this
      rw [this]
      simp [hj]
  · rw [cond_neg h, decide_eq_false h, Bool.false_and]

/-- Is a type right. -/
def okT (t : Ty) : Bool := !decide (t.1 < -89999) && !decide (t.1 > 93599) && !(t.2.2 == []) && textS t.2.2 15 33
def sumL : List Ty → Nat
  | [] => 0
  | t :: r => t.2.2.length + 1 + sumL r
theorem right_j1 (n : Nat) (hn : 16 ≤ n) (h0 : List (List AV)) (h1 h2 : List Int) (h3 : Str) (t : Ty) : tzif_Right_j1 n h0 h1 h2 h3 t.1 t.2.1 t.2.2 = some (!okT t, h0, h1, h2, h3, t.1, t.2.1, t.2.2) := by
  unfold tzif_Right_j1 tzif_Right_j1_b okT
  rw [text_val n t.2.2 15 33 (by omega) (fun h => by omega)]
  by_cases c1 : t.1 < -89999
  · simp [c1]
  · by_cases c2 : t.1 > 93599
    · simp [c1, c2]
    · cases c3 : t.2.2 == [] <;> simp [c1, c2, c3]
theorem okT_len {t : Ty} (h : okT t = true) : t.2.2.length ≤ 15 := by
  simp only [okT, textS, Bool.and_eq_true, decide_eq_true_eq] at h
  omega
theorem right_l1 (n : Nat) (hn : 16 ≤ n) (ts : List Ty) (h0 : List (List AV)) (h1 h2 : List Int) (h3 : Str) (hts : ts.length ≤ 255) : ∀ (r : List Ty) (i m x : Nat), ts.drop i = r → r.length < m → x ≤ 16 * i →
    tzif_Right_l1 n m (x : Int) (ts.map cT) (ts.length : Int) (i : Int) h0 h1 h2 h3 = some (if r.all okT then Sum.inr (((x + sumL r : Nat) : Int), h0, h1, h2, h3) else Sum.inl ())
  | [], i, m + 1, x, h, _, _ => by
    have hi := drop_nil h
    simp only [tzif_Right_l1, tzif_Right_l1_b]
    rw [cond_neg (by omega)]
    simp [sumL]
  | t :: r, i, m + 1, x, h, hm, hx => by
    obtain ⟨k1, k2, k3⟩ := drop_cons h
    simp only [tzif_Right_l1, tzif_Right_l1_b]
    rw [cond_pos (by omega), cond_pos (by omega), Int.toNat_natCast, List.getElem?_map, k1, wrap1 _ (by omega)]
    simp only [Option.map_some, Option.bind_some, cT, unc, getI, getB, getT, unn, right_j1 n hn]
    cases hc : okT t with
    | false => simp [hc]
    | true =>
      have hl := okT_len hc
      simp only [hc, Bool.not_true, cond_false]
      have e : IntKind.i64.wrap ((x : Int) + IntKind.i64.wrap ((t.2.2.length : Int) + 1)) = ((x + (t.2.2.length + 1) : Nat) : Int) := by
        rw [wi ((t.2.2.length : Int) + 1) (by omega) (by omega), wi _ (by omega) (by omega)]; omega
      rw [e, right_l1 n hn ts h0 h1 h2 h3 hts r (i + 1) m _ k2 (by simpa using hm) (by omega)]
      simp only [List.all_cons, hc, Bool.true_and, sumL, Nat.add_assoc, decide_true, cond_true]
/-- Does the index at a place be, and does its time stand behind the one ahead. -/
def okAt (ti ix : List Int) (len k : Nat) : Bool := decide (0 ≤ ix.getD k 0) && decide (ix.getD k 0 < len) && (k == 0 || decide (ti.getD (k - 1) 0 < ti.getD k 0))
theorem getD_of {l : List Int} {i : Nat} {v : Int} (h : l[i]? = some v) : l.getD i 0 = v := by rw [List.getD_eq_getElem?_getD, h]; rfl
theorem get_of {l : List Int} {i : Nat} (h : i < l.length) : l[i]? = some (l.getD i 0) := by rw [List.getD_eq_getElem?_getD, List.getElem?_eq_getElem h]; rfl
theorem right_j0 (n : Nat) (h0 : List (List AV)) (ti ix : List Int) (h3 : Str) (i : Nat) (v : Int) (hv : ix[i]? = some v) (hi : i < ti.length) (hb : ti.length ≤ 4000) : tzif_Right_j0 n (i : Int) v h0 ti ix h3 = some (!okAt ti ix h0.length i, h0, ti, ix, h3) := by
  unfold tzif_Right_j0 tzif_Right_j0_b okAt
  rw [getD_of hv]
  by_cases c1 : v < 0
  · rw [cond_pos c1]; simp [show ¬ (0 ≤ v) by omega]
  · rw [cond_neg c1, decide_eq_true (show 0 ≤ v by omega)]
    by_cases c2 : v ≥ (h0.length : Int)
    · rw [cond_pos c2]; simp [show ¬ (v < (h0.length : Int)) by omega]
    · rw [cond_neg c2, decide_eq_true (show v < (h0.length : Int) by omega)]
      by_cases c3 : (i : Int) > 0
      · rw [cond_pos c3, cond_pos (by omega), Int.toNat_natCast, get_of hi, Option.bind_some, wi _ (by omega) (by omega), cond_pos (by omega), show ((i : Int) - 1).toNat = i - 1 by omega, get_of (show i - 1 < ti.length by omega), Option.bind_some]
        have : (i == 0) = false := by simp; omega
        rw [this]
        by_cases c4 : ti.getD i 0 ≤ ti.getD (i - 1) 0
        · rw [decide_eq_true c4, decide_eq_false (show ¬ (ti.getD (i - 1) 0 < ti.getD i 0) by omega)]; rfl
        · rw [decide_eq_false c4, decide_eq_true (show ti.getD (i - 1) 0 < ti.getD i 0 by omega)]; rfl
      · rw [cond_neg c3]
        have : i = 0 := by omega
        subst this
        simp
theorem right_l0 (n : Nat) (h0 : List (List AV)) (ti ix : List Int) (h3 : Str) (hl : ti.length = ix.length) (hb : ti.length ≤ 4000) : ∀ (k i m : Nat), i + k = ix.length → k < m →
    tzif_Right_l0 n m ix (ix.length : Int) (i : Int) h0 ti ix h3 = some (if (List.range' i k).all (okAt ti ix h0.length) then Sum.inr (h0, ti, ix, h3) else Sum.inl (h0, ti, ix, h3))
  | 0, i, m + 1, h, _ => by
    simp only [tzif_Right_l0, tzif_Right_l0_b]
    rw [cond_neg (by omega)]
    simp
  | k + 1, i, m + 1, h, hm => by
    simp only [tzif_Right_l0, tzif_Right_l0_b]
    have hi : i < ix.length := by omega
    rw [cond_pos (by omega), cond_pos (by omega), Int.toNat_natCast, get_of hi, wrap1 _ (by omega)]
    simp only [Option.bind_some, right_j0 n h0 ti ix h3 i _ (get_of hi) (by omega) hb, List.range'_succ, List.all_cons]
    cases hc : okAt ti ix h0.length i with
    | false => simp
    | true =>
      simp only [Bool.not_true, cond_false, Bool.true_and]
      exact right_l0 n h0 ti ix h3 hl hb k (i + 1) m (by omega) (by omega)
/-- Is a zone right. -/
def RightS (ts : List Ty) (ti ix : List Int) (foot : Str) : Bool :=
  decide (1 ≤ ts.length) && decide (ts.length ≤ 255) && decide (ti.length ≤ 4000) && decide (ti.length = ix.length) && textS foot 100 32 && ts.all okT && (List.range' 0 ix.length).all (okAt ti ix ts.length) && decide (sumL ts ≤ 256)
theorem right_val (n : Nat) (hn : 4001 ≤ n) (ts : List Ty) (ti ix : List Int) (foot : Str) : tzif_Right_f n (ts.map cT) ti ix foot = some (RightS ts ti ix foot) := by
  unfold tzif_Right_f tzif_Right_b tzif_Right_j2 tzif_Right_j2_b RightS
  simp only [List.length_map]
  by_cases c1 : (ts.length : Int) < 1
  · rw [cond_pos c1]; simp [show ¬ (1 ≤ ts.length) by omega]
  rw [cond_neg c1, decide_eq_true (show 1 ≤ ts.length by omega)]
  by_cases c2 : (ts.length : Int) > 255
  · rw [cond_pos c2]; simp [show ¬ (ts.length ≤ 255) by omega]
  rw [cond_neg c2, decide_eq_true (show ts.length ≤ 255 by omega)]
  by_cases c3 : (ti.length : Int) > 4000
  · rw [cond_pos c3]; simp [show ¬ (ti.length ≤ 4000) by omega]
  rw [cond_neg c3, decide_eq_true (show ti.length ≤ 4000 by omega)]
  by_cases c4 : ti.length = ix.length
  case neg =>
    have : ((ti.length : Int) != (ix.length : Int)) = true := by simp; omega
    rw [this]; simp [c4]
  have : ((ti.length : Int) != (ix.length : Int)) = false := by simp; omega
  rw [this, decide_eq_true c4, text_val n foot 100 32 (by omega) (fun h => by omega)]
  simp only [cond_false, Option.bind_some, Bool.true_and]
  cases c5 : textS foot 100 32 with
  | false => simp
  | true =>
    have e1 := right_l1 n (by omega) ts (ts.map cT) ti ix foot (by omega) ts 0 n 0 (by simp) (by omega) (by omega)
    simp only [Int.natCast_zero, Nat.zero_add] at e1
    simp only [Bool.not_true, cond_false, List.length_map, e1, Option.bind_some]
    cases c6 : ts.all okT with
    | false => simp
    | true =>
      have e2 := right_l0 n (ts.map cT) ti ix foot c4 (by omega) ix.length 0 n (by omega) (by omega)
      simp only [Int.natCast_zero, List.length_map] at e2
      simp only [if_true, Sum.elim_inr, e2, Option.bind_some]
      cases c7 : (List.range' 0 ix.length).all (okAt ti ix ts.length) with
      | false => simp
      | true =>
        simp only [if_true, Sum.elim_inr, Bool.true_and]
        congr 1
        rw [decide_eq_decide]; omega
end Go.Proofs.YtcbgfjghebopoaaDoor.H

/- Chapter 06: which type holds (the program's way). -/
namespace Go.Proofs.YtcbgfjghebopoaaDoor.H
open Go.Sh Go.RowKit
set_option linter.unusedSimpArgs false
set_option linter.unusedVariables false

/-- How many of the times have come. -/
def come (ti : List Int) (sec : Int) : Nat := ti.countP fun x => decide (x ≤ sec)
theorem mid_val (i j : Nat) (hj : i + j ≤ 8000) : IntKind.i64.wrap (Int.fdiv (IntKind.u64.wrap (IntKind.i64.wrap ((i : Int) + (j : Int)))) (2 ^ 1)) = (((i + j) / 2 : Nat) : Int) := by
  rw [wi ((i : Int) + (j : Int)) (by omega) (by omega), IntWalk.u64_in _ (by omega), show ((2 : Int) ^ 1) = 2 from rfl, Int.fdiv_eq_ediv_of_nonneg _ (by omega), wi _ (by omega) (by omega)]
  omega
theorem search_loop (n : Nat) (h0 : List (List AV)) (ti ix : List Int) (h3 : Str) (sec : Int) (hb : ti.length ≤ 4000) : ∀ (d i j m : Nat), j - i ≤ d → i ≤ j → j ≤ ti.length → d < m → (0 < i → ti.getD (i - 1) 0 ≤ sec) → (j < ti.length → sec < ti.getD j 0) →
    ∃ k : Nat, sort_Search_l0 n m (i : Int) (j : Int) h0 ti ix h3 sec = some ((k : Int), h0, ti, ix, h3, sec) ∧ k ≤ ti.length ∧ (0 < k → ti.getD (k - 1) 0 ≤ sec) ∧ (k < ti.length → sec < ti.getD k 0)
  | d, i, j, 0, _, _, _, hm, _, _ => absurd hm (by omega)
  | 0, i, j, m + 1, hd, hij, hj, hm, h1, h2 => by
    refine ⟨i, ?_, by omega, h1, (show j = i by omega) ▸ h2⟩
    simp only [sort_Search_l0, sort_Search_l0_b]
    rw [cond_neg (by omega)]
  | d + 1, i, j, m + 1, hd, hij, hj, hm, h1, h2 => by
    by_cases hlt : i < j
    · have hh : (i + j) / 2 < ti.length := by omega
      simp only [sort_Search_l0, sort_Search_l0_b]
      rw [cond_pos (by omega), mid_val i j (by omega)]
      simp only [tzif_At_1_f, tzif_At_1_b]
      rw [cond_pos (by omega), Int.toNat_natCast, get_of hh]
      simp only [Option.bind_some]
      by_cases hc : ti.getD ((i + j) / 2) 0 > sec
      · rw [decide_eq_true hc]
        simp only [Bool.not_true, cond_false]
        exact search_loop n h0 ti ix h3 sec hb d i ((i + j) / 2) m (by omega) (by omega) (by omega) (by omega) h1 (fun _ => hc)
      · rw [decide_eq_false hc]
        simp only [Bool.not_false, cond_true]
        rw [wrap1 _ (by omega)]
        exact search_loop n h0 ti ix h3 sec hb d ((i + j) / 2 + 1) j m (by omega) (by omega) (by omega) (by omega) (fun _ => by simp only [Nat.add_sub_cancel]; omega) h2
    · refine ⟨i, ?_, by omega, h1, (show j = i by omega) ▸ h2⟩
      simp only [sort_Search_l0, sort_Search_l0_b]
      rw [cond_neg (by omega)]
theorem mono_of {ti ix : List Int} {len : Nat} (hl : ti.length = ix.length) (h : (List.range' 0 ix.length).all (okAt ti ix len) = true) : ∀ (b a : Nat), a < b → b < ti.length → ti.getD a 0 < ti.getD b 0
  | 0, a, h1, _ => absurd h1 (by omega)
  | b + 1, a, h1, h2 => by
    have h3 := List.all_eq_true.1 h (b + 1) (by rw [List.mem_range'_1]; omega)
    simp only [okAt, Bool.and_eq_true, Bool.or_eq_true, decide_eq_true_eq, beq_iff_eq] at h3
    have h4 : ti.getD b 0 < ti.getD (b + 1) 0 := by
      rcases h3.2 with h | h
      · omega
      · simpa using h
    rcases Nat.lt_or_ge a b with h5 | h5
    · have := mono_of hl h b a h5 (by omega)
      omega
    · have : a = b := by omega
      subst this; exact h4
theorem come_eq {ti : List Int} {sec : Int} {k : Nat} (hm : ∀ (b a : Nat), a < b → b < ti.length → ti.getD a 0 < ti.getD b 0) (hk : k ≤ ti.length) (h1 : 0 < k → ti.getD (k - 1) 0 ≤ sec) (h2 : k < ti.length → sec < ti.getD k 0) : come ti sec = k := by
  have e : come ti sec = (ti.take k).countP (fun x => decide (x ≤ sec)) + (ti.drop k).countP (fun x => decide (x ≤ sec)) := by
    unfold come
    conv => lhs; rw [← List.take_append_drop k ti]
    rw [List.countP_append]
  have e1 : (ti.take k).countP (fun x => decide (x ≤ sec)) = (ti.take k).length := by
    rw [List.countP_eq_length]
    intro x hx
    obtain ⟨i, hi, rfl⟩ := List.mem_iff_getElem.1 hx
    rw [List.length_take] at hi
    rw [List.getElem_take]
    have h3 : ti[i] = ti.getD i 0 := by rw [List.getD_eq_getElem?_getD, List.getElem?_eq_getElem (by omega)]; rfl
    rw [h3, decide_eq_true_eq]
    have h4 := h1 (by omega)
    rcases Nat.lt_or_ge i (k - 1) with h5 | h5
    · have := hm (k - 1) i h5 (by omega)
      omega
    · have : i = k - 1 := by omega
      subst this; exact h4
  have e2 : (ti.drop k).countP (fun x => decide (x ≤ sec)) = 0 := by
    rw [List.countP_eq_zero]
    intro x hx
    obtain ⟨i, hi, rfl⟩ := List.mem_iff_getElem.1 hx
    rw [List.length_drop] at hi
    rw [List.getElem_drop]
    have h3 : ti[k + i] = ti.getD (k + i) 0 := by rw [List.getD_eq_getElem?_getD, List.getElem?_eq_getElem (by omega)]; rfl
    rw [h3, decide_eq_true_eq]
    have h4 := h2 (by omega)
    rcases Nat.eq_zero_or_pos i with h5 | h5
    · subst h5; simp only [Nat.add_zero]; omega
    · have := hm (k + i) k (by omega) (by omega)
      omega
  rw [e, e1, e2, List.length_take]
  omega
/-- The first type that is no summer's. -/
def stdS (ts : List Ty) : Int := match ts.findIdx? fun t => !t.2.1 with
  | some j => j
  | none => 0
theorem type_l0 (n : Nat) (ts : List Ty) (hts : ts.length ≤ 255) : ∀ (r : List Ty) (i m : Nat), ts.drop i = r → r.length < m →
    tzif_Type_l0 n m (ts.map cT) (ts.length : Int) (i : Int) = some (match r.findIdx? fun t => !t.2.1 with | some j => Sum.inl ((i + j : Nat) : Int) | none => Sum.inr ())
  | [], i, m + 1, h, _ => by
    have hi := drop_nil h
    simp only [tzif_Type_l0, tzif_Type_l0_b]
    rw [cond_neg (by omega)]
    simp
  | t :: r, i, m + 1, h, hm => by
    obtain ⟨k1, k2, k3⟩ := drop_cons h
    simp only [tzif_Type_l0, tzif_Type_l0_b]
    rw [cond_pos (by omega), cond_pos (by omega), Int.toNat_natCast, List.getElem?_map, k1, wrap1 _ (by omega)]
    simp only [Option.map_some, Option.bind_some, cT, unc, getI, getB, getT, unn, tzif_At_2_f, tzif_At_2_b, List.findIdx?_cons]
    cases hd : t.2.1 with
    | false => simp
    | true =>
      simp only [Bool.not_true, cond_false, decide_true, cond_true, Bool.false_eq_true, if_false]
      rw [type_l0 n ts hts r (i + 1) m k2 (by simpa using hm)]
      cases r.findIdx? (fun t => !t.2.1) with
      | none => rfl
      | some j => simp only [Option.map_some]; congr 2; omega
def AtS (ts : List Ty) (ti ix : List Int) (foot : Str) (sec : Int) : Int :=
  if RightS ts ti ix foot then (if 0 < come ti sec then ix.getD (come ti sec - 1) 0 else stdS ts) else 0
theorem right_parts {ts : List Ty} {ti ix : List Int} {foot : Str} (h : RightS ts ti ix foot = true) : 1 ≤ ts.length ∧ ts.length ≤ 255 ∧ ti.length ≤ 4000 ∧ ti.length = ix.length ∧ textS foot 100 32 = true ∧ ts.all okT = true ∧ (List.range' 0 ix.length).all (okAt ti ix ts.length) = true ∧ sumL ts ≤ 256 := by
  simp only [RightS, Bool.and_eq_true, decide_eq_true_eq] at h
  obtain ⟨⟨⟨⟨⟨⟨⟨h1, h2⟩, h3⟩, h4⟩, h5⟩, h6⟩, h7⟩, h8⟩ := h
  exact ⟨h1, h2, h3, h4, h5, h6, h7, h8⟩
theorem come_le (ti : List Int) (sec : Int) : come ti sec ≤ ti.length := List.countP_le_length
theorem at_val (n : Nat) (hn : 4001 ≤ n) (ts : List Ty) (ti ix : List Int) (foot : Str) (sec : Int) : tzif_At_f n (ts.map cT) ti ix foot sec = some (AtS ts ti ix foot sec) := by
  unfold tzif_At_f tzif_At_b AtS
  rw [right_val n hn]
  simp only [Option.bind_some]
  cases hR : RightS ts ti ix foot with
  | false => rfl
  | true =>
    obtain ⟨h1, h2, h3, h4, h5, h6, h7, h8⟩ := right_parts hR
    obtain ⟨k, e1, e2, e3, e4⟩ := search_loop n (ts.map cT) ti ix foot sec h3 ti.length 0 ti.length n (by omega) (by omega) (by omega) (by omega) (fun h => absurd h (by omega)) (fun h => absurd h (by omega))
    have hk := come_eq (mono_of h4 h7) e2 e3 e4
    simp only [Int.natCast_zero] at e1
    simp only [Bool.not_true, cond_false, sort_Search_f, sort_Search_b, e1, Option.bind_some, if_true, hk]
    by_cases hp : 0 < k
    · rw [cond_pos (by omega), wi _ (by omega) (by omega), cond_pos (by omega), if_pos hp, show ((k : Int) - 1).toNat = k - 1 by omega, get_of (show k - 1 < ix.length by omega)]
      rfl
    · rw [cond_neg (by omega), if_neg hp]
      have e5 := type_l0 n ts h2 ts 0 n (by simp) (by omega)
      simp only [Int.natCast_zero] at e5
      simp only [tzif_Type_f, tzif_Type_b, List.length_map, e5, Option.bind_some, stdS]
      cases ts.findIdx? (fun t => !t.2.1) with
      | none => rfl
      | some j =>
        simp only [Sum.elim_inl, Option.bind_some, Nat.zero_add]
        congr 1
        split <;> omega
/-- The rows of types that a law is handed. -/
theorem open_types : ∀ {els : List (List AV)}, (∀ e ∈ els, LD.sats [.int .i64, .bool, .str] e) → ∃ ts : List Ty, els = ts.map cT ∧ ∀ t ∈ ts, -9223372036854775808 ≤ t.1 ∧ t.1 ≤ 9223372036854775807 ∧ t.2.2.length ≤ 9223372036854775807
  | [], _ => ⟨[], rfl, by simp⟩
  | e :: els, h => by
    obtain ⟨ts, rfl, h1⟩ := open_types (els := els) fun e he => h e (by simp [he])
    have h2 := h e (by simp)
    simp only [LD.sats, LD.sat] at h2
    obtain ⟨a, l1, rfl, ⟨n, rfl, hn⟩, b, l2, rfl, ⟨d, rfl⟩, c, l3, rfl, ⟨s, rfl, hs⟩, rfl⟩ := h2
    refine ⟨(n, d, s) :: ts, rfl, fun t ht => ?_⟩
    rcases List.mem_cons.1 ht with rfl | ht
    · have := wf_i64 hn
      exact ⟨this.1, this.2, hs⟩
    · exact h1 t ht
end Go.Proofs.YtcbgfjghebopoaaDoor.H

/- Chapter 06: the file of a zone (the program's way). -/
namespace Go.Proofs.YtcbgfjghebopoaaDoor.H
open Go.Sh Go.RowKit
set_option linter.unusedSimpArgs false
set_option linter.unusedVariables false

/-- So many bytes of a number, the highest first. -/
def be : Nat → Int → List Int
  | 0, _ => []
  | k + 1, v => IntKind.u8.wrap (Int.fdiv v (2 ^ (8 * k))) :: be k v
theorem be_len : ∀ (k : Nat) (v : Int), (be k v).length = k
  | 0, _ => rfl
  | k + 1, v => by simp [be, be_len k v]
theorem number_l0 (n : Nat) (v : Int) : ∀ (k m : Nat) (h : List Int), k ≤ 8 → k < m → h.length + k ≤ 100000 → tzif_writer_number_l0 n m v ((k : Int) - 1) h = some (h ++ be k v)
  | 0, m + 1, h, _, _, _ => by
    simp only [tzif_writer_number_l0, tzif_writer_number_l0_b]
    rw [cond_neg (by omega)]
    simp [be]
  | k + 1, m + 1, h, hk, hm, hl => by
    simp only [tzif_writer_number_l0, tzif_writer_number_l0_b]
    have e : (((k + 1 : Nat) : Int) - 1) = (k : Int) := by omega
    rw [e, cond_pos (by omega), wi ((8 : Int) * (k : Int)) (by omega) (by omega), cond_neg (by omega), cond_pos (by omega), wi _ (by omega) (by omega), show (((8 : Int) * (k : Int)).toNat) = 8 * k by omega, Nat.min_eq_left (by omega), number_l0 n v k m _ (by omega) (by omega) (by simp; omega)]
    simp [be]
theorem number_val (n : Nat) (hn : 9 ≤ n) (v : Int) (k : Nat) (hk : k ≤ 8) (h : List Int) (hl : h.length + k ≤ 100000) : tzif_writer_number_f n v (k : Int) h = some (h ++ be k v) := by
  unfold tzif_writer_number_f tzif_writer_number_b
  rw [wi _ (by omega) (by omega), number_l0 n v k n h hk (by omega) hl]
  rfl
/-- A head with these counts. -/
def headS (cs : List Int) : List Int := [84, 90, 105, 102, 50] ++ List.replicate 15 0 ++ cs.flatMap (be 4)
theorem be4s_len : ∀ (k : Nat) (cs : List Int), (cs.flatMap (be k)).length = k * cs.length
  | k, [] => by simp
  | k, c :: cs => by simp only [List.flatMap_cons, List.length_append, be_len, be4s_len k cs, List.length_cons]; rw [Nat.mul_add]; omega
theorem head_l0 (n : Nat) (hn : 9 ≤ n) (cs : List Int) (hcs : cs.length ≤ 6) (a0 a1 a2 a3 a4 a5 a6 : Int) : ∀ (r : List Int) (i m : Nat) (h : List Int), cs.drop i = r → r.length < m → h.length + 4 * r.length ≤ 100000 →
    tzif_writer_head_l0 n m cs (cs.length : Int) (i : Int) h a0 a1 a2 a3 a4 a5 a6 = some (h ++ r.flatMap (be 4), a0, a1, a2, a3, a4, a5, a6)
  | [], i, m + 1, h, hd, _, _ => by
    have hi := drop_nil hd
    simp only [tzif_writer_head_l0, tzif_writer_head_l0_b]
    rw [cond_neg (by omega)]
    simp
  | c :: r, i, m + 1, h, hd, hm, hl => by
    obtain ⟨k1, k2, k3⟩ := drop_cons hd
    simp only [List.length_cons] at hm hl
    have e4 : tzif_writer_number_f n c 4 h = some (h ++ be 4 c) := number_val n hn c 4 (by omega) h (by omega)
    simp only [tzif_writer_head_l0, tzif_writer_head_l0_b]
    rw [cond_pos (by omega), cond_pos (by omega), Int.toNat_natCast, k1, wrap1 _ (by omega)]
    simp only [Option.bind_some, e4]
    rw [head_l0 n hn cs hcs a0 a1 a2 a3 a4 a5 a6 r (i + 1) m _ k2 (by omega) (by rw [List.length_append, be_len]; omega)]
    simp
theorem headS_len (cs : List Int) : (headS cs).length = 20 + 4 * cs.length := by
  simp only [headS, List.length_append, be4s_len, List.length_replicate, List.length_cons, List.length_nil]
theorem head_val (n : Nat) (hn : 9 ≤ n) (a0 a1 a2 a3 a4 a5 a6 : Int) (h : List Int) (hl : h.length ≤ 90000) : tzif_writer_head_f n a0 a1 a2 a3 a4 a5 a6 h = some (h ++ headS [a1, a2, a3, a4, a5, a6]) := by
  unfold tzif_writer_head_f tzif_writer_head_b
  have e0 : intsOf ([84, 90, 105, 102] : Str) = [84, 90, 105, 102] := rfl
  have c1 : (decide (0 < ([84, 90, 105, 102] : Str).length) && decide (h.length + ([84, 90, 105, 102] : Str).length ≤ 140737488355328)) = true := by
    rw [Bool.and_eq_true, decide_eq_true_eq, decide_eq_true_eq]; simp; omega
  have c3 : (decide (0 < (List.replicate 15 (0 : Nat)).length) && decide (((h ++ intsOf ([84, 90, 105, 102] : Str)) ++ [(50 : Int)]).length + (List.replicate 15 (0 : Nat)).length ≤ 140737488355328)) = true := by
    rw [Bool.and_eq_true, decide_eq_true_eq, decide_eq_true_eq]; simp [e0]; omega
  rw [c1, cond_true, cond_pos (by simp [e0]; omega), c3, cond_true]
  have e := head_l0 n hn [a1, a2, a3, a4, a5, a6] (by simp) a0 a1 a2 a3 a4 a5 a6 [a1, a2, a3, a4, a5, a6] 0 n (((h ++ intsOf ([84, 90, 105, 102] : Str)) ++ [(50 : Int)]) ++ (List.replicate 15 0)) rfl (by simp; omega) (by simp [e0]; omega)
  simp only [Int.natCast_zero] at e
  rw [e]
  simp [headS, e0]
/-- The letters of the types. -/
def lettersS (ts : List Ty) : List Int := ts.flatMap fun t => intsOf t.2.2 ++ [0]
theorem letters_len : ∀ (ts : List Ty), (lettersS ts).length = sumL ts
  | [] => rfl
  | t :: r => by
    have := letters_len r
    simp only [lettersS] at this
    simp only [lettersS, List.flatMap_cons, List.length_append, intsOf_length, this, sumL, List.length_cons, List.length_nil]
/-- Where the letters of each begin. -/
def offs : Nat → List Ty → List Int
  | _, [] => []
  | o, t :: r => (o : Int) :: offs (o + (t.2.2.length + 1)) r
theorem offs_len : ∀ (o : Nat) (ts : List Ty), (offs o ts).length = ts.length
  | _, [] => rfl
  | o, t :: r => by simp [offs, offs_len _ r]
theorem put_l3 (n : Nat) (ts : List Ty) (hts : ts.length ≤ 255) (h0 : List (List AV)) (h1 h2 : List Int) (h3 : Str) : ∀ (r : List Ty) (i m : Nat) (x4 x5 : List Int), ts.drop i = r → r.length < m → x4.length + sumL r ≤ 100000 → x5.length + r.length ≤ 100000 →
    tzif_Put_l3 n m x4 x5 (ts.map cT) (ts.length : Int) (i : Int) h0 h1 h2 h3 = some (x4 ++ lettersS r, x5 ++ offs x4.length r, h0, h1, h2, h3)
  | [], i, m + 1, x4, x5, hd, _, _, _ => by
    have hi := drop_nil hd
    simp only [tzif_Put_l3, tzif_Put_l3_b]
    rw [cond_neg (by omega)]
    simp [lettersS, offs]
  | t :: r, i, m + 1, x4, x5, hd, hm, hl, hl5 => by
    obtain ⟨k1, k2, k3⟩ := drop_cons hd
    simp only [List.length_cons, sumL] at hm hl hl5
    simp only [tzif_Put_l3, tzif_Put_l3_b]
    rw [cond_pos (by omega), cond_pos (by omega), Int.toNat_natCast, List.getElem?_map, k1, wrap1 _ (by omega)]
    simp only [Option.map_some, Option.bind_some, cT, unc, getI, getB, getT, unn, decide_true, cond_true]
    rw [cond_pos (by simp; omega), cond_pos (by omega), cond_pos (by simp [intsOf_length]; omega)]
    rw [put_l3 n ts hts h0 h1 h2 h3 r (i + 1) m _ _ k2 (by omega) (by simp [intsOf_length]; omega) (by simp; omega)]
    simp [lettersS, offs, intsOf_length]
theorem put_l2 (n : Nat) (hn : 9 ≤ n) (ti : List Int) (hti : ti.length ≤ 4000) (h0 : List (List AV)) (h1 h2 : List Int) (h3 : Str) (g : List Int) (a0 a1 a2 a3 a4 a5 a6 : Int) : ∀ (r : List Int) (i m : Nat) (h : List Int), ti.drop i = r → r.length < m → h.length + 8 * r.length ≤ 90000 →
    tzif_Put_l2 n m ti (ti.length : Int) (i : Int) h0 h1 h2 h3 g h a0 a1 a2 a3 a4 a5 a6 = some (h0, h1, h2, h3, g, h ++ r.flatMap (be 8), a0, a1, a2, a3, a4, a5, a6)
  | [], i, m + 1, h, hd, _, _ => by
    have hi := drop_nil hd
    simp only [tzif_Put_l2, tzif_Put_l2_b]
    rw [cond_neg (by omega)]
    simp
  | c :: r, i, m + 1, h, hd, hm, hl => by
    obtain ⟨k1, k2, k3⟩ := drop_cons hd
    simp only [List.length_cons] at hm hl
    have e4 : tzif_writer_number_f n c 8 h = some (h ++ be 8 c) := number_val n hn c 8 (by omega) h (by omega)
    simp only [tzif_Put_l2, tzif_Put_l2_b]
    rw [cond_pos (by omega), cond_pos (by omega), Int.toNat_natCast, k1, wrap1 _ (by omega)]
    simp only [Option.bind_some, e4]
    rw [put_l2 n hn ti hti h0 h1 h2 h3 g a0 a1 a2 a3 a4 a5 a6 r (i + 1) m _ k2 (by omega) (by rw [List.length_append, be_len]; omega)]
    simp
theorem put_l1 (n : Nat) (hn : 9 ≤ n) (ti : List Int) (hti : ti.length ≤ 4000) (h0 : List (List AV)) (h1 h2 : List Int) (h3 : Str) (g : List Int) (a0 a1 a2 a3 a4 a5 a6 : Int) : ∀ (r : List Int) (i m : Nat) (h : List Int), ti.drop i = r → r.length < m → h.length + r.length ≤ 90000 →
    tzif_Put_l1 n m ti (ti.length : Int) (i : Int) h0 h1 h2 h3 g h a0 a1 a2 a3 a4 a5 a6 = some (h0, h1, h2, h3, g, h ++ r.flatMap (be 1), a0, a1, a2, a3, a4, a5, a6)
  | [], i, m + 1, h, hd, _, _ => by
    have hi := drop_nil hd
    simp only [tzif_Put_l1, tzif_Put_l1_b]
    rw [cond_neg (by omega)]
    simp
  | c :: r, i, m + 1, h, hd, hm, hl => by
    obtain ⟨k1, k2, k3⟩ := drop_cons hd
    simp only [List.length_cons] at hm hl
    have e4 : tzif_writer_number_f n c 1 h = some (h ++ be 1 c) := number_val n hn c 1 (by omega) h (by omega)
    simp only [tzif_Put_l1, tzif_Put_l1_b]
    rw [cond_pos (by omega), cond_pos (by omega), Int.toNat_natCast, k1, wrap1 _ (by omega)]
    simp only [Option.bind_some, e4]
    rw [put_l1 n hn ti hti h0 h1 h2 h3 g a0 a1 a2 a3 a4 a5 a6 r (i + 1) m _ k2 (by omega) (by rw [List.length_append, be_len]; omega)]
    simp
/-- The types' row: how far they are ahead, summer's, where their letters begin. -/
def typesS : Nat → List Ty → List Int
  | _, [] => []
  | o, t :: r => be 4 t.1 ++ be 1 (if t.2.1 then 1 else 0) ++ be 1 (o : Int) ++ typesS (o + (t.2.2.length + 1)) r
theorem types_len : ∀ (o : Nat) (ts : List Ty), (typesS o ts).length = 6 * ts.length
  | _, [] => rfl
  | o, t :: r => by simp only [typesS, List.length_append, be_len, types_len _ r, List.length_cons]; omega
theorem put_l0 (n : Nat) (hn : 9 ≤ n) (ts : List Ty) (hts : ts.length ≤ 255) (x4 x5 : List Int) (hx5 : x5.length = ts.length) (h0 : List (List AV)) (h1 h2 : List Int) (h3 : Str) : ∀ (r : List Ty) (i m o : Nat) (h : List Int), ts.drop i = r → x5.drop i = offs o r → r.length < m → h.length + 6 * r.length ≤ 90000 →
    tzif_Put_l0 n m x4 x5 (ts.map cT) (ts.length : Int) (i : Int) h0 h1 h2 h3 h = some (h0, h1, h2, h3, h ++ typesS o r)
  | [], i, m + 1, o, h, hd, _, _, _ => by
    have hi := drop_nil hd
    simp only [tzif_Put_l0, tzif_Put_l0_b]
    rw [cond_neg (by omega)]
    simp [typesS]
  | t :: r, i, m + 1, o, h, hd, hd5, hm, hl => by
    obtain ⟨k1, k2, k3⟩ := drop_cons hd
    obtain ⟨j1, j2, j3⟩ := drop_cons hd5
    simp only [List.length_cons] at hm hl
    have e4 : tzif_writer_number_f n t.1 4 h = some (h ++ be 4 t.1) := number_val n hn _ 4 (by omega) h (by omega)
    have e1 : ∀ (v : Int) (h' : List Int), h'.length ≤ 99999 → tzif_writer_number_f n v 1 h' = some (h' ++ be 1 v) := fun v h' hh => number_val n hn v 1 (by omega) h' (by omega)
    simp only [tzif_Put_l0, tzif_Put_l0_b]
    rw [cond_pos (by omega), cond_pos (by omega), Int.toNat_natCast, List.getElem?_map, k1, wrap1 _ (by omega)]
    simp only [Option.map_some, Option.bind_some, cT, unc, getI, getB, getT, unn, decide_true, cond_true, e4]
    have ej : tzif_Put_j0 n 0 h0 h1 h2 h3 (h ++ be 4 t.1) t.1 t.2.1 t.2.2 = some ((if t.2.1 then 1 else 0), h0, h1, h2, h3, h ++ be 4 t.1, t.1, t.2.1, t.2.2) := by
      unfold tzif_Put_j0 tzif_Put_j0_b
      cases t.2.1 <;> rfl
    simp only [ej, Option.bind_some, j1]
    rw [e1 _ _ (by simp [be_len]; omega)]
    simp only [Option.bind_some]
    rw [cond_pos (by omega)]
    rw [e1 _ _ (by simp [be_len]; omega)]
    simp only [Option.bind_some]
    rw [put_l0 n hn ts hts x4 x5 hx5 h0 h1 h2 h3 r (i + 1) m (o + (t.2.2.length + 1)) _ k2 j2 (by omega) (by simp [be_len]; omega)]
    simp [typesS]
/-- The second block, without what stands behind it. -/
def bodyS (ts : List Ty) (ti ix : List Int) : List Int := ti.flatMap (be 8) ++ (ix.flatMap (be 1) ++ (typesS 0 ts ++ lettersS ts))
def putS (ts : List Ty) (ti ix : List Int) (foot : Str) : List Int :=
  headS [0, 0, 0, 0, 1, 1] ++ (List.replicate 7 0 ++ (headS [0, 0, 0, (ti.length : Int), (ts.length : Int), ((lettersS ts).length : Int)] ++ (bodyS ts ti ix ++ (10 :: (intsOf foot ++ [10])))))
theorem put_val (n : Nat) (hn : 4001 ≤ n) (ts : List Ty) (ti ix : List Int) (foot : Str) : tzif_Put_f n (ts.map cT) ti ix foot = some (if RightS ts ti ix foot then (putS ts ti ix foot, 0) else ([], 2)) := by
  unfold tzif_Put_f tzif_Put_b
  rw [right_val n hn]
  simp only [Option.bind_some]
  cases hR : RightS ts ti ix foot with
  | false => rfl
  | true =>
    obtain ⟨h1, h2, h3, h4, h5, h6, h7, h8⟩ := right_parts hR
    have hf : foot.length ≤ 100 := by
      simp only [textS, Bool.and_eq_true, decide_eq_true_eq] at h5
      omega
    have e3 := put_l3 n ts h2 (ts.map cT) ti ix foot ts 0 n [] [] (by simp) (by omega) (by simp; omega) (by simp; omega)
    simp only [Int.natCast_zero, List.nil_append, List.length_nil] at e3
    have hll := letters_len ts
    have hs : 1 ≤ sumL ts := by
      cases ts with
      | nil => simp at h1
      | cons t r => simp only [sumL]; omega
    simp only [Bool.not_true, cond_false, List.length_map, e3, Option.bind_some, if_true]
    rw [head_val n (by omega) 0 0 0 0 0 1 1 [] (by simp)]
    have el : tzif_head_long_f n 0 0 0 0 0 1 1 4 = some 7 := by unfold tzif_head_long_f tzif_head_long_b; rfl
    simp only [Option.bind_some, el, List.nil_append]
    have l1 : (headS [0, 0, 0, 0, 1, 1]).length = 44 := by rw [headS_len]; rfl
    rw [cond_pos (by omega), cond_pos (by omega), show ((7 : Int).toNat) = 7 from rfl, show (decide (0 < (List.replicate 7 (0 : Nat)).length) && decide ((headS [0, 0, 0, 0, 1, 1]).length + (List.replicate 7 (0 : Nat)).length ≤ 140737488355328)) = true by rw [l1]; rfl, cond_true]
    rw [head_val n (by omega) 0 0 0 0 _ _ _ _ (by simp only [List.length_append, List.length_replicate, l1]; omega)]
    simp only [Option.bind_some]
    have l2 : (headS [0, 0, 0, (ti.length : Int), (ts.length : Int), ((lettersS ts).length : Int)]).length = 44 := by rw [headS_len]; rfl
    have e2 := put_l2 n (by omega) ti h3 (ts.map cT) ti ix foot [] 0 0 0 0 0 1 1 ti 0 n (headS [0, 0, 0, 0, 1, 1] ++ List.replicate 7 0 ++ headS [0, 0, 0, (ti.length : Int), (ts.length : Int), ((lettersS ts).length : Int)]) (by simp) (by omega) (by simp only [List.length_append, List.length_replicate, List.length_cons, List.length_nil, l1, l2]; omega)
    simp only [Int.natCast_zero] at e2
    simp only [e2, Option.bind_some]
    have e1 := put_l1 n (by omega) ix (by omega) (ts.map cT) ti ix foot [] 0 0 0 0 0 1 1 ix 0 n (headS [0, 0, 0, 0, 1, 1] ++ List.replicate 7 0 ++ headS [0, 0, 0, (ti.length : Int), (ts.length : Int), ((lettersS ts).length : Int)] ++ ti.flatMap (be 8)) (by simp) (by omega) (by simp only [List.length_append, List.length_replicate, List.length_cons, List.length_nil, l1, l2, be4s_len]; omega)
    simp only [Int.natCast_zero] at e1
    simp only [e1, Option.bind_some, List.length_map]
    have e0 := put_l0 n (by omega) ts h2 (lettersS ts) (offs 0 ts) (offs_len 0 ts) (ts.map cT) ti ix foot ts 0 n 0 (headS [0, 0, 0, 0, 1, 1] ++ List.replicate 7 0 ++ headS [0, 0, 0, (ti.length : Int), (ts.length : Int), ((lettersS ts).length : Int)] ++ ti.flatMap (be 8) ++ ix.flatMap (be 1)) (by simp) (by simp) (by omega) (by simp only [List.length_append, List.length_replicate, List.length_cons, List.length_nil, l1, l2, be4s_len]; omega)
    simp only [Int.natCast_zero] at e0
    simp only [e0, Option.bind_some]
    have lA : (headS [0, 0, 0, 0, 1, 1] ++ List.replicate 7 (0 : Int) ++ headS [0, 0, 0, (ti.length : Int), (ts.length : Int), ((lettersS ts).length : Int)] ++ ti.flatMap (be 8) ++ ix.flatMap (be 1) ++ typesS 0 ts).length ≤ 90000 := by
      simp only [List.length_append, l1, l2, be4s_len, types_len, List.length_replicate]; omega
    have hA : putS ts ti ix foot = (headS [0, 0, 0, 0, 1, 1] ++ List.replicate 7 (0 : Int) ++ headS [0, 0, 0, (ti.length : Int), (ts.length : Int), ((lettersS ts).length : Int)] ++ ti.flatMap (be 8) ++ ix.flatMap (be 1) ++ typesS 0 ts) ++ lettersS ts ++ intsOf (([10] ++ foot) ++ [10]) := by
      simp [putS, bodyS, intsOf_append, intsOf]
    rw [hA]
    generalize headS [0, 0, 0, 0, 1, 1] ++ List.replicate 7 (0 : Int) ++ headS [0, 0, 0, (ti.length : Int), (ts.length : Int), ((lettersS ts).length : Int)] ++ ti.flatMap (be 8) ++ ix.flatMap (be 1) ++ typesS 0 ts = A at lA ⊢
    have c1 : (decide (0 < (lettersS ts).length) && decide (A.length + (lettersS ts).length ≤ 140737488355328)) = true := by
      rw [Bool.and_eq_true, decide_eq_true_eq, decide_eq_true_eq]; omega
    have c4 : (decide (0 < ((([10] : Str) ++ foot) ++ ([10] : Str)).length) && decide ((A ++ lettersS ts).length + ((([10] : Str) ++ foot) ++ ([10] : Str)).length ≤ 140737488355328)) = true := by
      rw [Bool.and_eq_true, decide_eq_true_eq, decide_eq_true_eq]
      simp only [List.length_append, List.length_singleton]; omega
    rw [c1, cond_true, cond_pos (by simp only [List.length_singleton]; omega), cond_pos (by simp only [List.length_append, List.length_singleton]; omega), c4, cond_true]
end Go.Proofs.YtcbgfjghebopoaaDoor.H

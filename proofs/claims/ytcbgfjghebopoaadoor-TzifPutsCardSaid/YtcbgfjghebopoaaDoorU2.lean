/- Chapter 06: which type holds (the program's way). -/
import Derived.Test.YtcbgfjghebopoaaDoorU1
import Derived.Test.YtcbgfjghebopoaaDoorSY
namespace Go.Proofs.YtcbgfjghebopoaaDoor.H
open Go.Sh Go.RowKit
set_option linter.unusedSimpArgs false
set_option linter.unusedVariables false

/-- How many of the times have come. -/
def come (ti : List Int) (sec : Int) : Nat := ti.countP fun x => decide (x ≤ sec)
theorem mid_val (i j : Nat) (hj : i + j ≤ 8000) : IntKind.i64.wrap (Int.fdiv (IntKind.u64.wrap (IntKind.i64.wrap ((i : Int) + (j : Int)))) (2 ^ 1)) = (((i + j) / 2 : Nat) : Int) := by
  rw [wi ((i : Int) + (j : Int)) (by omega) (by omega), IntWalk.u64_in _ (by omega), show ((2 : Int) ^ 1) = 2 from rfl, Int.fdiv_eq_ediv_of_nonneg _ (by omega), wi _ (by omega) (by omega)]
  omega
theorem search_loop (n : Nat) (h0 : List (List AV)) (ti ix : List Int) (h3 : Str) (sec : Int) (hb : ti.length ≤ 4000) : ∀ (d i j m : Nat), j - i ≤ d → i ≤ j → j ≤ ti.length → d < m → (0 < i → ti.getD (i - 1) 0 ≤ sec) → (j < ti.length → sec < ti.getD j 0) →
    ∃ k : Nat, sort_Search_l0 n m (i : Int) (j : Int) h0 ti ix h3 sec = some ((k : Int), h0, ti, ix, h3, sec) ∧ k ≤ ti.length ∧ (0 < k → ti.getD (k - 1) 0 ≤ sec) ∧ (k < ti.length → sec < ti.getD k 0)
  | d, i, j, 0, _, _, _, hm, _, _ => absurd hm (by omega)
  | 0, i, j, m + 1, hd, hij, hj, hm, h1, h2 => by
    refine ⟨i, ?_, by omega, h1, (show j = i by omega) ▸ h2⟩
    simp only [sort_Search_l0, sort_Search_l0_b]
    rw [cond_neg (by omega)]
  | d + 1, i, j, m + 1, hd, hij, hj, hm, h1, h2 => by
    by_cases hlt : i < j
    · have hh : (i + j) / 2 < ti.length := by omega
      simp only [sort_Search_l0, sort_Search_l0_b]
      rw [cond_pos (by omega), mid_val i j (by omega)]
      simp only [tzif_At_1_f, tzif_At_1_b]
      rw [cond_pos (by omega), Int.toNat_natCast, get_of hh]
      simp only [Option.bind_some]
      by_cases hc : ti.getD ((i + j) / 2) 0 > sec
      · rw [decide_eq_true hc]
        simp only [Bool.not_true, cond_false]
        exact search_loop n h0 ti ix h3 sec hb d i ((i + j) / 2) m (by omega) (by omega) (by omega) (by omega) h1 (fun _ => hc)
      · rw [decide_eq_false hc]
        simp only [Bool.not_false, cond_true]
        rw [wrap1 _ (by omega)]
        exact search_loop n h0 ti ix h3 sec hb d ((i + j) / 2 + 1) j m (by omega) (by omega) (by omega) (by omega) (fun _ => by simp only [Nat.add_sub_cancel]; omega) h2
    · refine ⟨i, ?_, by omega, h1, (show j = i by omega) ▸ h2⟩
      simp only [sort_Search_l0, sort_Search_l0_b]
      rw [cond_neg (by omega)]
theorem mono_of {ti ix : List Int} {len : Nat} (hl : ti.length = ix.length) (h : (List.range' 0 ix.length).all (okAt ti ix len) = true) : ∀ (b a : Nat), a < b → b < ti.length → ti.getD a 0 < ti.getD b 0
  | 0, a, h1, _ => absurd h1 (by omega)
  | b + 1, a, h1, h2 => by
    have h3 := List.all_eq_true.1 h (b + 1) (by rw [List.mem_range'_1]; omega)
    simp only [okAt, Bool.and_eq_true, Bool.or_eq_true, decide_eq_true_eq, beq_iff_eq] at h3
    have h4 : ti.getD b 0 < ti.getD (b + 1) 0 := by
      rcases h3.2 with h | h
      · omega
      · simpa using h
    rcases Nat.lt_or_ge a b with h5 | h5
    · have := mono_of hl h b a h5 (by omega)
      omega
    · have : a = b := by omega
      subst this; exact h4
theorem come_eq {ti : List Int} {sec : Int} {k : Nat} (hm : ∀ (b a : Nat), a < b → b < ti.length → ti.getD a 0 < ti.getD b 0) (hk : k ≤ ti.length) (h1 : 0 < k → ti.getD (k - 1) 0 ≤ sec) (h2 : k < ti.length → sec < ti.getD k 0) : come ti sec = k := by
  have e : come ti sec = (ti.take k).countP (fun x => decide (x ≤ sec)) + (ti.drop k).countP (fun x => decide (x ≤ sec)) := by
    unfold come
    conv => lhs; rw [← List.take_append_drop k ti]
    rw [List.countP_append]
  have e1 : (ti.take k).countP (fun x => decide (x ≤ sec)) = (ti.take k).length := by
    rw [List.countP_eq_length]
    intro x hx
    obtain ⟨i, hi, rfl⟩ := List.mem_iff_getElem.1 hx
    rw [List.length_take] at hi
    rw [List.getElem_take]
    have h3 : ti[i] = ti.getD i 0 := by rw [List.getD_eq_getElem?_getD, List.getElem?_eq_getElem (by omega)]; rfl
    rw [h3, decide_eq_true_eq]
    have h4 := h1 (by omega)
    rcases Nat.lt_or_ge i (k - 1) with h5 | h5
    · have := hm (k - 1) i h5 (by omega)
      omega
    · have : i = k - 1 := by omega
      subst this; exact h4
  have e2 : (ti.drop k).countP (fun x => decide (x ≤ sec)) = 0 := by
    rw [List.countP_eq_zero]
    intro x hx
    obtain ⟨i, hi, rfl⟩ := List.mem_iff_getElem.1 hx
    rw [List.length_drop] at hi
    rw [List.getElem_drop]
    have h3 : ti[k + i] = ti.getD (k + i) 0 := by rw [List.getD_eq_getElem?_getD, List.getElem?_eq_getElem (by omega)]; rfl
    rw [h3, decide_eq_true_eq]
    have h4 := h2 (by omega)
    rcases Nat.eq_zero_or_pos i with h5 | h5
    · subst h5; simp only [Nat.add_zero]; omega
    · have := hm (k + i) k (by omega) (by omega)
      omega
  rw [e, e1, e2, List.length_take]
  omega
/-- The first type that is no summer's. -/
def stdS (ts : List Ty) : Int := match ts.findIdx? fun t => !t.2.1 with
  | some j => j
  | none => 0
theorem type_l0 (n : Nat) (ts : List Ty) (hts : ts.length ≤ 255) : ∀ (r : List Ty) (i m : Nat), ts.drop i = r → r.length < m →
    tzif_Type_l0 n m (ts.map cT) (ts.length : Int) (i : Int) = some (match r.findIdx? fun t => !t.2.1 with | some j => Sum.inl ((i + j : Nat) : Int) | none => Sum.inr ())
  | [], i, m + 1, h, _ => by
    have hi := drop_nil h
    simp only [tzif_Type_l0, tzif_Type_l0_b]
    rw [cond_neg (by omega)]
    simp
  | t :: r, i, m + 1, h, hm => by
    obtain ⟨k1, k2, k3⟩ := drop_cons h
    simp only [tzif_Type_l0, tzif_Type_l0_b]
    rw [cond_pos (by omega), cond_pos (by omega), Int.toNat_natCast, List.getElem?_map, k1, wrap1 _ (by omega)]
    simp only [Option.map_some, Option.bind_some, cT, unc, getI, getB, getT, unn, tzif_At_2_f, tzif_At_2_b, List.findIdx?_cons]
    cases hd : t.2.1 with
    | false => simp
    | true =>
      simp only [Bool.not_true, cond_false, decide_true, cond_true, Bool.false_eq_true, if_false]
      rw [type_l0 n ts hts r (i + 1) m k2 (by simpa using hm)]
      cases r.findIdx? (fun t => !t.2.1) with
      | none => rfl
      | some j => simp only [Option.map_some]; congr 2; omega
def AtS (ts : List Ty) (ti ix : List Int) (foot : Str) (sec : Int) : Int :=
  if RightS ts ti ix foot then (if 0 < come ti sec then ix.getD (come ti sec - 1) 0 else stdS ts) else 0
theorem right_parts {ts : List Ty} {ti ix : List Int} {foot : Str} (h : RightS ts ti ix foot = true) : 1 ≤ ts.length ∧ ts.length ≤ 255 ∧ ti.length ≤ 4000 ∧ ti.length = ix.length ∧ textS foot 100 32 = true ∧ ts.all okT = true ∧ (List.range' 0 ix.length).all (okAt ti ix ts.length) = true ∧ sumL ts ≤ 256 := by
  simp only [RightS, Bool.and_eq_true, decide_eq_true_eq] at h
  obtain ⟨⟨⟨⟨⟨⟨⟨h1, h2⟩, h3⟩, h4⟩, h5⟩, h6⟩, h7⟩, h8⟩ := h
  exact ⟨h1, h2, h3, h4, h5, h6, h7, h8⟩
theorem come_le (ti : List Int) (sec : Int) : come ti sec ≤ ti.length := List.countP_le_length
theorem at_val (n : Nat) (hn : 4001 ≤ n) (ts : List Ty) (ti ix : List Int) (foot : Str) (sec : Int) : tzif_At_f n (ts.map cT) ti ix foot sec = some (AtS ts ti ix foot sec) := by
  unfold tzif_At_f tzif_At_b AtS
  rw [right_val n hn]
  simp only [Option.bind_some]
  cases hR : RightS ts ti ix foot with
  | false => rfl
  | true =>
    obtain ⟨h1, h2, h3, h4, h5, h6, h7, h8⟩ := right_parts hR
    obtain ⟨k, e1, e2, e3, e4⟩ := search_loop n (ts.map cT) ti ix foot sec h3 ti.length 0 ti.length n (by omega) (by omega) (by omega) (by omega) (fun h => absurd h (by omega)) (fun h => absurd h (by omega))
    have hk := come_eq (mono_of h4 h7) e2 e3 e4
    simp only [Int.natCast_zero] at e1
    simp only [Bool.not_true, cond_false, sort_Search_f, sort_Search_b, e1, Option.bind_some, if_true, hk]
    by_cases hp : 0 < k
    · rw [cond_pos (by omega), wi _ (by omega) (by omega), cond_pos (by omega), if_pos hp, show ((k : Int) - 1).toNat = k - 1 by omega, get_of (show k - 1 < ix.length by omega)]
      rfl
    · rw [cond_neg (by omega), if_neg hp]
      have e5 := type_l0 n ts h2 ts 0 n (by simp) (by omega)
      simp only [Int.natCast_zero] at e5
      simp only [tzif_Type_f, tzif_Type_b, List.length_map, e5, Option.bind_some, stdS]
      cases ts.findIdx? (fun t => !t.2.1) with
      | none => rfl
      | some j =>
        simp only [Sum.elim_inl, Option.bind_some, Nat.zero_add]
        congr 1
        split <;> omega
/-- The rows of types that a law is handed. -/
theorem open_types : ∀ {els : List (List AV)}, (∀ e ∈ els, LD.sats [.int .i64, .bool, .str] e) → ∃ ts : List Ty, els = ts.map cT ∧ ∀ t ∈ ts, -9223372036854775808 ≤ t.1 ∧ t.1 ≤ 9223372036854775807 ∧ t.2.2.length ≤ 9223372036854775807
  | [], _ => ⟨[], rfl, by simp⟩
  | e :: els, h => by
    obtain ⟨ts, rfl, h1⟩ := open_types (els := els) fun e he => h e (by simp [he])
    have h2 := h e (by simp)
    simp only [LD.sats, LD.sat] at h2
    obtain ⟨a, l1, rfl, ⟨n, rfl, hn⟩, b, l2, rfl, ⟨d, rfl⟩, c, l3, rfl, ⟨s, rfl, hs⟩, rfl⟩ := h2
    refine ⟨(n, d, s) :: ts, rfl, fun t ht => ?_⟩
    rcases List.mem_cons.1 ht with rfl | ht
    · have := wf_i64 hn
      exact ⟨this.1, this.2, hs⟩
    · exact h1 t ht
end Go.Proofs.YtcbgfjghebopoaaDoor.H

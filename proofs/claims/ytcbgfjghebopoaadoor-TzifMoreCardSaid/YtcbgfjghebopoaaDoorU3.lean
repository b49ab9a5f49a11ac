/- Chapter 06: TzifMore. -/
import Derived.Test.YtcbgfjghebopoaaDoorU2
import Derived.Test.YtcbgfjghebopoaaDoorT0
import Derived.KernelRfl
namespace Go.Proofs.YtcbgfjghebopoaaDoor.H
open Go.Sh Go.RowKit
set_option linter.unusedSimpArgs false
set_option linter.unusedVariables false

def fewS (ts : List Ty) (ti ix : List Int) (foot : Str) (n : Nat) : Bool := decide (ts.length ≤ 300) && decide (ti.length ≤ n) && decide (ix.length ≤ n) && decide (foot.length ≤ 200)
theorem few_val (n : Nat) (ts : List Ty) (ti ix : List Int) (foot : Str) (m : Nat) : clepsydralaw06_few_f n (ts.map cT) ti ix foot (m : Int) = some (fewS ts ti ix foot m) := by
  unfold clepsydralaw06_few_f clepsydralaw06_few_b fewS
  rw [List.length_map]
  by_cases c1 : ts.length ≤ 300
  · rw [cond_pos (by omega)]
    by_cases c2 : ti.length ≤ m
    · rw [cond_pos (by omega)]
      by_cases c3 : ix.length ≤ m
      · rw [cond_pos (by omega), decide_eq_true c1, decide_eq_true c2, decide_eq_true c3]
        simp only [Bool.true_and]
        congr 1
        rw [decide_eq_decide]; omega
      · rw [cond_neg (by omega)]; simp [c3]
    · rw [cond_neg (by omega)]; simp [c2]
  · rw [cond_neg (by omega)]; simp [c1]
theorem works_val (m : Nat) : clepsydralaw06_works_f (m + 5000) = some true := by kernel_rfl

theorem gd_l {l m : List Int} {i : Nat} (h : i < l.length) : (l ++ m).getD i 0 = l.getD i 0 := by rw [List.getD_eq_getElem?_getD, List.getD_eq_getElem?_getD, List.getElem?_append_left h]
theorem gd_r {l m : List Int} {i : Nat} (h : l.length ≤ i) : (l ++ m).getD i 0 = m.getD (i - l.length) 0 := by rw [List.getD_eq_getElem?_getD, List.getD_eq_getElem?_getD, List.getElem?_append_right h]
theorem more_right {ts : List Ty} {ti ix : List Int} {foot : Str} {at_ idx : Int} (h : RightS ts ti ix foot = true) (hl : ti.length < 499) (h0 : 0 ≤ idx) (h1 : idx < ts.length) (ha : 0 < ti.length → ti.getD (ti.length - 1) 0 < at_) : RightS ts (ti ++ [at_]) (ix ++ [idx]) foot = true := by
  obtain ⟨k1, k2, k3, k4, k5, k6, k7, k8⟩ := right_parts h
  simp only [RightS, Bool.and_eq_true, decide_eq_true_eq, List.length_append, List.length_singleton]
  refine ⟨⟨⟨⟨⟨⟨⟨k1, k2⟩, by omega⟩, by omega⟩, k5⟩, k6⟩, ?_⟩, k8⟩
  rw [List.all_eq_true]
  intro k hk
  rw [List.mem_range'_1] at hk
  simp only [okAt, Bool.and_eq_true, Bool.or_eq_true, decide_eq_true_eq, beq_iff_eq]
  rcases Nat.lt_or_ge k ix.length with hlt | hge
  · have h3 := List.all_eq_true.1 k7 k (by rw [List.mem_range'_1]; omega)
    simp only [okAt, Bool.and_eq_true, Bool.or_eq_true, decide_eq_true_eq, beq_iff_eq] at h3
    rw [gd_l hlt, gd_l (by omega), gd_l (by omega)]
    exact h3
  · have : k = ix.length := by omega
    subst this
    rw [gd_r (Nat.le_refl _)]
    refine ⟨⟨by simpa using h0, by simpa using h1⟩, ?_⟩
    rcases Nat.eq_zero_or_pos ix.length with e | e
    · exact .inl e
    · right
      rw [gd_l (by omega), gd_r (by omega), ← k4]
      simpa using ha (by omega)
theorem come_snoc (ti : List Int) (a sec : Int) : come (ti ++ [a]) sec = come ti sec + if a ≤ sec then 1 else 0 := by
  unfold come
  rw [List.countP_append]
  by_cases h : a ≤ sec <;> simp [h]
theorem more_at {ts : List Ty} {ti ix : List Int} {foot : Str} {at_ idx sec : Int} (h : RightS ts ti ix foot = true) (hl : ti.length < 499) (h0 : 0 ≤ idx) (h1 : idx < ts.length) (ha : 0 < ti.length → ti.getD (ti.length - 1) 0 < at_) :
    AtS ts (ti ++ [at_]) (ix ++ [idx]) foot sec = if sec ≥ at_ then idx else AtS ts ti ix foot sec := by
  obtain ⟨k1, k2, k3, k4, k5, k6, k7, k8⟩ := right_parts h
  simp only [AtS, more_right h hl h0 h1 ha, h, if_true, come_snoc]
  by_cases hc : at_ ≤ sec
  · rw [if_pos hc, if_pos (by omega), if_pos hc]
    have hall : come ti sec = ti.length := by
      refine come_eq (mono_of k4 k7) (Nat.le_refl _) (fun hp => ?_) (fun h => absurd h (by omega))
      have := ha hp
      omega
    rw [hall, Nat.add_sub_cancel, gd_r (by omega), k4]
    simp
  · rw [if_neg hc, if_neg hc, Nat.add_zero]
    by_cases hp : 0 < come ti sec
    · have := come_le ti sec
      rw [if_pos hp, if_pos hp, gd_l (by omega)]
    · rw [if_neg hp, if_neg hp]
theorem TzifMore_law (ts : List Ty) (ti ix : List Int) (foot : Str) (sec more idx : Int) (hti : ∀ x ∈ ti, -9223372036854775808 ≤ x ∧ x ≤ 9223372036854775807) (hm : 0 ≤ more ∧ more ≤ 4294967295) : clepsydralaw06_TzifMore_f 5000 (ts.map cT) ti ix foot sec more idx = some true := by
  have hw := works_val 0
  rw [Nat.zero_add] at hw
  have hf : clepsydralaw06_few_f 5000 (ts.map cT) ti ix foot 500 = some (fewS ts ti ix foot 500) := few_val 5000 ts ti ix foot 500
  unfold clepsydralaw06_TzifMore_f clepsydralaw06_TzifMore_b clepsydralaw06_TzifMore_j2 clepsydralaw06_TzifMore_j2_b
  rw [hf]
  simp only [Option.bind_some]
  cases c0 : fewS ts ti ix foot 500 with
  | false => simp [hw]
  | true =>
  simp only [Bool.not_true, cond_false, right_val 5000 (by omega), Option.bind_some]
  cases c1 : RightS ts ti ix foot with
  | false => simp [hw]
  | true =>
  simp only [Bool.not_true, cond_false]
  by_cases c2 : (ti.length : Int) ≥ 499
  · rw [cond_pos c2]; simp [hw]
  rw [cond_neg c2]
  by_cases c3 : idx < 0
  · rw [cond_pos c3]; simp [hw]
  rw [cond_neg c3, List.length_map]
  by_cases c4 : idx ≥ (ts.length : Int)
  · rw [decide_eq_true c4]; simp [hw]
  rw [decide_eq_false c4]
  obtain ⟨k1, k2, k3, k4, k5, k6, k7, k8⟩ := right_parts c1
  simp only [Option.bind_some, cond_false, clepsydralaw06_TzifMore_j1, clepsydralaw06_TzifMore_j1_b]
  have hlast : ∃ last : Int, (cond (decide ((ti.length : Int) > (0 : Int))) (cond (decide (0 ≤ (IntKind.i64.wrap ((ti.length : Int) - (1 : Int))))) ((ti[(IntKind.i64.wrap ((ti.length : Int) - (1 : Int))).toNat]?).bind fun e340 => (some (e340, ts.map cT, ti, ix, foot))) none) (some (0, ts.map cT, ti, ix, foot))) = some (last, ts.map cT, ti, ix, foot) ∧ (0 < ti.length → ti.getD (ti.length - 1) 0 = last) ∧ -9223372036854775808 ≤ last ∧ last ≤ 9223372036854775807 := by
    by_cases hp : 0 < ti.length
    · refine ⟨ti.getD (ti.length - 1) 0, ?_, fun _ => rfl, ?_⟩
      · rw [cond_pos (by omega), wi _ (by omega) (by omega), cond_pos (by omega), show ((ti.length : Int) - 1).toNat = ti.length - 1 by omega, get_of (by omega)]
        rfl
      · refine hti _ ?_
        exact List.mem_of_getElem? (get_of (by omega))
    · exact ⟨0, by rw [cond_neg (by omega)], fun h => absurd h hp, by omega, by omega⟩
  obtain ⟨last, e1, e2, e3⟩ := hlast
  rw [e1]
  simp only [Option.bind_some]
  by_cases c5 : last > 4611686018427387904
  · rw [cond_pos c5]; simp [hw]
  rw [cond_neg c5, wi more (by omega) (by omega), wi (last + 1) (by omega) (by omega), wi _ (by omega) (by omega)]
  have ha : 0 < ti.length → ti.getD (ti.length - 1) 0 < last + 1 + more := fun hp => by rw [e2 hp]; omega
  rw [cond_pos (by simp; omega), cond_pos (by simp; omega), cond_pos (by simp; omega), cond_pos (by simp; omega)]
  have hmr := more_right c1 (show ti.length < 499 by omega) (show 0 ≤ idx by omega) (show idx < ts.length by omega) ha
  simp only [List.nil_append, at_val 5000 (by omega), Option.bind_some, clepsydralaw06_TzifMore_j0, clepsydralaw06_TzifMore_j0_b, right_val 5000 (by omega), hmr, cond_true, more_at c1 (show ti.length < 499 by omega) (show 0 ≤ idx by omega) (show idx < ts.length by omega) ha]
  rw [cond_ite]
  by_cases c6 : sec ≥ last + 1 + more
  · rw [if_pos c6, if_pos c6]; simp [hw]
  · rw [if_neg c6, if_neg c6]; simp [hw]
theorem TzifMore_row {els : List (List AV)} {ti ix : List Int} {foot : Str} {sec more idx : Int} (h0 : ∀ e ∈ els, LD.sats [.int .i64, .bool, .str] e) (h1 : ∀ n ∈ ti, (Lit.int .i64 n).wf = true) (h2 : (Lit.int .u32 more).wf = true) : ∃ n, clepsydralaw06_TzifMore_f n els ti ix foot sec more idx = some true := by
  obtain ⟨ts, rfl, _⟩ := open_types h0
  exact ⟨5000, TzifMore_law ts ti ix foot sec more idx (fun x hx => wf_i64 (h1 x hx)) (wf_u32 h2)⟩
end Go.Proofs.YtcbgfjghebopoaaDoor.H

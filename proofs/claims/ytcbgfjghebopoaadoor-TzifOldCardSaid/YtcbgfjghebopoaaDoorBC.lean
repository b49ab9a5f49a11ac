/- bytes.Cut. -/
import Derived.Test.YtcbgfjghebopoaaDoorOB
import Derived.Shelf.Bytes.SlCut
import Derived.Lib.IndexMore
namespace Go.Sh
open Go.RowKit Go.Proofs Go.Shelf
set_option linter.unusedSimpArgs false
set_option linter.unusedVariables false
/-- Around the first place. -/
def cutI (xs ys : List Int) : Int := Lib.index (Lib.bytesOf xs) (Lib.bytesOf ys)
def cutB (xs ys : List Int) : List Int × List Int × Bool := cond (decide (0 ≤ cutI xs ys)) (xs.take (cutI xs ys).toNat, xs.drop ((cutI xs ys).toNat + ys.length), true) (xs, [], false)
def bytesQ (xs : List Int) : Bool := xs.all fun x => decide (0 ≤ x) && decide (x < 256)
theorem bytesQ_ok {xs : List Int} (h : bytesQ xs = true) : ∀ x ∈ xs, 0 ≤ x ∧ x < 256 := fun x hx => by
  have := List.all_eq_true.1 h x hx
  simpa using this
def cutB_f (n : Nat) (a0 a1 : List Int) : Option (List Int × List Int × Bool) := cond (bytesQ a0 && bytesQ a1 && decide (a0.length < 4294967281) && decide (a1.length ≤ 9223372036854775807)) (some (cutB a0 a1)) none
def cutB_sp (n : Nat) : FSpec := fun vs hs R K => match vs with
  | [.ints _ .u8 a0, .ints _ .u8 a1] => (cutB_f n a0 a1).bind fun o => K (.tuple [.ints false .u8 o.1, .ints false .u8 o.2.1, .bool o.2.2]) hs
  | _ => none
theorem Row.bytesIn {g : Gh} {w : World} {own : Bool} {a : Option Addr} {n c : Nat} {xs : List Int} (h : Row g w own a n c 1 (xs.map (Value.int .u8))) (hn : xs.length = n) : Lib.BytesIn w a n xs := fun hp => by
  obtain ⟨⟨b, o, sp⟩, rfl, hr⟩ := h.2.2.2.1 (by simp; omega)
  have := hr.1
  simp only at this
  subst this
  refine ⟨b, o, rfl, fun i hi => ?_⟩
  have h2 := hr.2.2 i (by simp; omega)
  simp only at h2
  rw [h2, List.getElem?_map]
  simp [List.getD, hn, hi]
theorem cutB_sound {P : Program} {f : FuncId} (n0 : Nat) (he : ∀ (args : Array Value) (w : World), (callFunc f args).run P w = .ok (.enter f args) w)
    (hc : ∀ (p1 p2 : Option Addr) (n c1 k c2 : Nat) (xs ys : List Int) (w : World), (∃ bs : Array Obj, Good bs ∧ ∀ b, b < bs.size → w.heap[b]? = bs[b]?) → xs.length = n → ys.length = k → (∀ x ∈ xs, 0 ≤ x ∧ x < 256) → (∀ y ∈ ys, 0 ≤ y ∧ y < 256) → Lib.BytesIn w p1 n xs → Lib.BytesIn w p2 k ys → (p1 = none → c1 = 0) → n ≤ c1 → n < 4294967281 → k ≤ 9223372036854775807 →
      Calls P f #[.slice p1 n c1, .slice p2 k c2] w fun e w' => e = .returned (Lib.cutV p1 n c1 k (Lib.index (Lib.bytesOf xs) (Lib.bytesOf ys))) ∧ ∃ q, w' = w.drewN q) : FSound P f (cutB_sp n0) := by
  refine ⟨he, fun args H R k r h => ?_⟩
  unfold cutB_sp at h
  split at h
  case h_2 => cases h
  rename_i o1 xs o2 ys
  obtain ⟨o, h1, h2⟩ := Option.bind_eq_some_iff.1 h
  unfold cutB_f at h1
  obtain ⟨h3, h4⟩ | ⟨_, h4⟩ := cond_some h1
  case inr => cases h4
  injection h4 with h4
  subst h4
  simp only [Bool.and_eq_true, decide_eq_true_eq] at h3
  obtain ⟨⟨⟨q1, q2⟩, q3⟩, q4⟩ := h3
  refine ⟨_, _, h2, fun F g vs w hvs hcore => ?_⟩
  obtain ⟨v0, _, rfl, hv0, hv⟩ := vrs_cons hvs
  obtain ⟨v1, _, rfl, hv1, hv⟩ := vrs_cons hv
  obtain rfl := vrs_nil hv
  simp only [VR] at hv0 hv1
  obtain ⟨a1, n1, c1, rfl, r1⟩ := hv0
  obtain ⟨a2, n2, c2, rfl, r2⟩ := hv1
  have e1 : xs.length = n1 := by have := r1.1; simp at this; omega
  have e2 : ys.length = n2 := by have := r2.1; simp at this; omega
  obtain ⟨bs, hb1, hb2⟩ := hcore.good
  refine (hc a1 a2 n1 c1 n2 c2 xs ys w ⟨bs, hb1, fun b hb => (hb2 b hb).2⟩ e1 e2 (bytesQ_ok q1) (bytesQ_ok q2) (r1.bytesIn e1) (r2.bytesIn e2) (fun h => (r1.2.2.2.2.2.1 h).2) r1.2.1 (by omega) (by omega)).mono ?_
  rintro e w' ⟨rfl, q, rfl⟩
  obtain ⟨k1, k2, k3⟩ := (hcore.weaken (os' := []) (fun r hr => by cases hr) (fun b => by simp [oc_nil])).below (w' := w.drewN q) ⟨rfl, rfl, rfl, Nat.le_refl _, fun _ _ => rfl⟩
  have hI : Lib.index (Lib.bytesOf xs) (Lib.bytesOf ys) = cutI xs ys := rfl
  rw [hI]
  have fin : ∀ (v : Value), VR g (w.drewN q) (.tuple [.ints false .u8 (cutB xs ys).1, .ints false .u8 (cutB xs ys).2.1, .bool (cutB xs ys).2.2]) v → owns (.tuple [.ints false .u8 (cutB xs ys).1, .ints false .u8 (cutB xs ys).2.1, .bool (cutB xs ys).2.2]) v = [] → ∃ v' g', Ending.returned v = .returned v' ∧ VR g' (w.drewN q) (.tuple [.ints false .u8 (cutB xs ys).1, .ints false .u8 (cutB xs ys).2.1, .bool (cutB xs ys).2.2]) v' ∧ g.obj <+: g'.obj ∧ Core F g' H (owns (.tuple [.ints false .u8 (cutB xs ys).1, .ints false .u8 (cutB xs ys).2.1, .bool (cutB xs ys).2.2]) v') (w.drewN q) ∧ Step F g w g' (w.drewN q) := fun v hv ho =>
    ⟨v, g, rfl, hv, List.prefix_refl _, by rw [ho]; exact k3, k2⟩
  have r1' : Row g (w.drewN q) o1 a1 n1 c1 1 (xs.map (Value.int .u8)) := r1.ext k1
  by_cases h0 : 0 ≤ cutI xs ys
  · have hroom := Lib.index_room (Lib.bytesOf xs) (Lib.bytesOf ys) h0
    have l1 : (Lib.bytesOf xs).length = n1 := by simp [Lib.bytesOf, e1]
    have l2 : (Lib.bytesOf ys).length = n2 := by simp [Lib.bytesOf, e2]
    rw [l1, l2, hI] at hroom
    obtain ⟨i, hi⟩ : ∃ i : Nat, cutI xs ys = i := ⟨_, (Int.toNat_of_nonneg h0).symm⟩
    have hcb : cutB xs ys = (xs.take i, xs.drop (i + ys.length), true) := by unfold cutB; rw [decide_eq_true h0, hi]; rfl
    rw [hcb] at fin ⊢
    unfold Lib.cutV
    rw [if_pos h0, hi, Int.toNat_natCast]
    rw [hi] at hroom
    refine fin _ ?_ ?_
    · simp only [VR]
      refine ⟨_, rfl, ?_⟩
      simp only [VRs, VR]
      refine ⟨_, _, rfl, ⟨a1, i, c1, rfl, ?_⟩, _, _, rfl, ⟨_, _, _, rfl, ?_⟩, _, _, rfl, rfl, rfl⟩
      · have := r1'.cut (a := 0) (b := i) (Nat.zero_le _) (by omega)
        simp only [Nat.zero_mul, List.drop_zero, Nat.mul_one, ← List.map_take] at this
        refine ⟨this.1, by have := r1.2.1; omega, Nat.zero_le _, fun hp => ?_, fun h => (by cases h), fun h => ?_, this.2.2.2.2.2.2⟩
        · obtain ⟨ad, e5, e6⟩ := r1'.2.2.2.1 (by simp at hp ⊢; omega)
          refine ⟨ad, e5, e6.1, ?_, fun j hj => ?_⟩
          · have := e6.2.1; simp at this ⊢; omega
          · rw [e6.2.2 j (by simp at hj ⊢; omega), List.map_take, List.getElem?_take, if_pos (by simp at hj; omega)]
        · have := r1.2.2.2.2.2.1 h; omega
      · have := r1'.cut (a := i + n2) (b := n1) (by omega) (Nat.le_refl _)
        simp only [Nat.mul_one] at this
        rw [List.take_of_length_le (by simp; omega), ← List.map_drop] at this
        rw [e2]
        exact this
    · rfl
  · have hcb : cutB xs ys = (xs, [], false) := by unfold cutB; rw [decide_eq_false h0]; rfl
    rw [hcb] at fin ⊢
    unfold Lib.cutV
    rw [if_neg h0]
    refine fin _ ?_ ?_
    · simp only [VR]
      refine ⟨_, rfl, ?_⟩
      simp only [VRs, VR]
      exact ⟨_, _, rfl, ⟨a1, n1, c1, rfl, r1'.1, r1'.2.1, r1'.2.2.1, r1'.2.2.2.1, fun h => (by cases h), r1'.2.2.2.2.2⟩, _, _, rfl, ⟨_, _, _, rfl, row_nil _ _ _ _⟩, _, _, rfl, rfl, rfl⟩
    · rfl
end Go.Sh

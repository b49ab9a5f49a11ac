/- Chapter 12: the reference's Split. -/
import Derived.Test.YtgcjkimkoppocaaDoorU2
namespace Go.Proofs.YtgcjkimkoppocaaDoor.H
open Go.Sh Go.RowKit
set_option linter.unusedSimpArgs false

theorem rhex_ge (n : Nat) (c : UInt8) : ∃ v : Int, clepsydraref12_hex_f n (c.toNat : Int) = some v ∧ (match hexB c with | some x => v = (x : Int) | none => v = -1) := by
  refine ⟨_, rhex_val n c, ?_⟩
  cases hexB c <;> rfl
theorem hex_sum (x y : Nat) (hx : x < 16) (hy : y < 16) : IntKind.u8.wrap (IntKind.i64.wrap ((IntKind.i64.wrap ((x : Int) * (16 : Int))) + (y : Int))) = ((UInt8.ofNat (x * 16 + y)).toNat : Int) := by
  have h : ((List.range 16).all fun x => (List.range 16).all fun y => decide (IntKind.u8.wrap (IntKind.i64.wrap ((IntKind.i64.wrap ((x : Int) * (16 : Int))) + (y : Int))) = ((UInt8.ofNat (x * 16 + y)).toNat : Int))) = true := by decide +kernel
  exact of_decide_eq_true (List.all_eq_true.1 (List.all_eq_true.1 h x (List.mem_range.2 hx)) y (List.mem_range.2 hy))
theorem rj1 (n : Nat) (c : UInt8) : clepsydraref12_escape_j1 n (c.toNat : Int) = some (c == 92 || c == 34 || c == 39) := by
  have h := byte_all (p := fun x => clepsydraref12_escape_j1 0 (x : Int) = some (UInt8.ofNat x == 92 || UInt8.ofNat x == 34 || UInt8.ofNat x == 39)) (by decide +kernel) c
  rw [UInt8.ofNat_toNat] at h
  exact h
theorem resc_val (n : Nat) (s : Str) (i : Nat) (hi : i ≤ s.length) (hl : s.length < 1000000000000) :
    ∃ o, clepsydraref12_escape_f n s (i : Int) = some o ∧ (match escS (s.drop i) with | some (x, r) => o.1 = (x.toNat : Int) ∧ ∃ c : Nat, o.2 = (c : Int) ∧ 0 < c ∧ i + c ≤ s.length ∧ r = s.drop (i + c) | none => o.2 = 0) := by
  unfold clepsydraref12_escape_f clepsydraref12_escape_b
  cases h : s.drop i with
  | nil =>
    have := drop_nil h
    rw [cond_pos (by omega)]
    exact ⟨_, rfl, rfl⟩
  | cons c r =>
    obtain ⟨h1, h2, h3⟩ := drop_cons h
    rw [cond_neg (by omega), cond_pos (by omega), Int.toNat_natCast, h1]
    have e1 : ((c.toNat : Int) == (110 : Int)) = (c == 110) := beq_byte c 110
    have e2 : ((c.toNat : Int) == (116 : Int)) = (c == 116) := beq_byte c 116
    have e3 : ((c.toNat : Int) == (115 : Int)) = (c == 115) := beq_byte c 115
    have e4 : ((c.toNat : Int) == (120 : Int)) = (c == 120) := beq_byte c 120
    simp only [Option.bind_some, e1, e2, e3, e4, rj1]
    by_cases g1 : c = 110
    · subst g1
      exact ⟨_, rfl, rfl, 1, rfl, by omega, by omega, h2.symm⟩
    by_cases g2 : c = 116
    · subst g2
      exact ⟨_, rfl, rfl, 1, rfl, by omega, by omega, h2.symm⟩
    by_cases g3 : c = 115
    · subst g3
      exact ⟨_, rfl, rfl, 1, rfl, by omega, by omega, h2.symm⟩
    have f1 : (c == 110) = false := by simpa using g1
    have f2 : (c == 116) = false := by simpa using g2
    have f3 : (c == 115) = false := by simpa using g3
    simp only [f1, f2, f3, cond_false]
    by_cases g4 : c = 92 ∨ c = 34 ∨ c = 39
    · have f4 : (c == 92 || c == 34 || c == 39) = true := by rcases g4 with h | h | h <;> subst h <;> rfl
      have hlet : letB c = some c := by unfold letB; rw [if_neg g1, if_neg g2, if_neg g3, if_pos g4]
      simp only [f4, cond_true, escS, hlet]
      rw [cond_pos (by omega)]
      exact ⟨_, rfl, rfl, 1, rfl, by omega, by omega, h2.symm⟩
    have f4 : (c == 92 || c == 34 || c == 39) = false := by
      simp only [not_or] at g4
      simp [g4.1, g4.2.1, g4.2.2]
    have hlet : letB c = none := by unfold letB; rw [if_neg g1, if_neg g2, if_neg g3, if_neg g4]
    simp only [f4, cond_false, escS, hlet]
    by_cases g5 : c = 120
    · subst g5
      simp only [beq_self_eq_true, cond_true, if_true]
      have w1 : IntKind.i64.wrap ((i : Int) + 1) = ((i + 1 : Nat) : Int) := wrap1 i (by omega)
      have w2 : IntKind.i64.wrap ((i : Int) + 2) = ((i + 2 : Nat) : Int) := wrapk i 2 (by omega)
      unfold clepsydraref12_escape_j0 clepsydraref12_escape_j0_b
      simp only [w1, w2]
      match hr : r with
      | [] =>
        have := drop_nil h2
        rw [cond_neg (by omega)]
        exact ⟨_, rfl, rfl⟩
      | [a] =>
        obtain ⟨_, k2, k3⟩ := drop_cons h2
        have := drop_nil k2
        rw [cond_neg (by omega)]
        exact ⟨_, rfl, rfl⟩
      | a :: b :: r' =>
        obtain ⟨k1, k2, k3⟩ := drop_cons h2
        obtain ⟨l1, l2, l3⟩ := drop_cons k2
        rw [cond_pos (by omega), cond_pos (by omega), Int.toNat_natCast, k1, cond_pos (by omega), Int.toNat_natCast, show s[i + 2]? = some b from l1]
        obtain ⟨v, hv, hv2⟩ := rhex_ge n a
        obtain ⟨v', hv', hv2'⟩ := rhex_ge n b
        simp only [Option.bind_some, hv, hv']
        cases ha : hexB a with
        | none =>
          rw [ha] at hv2
          subst hv2
          exact ⟨_, rfl, rfl⟩
        | some x =>
          rw [ha] at hv2
          subst hv2
          rw [cond_pos (by omega)]
          cases hb : hexB b with
          | none =>
            rw [hb] at hv2'
            subst hv2'
            exact ⟨_, rfl, rfl⟩
          | some y =>
            rw [hb] at hv2'
            subst hv2'
            simp only [Option.bind_some]
            rw [decide_eq_true (show (y : Int) ≥ 0 by omega)]
            simp only [cond_true]
            rw [cond_pos (by omega), cond_pos (by omega), hex_sum x y (hexB_lt a x ha) (hexB_lt b y hb)]
            exact ⟨_, rfl, rfl, 3, rfl, by omega, by omega, l2.symm⟩
    · have f5 : (c == 120) = false := by simpa using g5
      simp only [f5, cond_false, if_neg g5]
      exact ⟨_, rfl, rfl⟩

theorem ij4 (n : Nat) (s : Str) (i : Nat) (q : UInt8) : clepsydraref12_Split_j4 n s (i : Int) (q.toNat : Int) = some (match s.drop i with | [] => false | c :: _ => !(q == 0 && blankB c)) := by
  have e : ((q.toNat : Int) != (0 : Int)) = (q != 0) := bne_byte q 0
  unfold clepsydraref12_Split_j4 clepsydraref12_Split_j4_b
  cases h : s.drop i with
  | nil =>
    have := drop_nil h
    rw [cond_neg (by omega)]
  | cons c r =>
    obtain ⟨h1, h2, h3⟩ := drop_cons h
    rw [cond_pos (by omega), e, cond_pos (by omega), Int.toNat_natCast, h1]
    simp only [Option.bind_some, rblank_val]
    rw [bne]
    cases q == 0 <;> simp
theorem ij2 (n : Nat) (q c : UInt8) : clepsydraref12_Split_j2 n (q.toNat : Int) (c.toNat : Int) = some (q == 0 && quoteB c) := by
  have e : ((q.toNat : Int) == (0 : Int)) = (q == 0) := beq_byte q 0
  have e1 : ((c.toNat : Int) == (34 : Int)) = (c == 34) := beq_byte c 34
  have e2 : ((c.toNat : Int) == (39 : Int)) = (c == 39) := beq_byte c 39
  unfold clepsydraref12_Split_j2 clepsydraref12_Split_j2_b quoteB
  rw [e, e1, e2]
  cases q == 0 <;> cases c == 34 <;> rfl
theorem ij1 (n : Nat) (q c : UInt8) : clepsydraref12_Split_j1 n (q.toNat : Int) (c.toNat : Int) = some (c == q && q != 0) := by
  have e : ((q.toNat : Int) != (0 : Int)) = (q != 0) := bne_byte q 0
  unfold clepsydraref12_Split_j1 clepsydraref12_Split_j1_b
  rw [e, beq_byte]
  cases q != 0 <;> cases c == q <;> rfl
theorem ij0 (n : Nat) (q c : UInt8) : clepsydraref12_Split_j0 n (q.toNat : Int) (c.toNat : Int) = some (c == 92 && q != 39) := by
  have e : ((c.toNat : Int) == (92 : Int)) = (c == 92) := beq_byte c 92
  have e2 : ((q.toNat : Int) != (39 : Int)) = (q != 39) := bne_byte q 39
  unfold clepsydraref12_Split_j0 clepsydraref12_Split_j0_b
  rw [e, e2]
  cases c == 92 <;> rfl

/-- What the reference's inner loop tells. -/
def InOK (s : Str) (i : Nat) (q : UInt8) (w : Str) (o : List Str ⊕ (Int × List Int × Int)) : Prop :=
  match o with
  | .inl l => l = [] ∧ sp (.word q w) (s.drop i) = none
  | .inr (i', w', q') => ∃ (j : Nat) (v : Str) (p : UInt8), i' = (j : Int) ∧ w' = intsOf v ∧ q' = (p.toNat : Int) ∧ i ≤ j ∧ j ≤ s.length ∧ v.length ≤ w.length + (s.length - i) ∧
      (p ≠ 0 → sp (.word q w) (s.drop i) = none) ∧ (p = 0 → sp (.word q w) (s.drop i) = (sp .out (s.drop j)).map (v :: ·)) ∧
      (∀ c r, s.drop i = c :: r → (q == 0 && blankB c) = false → i < j)
theorem InOK.of {s : Str} {i i2 : Nat} {q q2 : UInt8} {w w2 : Str} {o : List Str ⊕ (Int × List Int × Int)} (h : InOK s i2 q2 w2 o) (hi : i < i2) (_h2 : i2 ≤ s.length) (hw : w2.length + (s.length - i2) ≤ w.length + (s.length - i))
    (e : sp (.word q w) (s.drop i) = sp (.word q2 w2) (s.drop i2)) : InOK s i q w o := by
  cases o with
  | inl l => exact ⟨h.1, e.trans h.2⟩
  | inr x =>
    obtain ⟨i', w', q'⟩ := x
    obtain ⟨j, v, p, h3, h4, h5, h6, h7, h8, h9, h10, _⟩ := h
    exact ⟨j, v, p, h3, h4, h5, by omega, h7, by omega, fun hp => e.trans (h9 hp), fun hp => e.trans (h10 hp), fun _ _ _ _ => by omega⟩
theorem in_loop (n : Nat) (s : Str) (hl : s.length < 1000000000000) : ∀ (k i : Nat), s.length - i ≤ k → i ≤ s.length → ∀ (m : Nat) (q : UInt8) (w : Str), k < m → w.length + (s.length - i) < 140737488355328 →
    ∃ o, clepsydraref12_Split_l1 n m s (i : Int) (intsOf w) (q.toNat : Int) = some o ∧ InOK s i q w o := by
  intro k
  induction k with
  | zero =>
    intro i hk hi m q w hm hw
    obtain ⟨m, rfl⟩ : ∃ j, m = j + 1 := ⟨m - 1, by omega⟩
    have h : s.drop i = [] := List.drop_eq_nil_of_le (by omega)
    simp only [clepsydraref12_Split_l1, clepsydraref12_Split_l1_b, ij4, h, Option.bind_some, cond_false]
    refine ⟨_, rfl, i, w, q, rfl, rfl, rfl, Nat.le_refl _, hi, by omega, fun hq => ?_, fun hq => ?_, fun c r hc => by rw [h] at hc; cases hc⟩
    · rw [h]; simp [sp, hq]
    · rw [h]; simp [sp, hq]
  | succ k ih =>
    intro i hk hi m q w hm hw
    obtain ⟨m, rfl⟩ : ∃ j, m = j + 1 := ⟨m - 1, by omega⟩
    simp only [clepsydraref12_Split_l1, clepsydraref12_Split_l1_b, ij4, Option.bind_some]
    cases h : s.drop i with
    | nil =>
      simp only [cond_false]
      refine ⟨_, rfl, i, w, q, rfl, rfl, rfl, Nat.le_refl _, hi, by omega, fun hq => ?_, fun hq => ?_, fun c r hc => by rw [h] at hc; cases hc⟩
      · rw [h]; simp [sp, hq]
      · rw [h]; simp [sp, hq]
    | cons c r =>
      obtain ⟨h1, h2, h3⟩ := drop_cons h
      simp only
      cases hb : (q == 0 && blankB c) with
      | true =>
        simp only [Bool.not_true, cond_false]
        simp only [Bool.and_eq_true, beq_iff_eq] at hb
        refine ⟨_, rfl, i, w, q, rfl, rfl, rfl, Nat.le_refl _, hi, by omega, fun hq => absurd hb.1 hq, fun hq => ?_, fun c' r' hc h' => ?_⟩
        · rw [h]; simp [sp, hb.1, hb.2]
        · rw [h] at hc; injection hc with hc _; subst hc; simp [hb.1, hb.2] at h'
      | false =>
        simp only [Bool.not_false, cond_true]
        have hs2 := sp_step q w c r hb
        have hwr : IntKind.i64.wrap ((i : Int) + 1) = ((i + 1 : Nat) : Int) := wrap1 i (by omega)
        have hk2 : decide (((intsOf w).length + ([(c.toNat : Int)] : List Int).length) * 1 ≤ 140737488355328) = true := by simp [intsOf_length]; omega
        rw [cond_pos (by omega), Int.toNat_natCast, h1]
        simp only [Option.bind_some, clepsydraref12_Split_j3, clepsydraref12_Split_j3_b, ij2, ij1, ij0, hk2, intsOf_snoc, hwr]
        cases hq : (q == 0 && quoteB c) with
        | true =>
          simp only [cond_true, Option.bind_some, Sum.elim_inl, hwr]
          simp only [Bool.and_eq_true, beq_iff_eq] at hq
          have e : sp (.word q w) (s.drop i) = sp (.word c w) (s.drop (i + 1)) := by rw [h, hs2, stepW, if_pos hq, h2]
          obtain ⟨o, ho, h3⟩ := ih (i + 1) (by omega) (by omega) m c w (by omega) (by omega)
          exact ⟨o, ho, h3.of (by omega) (by omega) (by omega) e⟩
        | false =>
          simp only [cond_false]
          have hq' : ¬(q = 0 ∧ quoteB c = true) := by rintro ⟨h1, h2⟩; simp [h1, h2] at hq
          cases hc : (c == q && q != 0) with
          | true =>
            simp only [cond_true, Option.bind_some, Sum.elim_inl, hwr]
            simp only [Bool.and_eq_true, beq_iff_eq, bne_iff_ne] at hc
            have e : sp (.word q w) (s.drop i) = sp (.word 0 w) (s.drop (i + 1)) := by rw [h, hs2, stepW, if_neg hq', if_pos hc, h2]
            obtain ⟨o, ho, h3⟩ := ih (i + 1) (by omega) (by omega) m 0 w (by omega) (by omega)
            exact ⟨o, ho, h3.of (by omega) (by omega) (by omega) e⟩
          | false =>
            simp only [cond_false]
            have hc' : ¬(c = q ∧ q ≠ 0) := by rintro ⟨h1, h2⟩; simp [h1, h2] at hc
            cases he : (c == 92 && q != 39) with
            | true =>
              simp only [cond_true]
              simp only [Bool.and_eq_true, beq_iff_eq, bne_iff_ne] at he
              have e : sp (.word q w) (s.drop i) = sp (.esc q w) (s.drop (i + 1)) := by rw [h, hs2, stepW, if_neg hq', if_neg hc', if_pos he, h2]
              rw [sp_esc] at e
              obtain ⟨o, ho, h3⟩ := resc_val n s (i + 1) (by omega) hl
              rw [ho]
              simp only [Option.bind_some]
              cases hx : escS (s.drop (i + 1)) with
              | none =>
                rw [hx] at h3 e
                simp only at h3 e
                rw [h3]
                exact ⟨_, rfl, rfl, e⟩
              | some p =>
                obtain ⟨x, r'⟩ := p
                rw [hx] at h3 e
                simp only at h3 e
                obtain ⟨k1, cnt, k2, k3, k4, k5⟩ := h3
                obtain ⟨o1, o2⟩ := o
                simp only at k1 k2
                subst k1 k2
                have z : ((cnt : Int) == 0) = false := by rw [beq_eq_false_iff_ne]; omega
                have hk3 : decide (((intsOf w).length + ([(x.toNat : Int)] : List Int).length) * 1 ≤ 140737488355328) = true := by simp [intsOf_length]; omega
                have w3 : IntKind.i64.wrap ((i : Int) + (cnt : Int)) = ((i + cnt : Nat) : Int) := wrapk i cnt (by omega)
                have w4 : IntKind.i64.wrap (((i + cnt : Nat) : Int) + 1) = ((i + cnt + 1 : Nat) : Int) := wrap1 (i + cnt) (by omega)
                simp only [z, cond_false, hk3, cond_true, intsOf_snoc, w3, Option.bind_some, Sum.elim_inl, w4]
                rw [k5, show i + 1 + cnt = i + cnt + 1 by omega] at e
                obtain ⟨o, ho, h3⟩ := ih (i + cnt + 1) (by omega) (by omega) m q (w ++ [x]) (by omega) (by simp; omega)
                exact ⟨o, ho, h3.of (by omega) (by omega) (by simp; omega) e⟩
            | false =>
              simp only [cond_false, cond_true, Option.bind_some, Sum.elim_inl, hwr]
              have he' : ¬(c = 92 ∧ q ≠ 39) := by rintro ⟨h1, h2⟩; simp [h1, h2] at he
              have e : sp (.word q w) (s.drop i) = sp (.word q (w ++ [c])) (s.drop (i + 1)) := by rw [h, hs2, stepW, if_neg hq', if_neg hc', if_neg he', h2]
              obtain ⟨o, ho, h3⟩ := ih (i + 1) (by omega) (by omega) m q (w ++ [c]) (by omega) (by simp; omega)
              exact ⟨o, ho, h3.of (by omega) (by omega) (by simp; omega) e⟩

/-- What the reference's outer loop tells. -/
def outR (out : List Str) (r : Option (List Str)) : List Str ⊕ List Str := match r with
  | none => .inl []
  | some l => .inr (out ++ l)
theorem out_loop (n : Nat) (s : Str) (hl : s.length < 1000000000000) (hn : s.length < n) : ∀ (k i : Nat), s.length - i ≤ k → i ≤ s.length → ∀ (m : Nat) (out : List Str), k < m → out.length + (s.length - i) < 8000000000000 →
    clepsydraref12_Split_l0 n m s out (i : Int) = some (outR out (sp .out (s.drop i))) := by
  intro k
  induction k with
  | zero =>
    intro i hk hi m out hm ho
    obtain ⟨m, rfl⟩ : ∃ j, m = j + 1 := ⟨m - 1, by omega⟩
    have h : s.drop i = [] := List.drop_eq_nil_of_le (by omega)
    simp only [clepsydraref12_Split_l0, clepsydraref12_Split_l0_b, h, sp, outR, List.append_nil]
    rw [cond_neg (by omega)]
  | succ k ih =>
    intro i hk hi m out hm ho
    obtain ⟨m, rfl⟩ : ∃ j, m = j + 1 := ⟨m - 1, by omega⟩
    simp only [clepsydraref12_Split_l0, clepsydraref12_Split_l0_b]
    cases h : s.drop i with
    | nil =>
      have := drop_nil h
      simp only [sp, outR, List.append_nil]
      rw [cond_neg (by omega)]
    | cons c r =>
      obtain ⟨h1, h2, h3⟩ := drop_cons h
      rw [cond_pos (by omega), cond_pos (by omega), Int.toNat_natCast, h1]
      simp only [Option.bind_some, rblank_val]
      cases hb : blankB c with
      | true =>
        simp only [cond_true]
        rw [wrap1 i (by omega), ih (i + 1) (by omega) (by omega) m out (by omega) (by omega), sp, if_pos hb, h2]
      | false =>
        simp only [cond_false]
        obtain ⟨o, ho, h4⟩ := in_loop n s hl (s.length - i) i (Nat.le_refl _) hi n 0 [] (by omega) (by simp; omega)
        change clepsydraref12_Split_l1 n n s (i : Int) ([] : List Int) (0 : Int) = some o at ho
        rw [ho]
        simp only [Option.bind_some]
        rw [sp_out_word c r hb, ← h]
        cases o with
        | inl l =>
          obtain ⟨h5, h6⟩ := h4
          subst h5
          rw [h6]
          rfl
        | inr x =>
          obtain ⟨i', w', q'⟩ := x
          obtain ⟨j, v, p, rfl, rfl, rfl, h5, h6, h7, h8, h9, h10⟩ := h4
          have h11 := h10 c r h (by simp [hb])
          simp only [Sum.elim_inr]
          have e : ((p.toNat : Int) != (0 : Int)) = (p != 0) := bne_byte p 0
          rw [e]
          by_cases hp : p = 0
          · rw [h9 hp]
            have : (p != 0) = false := by simp [hp]
            have hk3 : decide ((out.length + ([v] : List Str).length) * 16 ≤ 140737488355328) = true := by simp; omega
            simp only [this, cond_false, hk3, cond_true, strOf_intsOf]
            rw [ih j (by omega) (by omega) m (out ++ [v]) (by omega) (by simp; omega)]
            cases sp .out (s.drop j) <;> simp [outR]
          · rw [h8 hp]
            have : (p != 0) = true := by simpa using hp
            simp only [this, cond_true]
            rfl
theorem rsplit_val (n : Nat) (s : Str) (hn : s.length < n) (hl : s.length < 1000000000000) : clepsydraref12_Split_f n s = some (match sp .out s with | none => ([], false) | some l => (l, true)) := by
  have h := out_loop n s hl hn s.length 0 (by omega) (by omega) n [] hn (by simp; omega)
  change clepsydraref12_Split_l0 n n s ([] : List Str) (0 : Int) = _ at h
  unfold clepsydraref12_Split_f clepsydraref12_Split_b
  rw [h, List.drop_zero]
  cases sp .out s <;> rfl
end Go.Proofs.YtgcjkimkoppocaaDoor.H

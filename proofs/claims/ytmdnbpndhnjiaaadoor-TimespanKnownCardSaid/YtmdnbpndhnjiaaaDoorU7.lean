/- Chapter 02: a span's text: the program's, the reference's, and what it is parsed as. -/
import Derived.Test.YtmdnbpndhnjiaaaDoorU5
import Derived.Test.YtmdnbpndhnjiaaaDoorU6
import Derived.Test.YtmdnbpndhnjiaaaDoorT15
import Derived.Lib.ItoaLen
namespace Go.Proofs.YtmdnbpndhnjiaaaDoor.H
open Go.Sh Go.RowKit
set_option linter.unusedSimpArgs false
set_option linter.unusedVariables false

theorem i64N (a : Nat) (h : a < 9223372036854775808) : IntKind.i64.wrap (a : Int) = (a : Int) := IntWalk.i64_in _ (by omega)
theorem gtN {α : Type} (a : Nat) (h : 0 < a) (x y : α) : cond (decide ((a : Int) > 0)) x y = x := cond_pos (by omega) x y
theorem ngtN {α : Type} (x y : α) : cond (decide (((0 : Nat) : Int) > 0)) x y = y := cond_neg (by omega) x y
/-! ### digits -/
def digC (a : Nat) : UInt8 := UInt8.ofNat (48 + a)
theorem decD (a : Nat) : Lib.decDigits a = (if a / 10 = 0 then [] else Lib.decDigits (a / 10)) ++ [digC (a % 10)] := by
  rw [Lib.decDigits]
  by_cases h : a < 10
  · rw [dif_pos h, if_pos (by omega), Nat.mod_eq_of_lt h]; rfl
  · rw [dif_neg h, if_neg (by omega)]; rfl
theorem digC_dig (a : Nat) (h : a < 10) : digB (digC a) = true ∧ (digC a).toNat = 48 + a := by
  match a, h with
  | 0, _ => exact ⟨rfl, rfl⟩ | 1, _ => exact ⟨rfl, rfl⟩ | 2, _ => exact ⟨rfl, rfl⟩ | 3, _ => exact ⟨rfl, rfl⟩ | 4, _ => exact ⟨rfl, rfl⟩
  | 5, _ => exact ⟨rfl, rfl⟩ | 6, _ => exact ⟨rfl, rfl⟩ | 7, _ => exact ⟨rfl, rfl⟩ | 8, _ => exact ⟨rfl, rfl⟩ | 9, _ => exact ⟨rfl, rfl⟩
theorem valN_snoc (d : Str) (c : UInt8) : valN (d ++ [c]) = valN d * 10 + (c.toNat - 48) := by
  unfold valN
  rw [valA_append, valA_cons]
  rfl
theorem dec_all (a : Nat) : (Lib.decDigits a).all digB = true ∧ valN (Lib.decDigits a) = a ∧ Lib.decDigits a ≠ [] := by
  induction a using Nat.strongRecOn with
  | _ a ih =>
    have hm := digC_dig (a % 10) (Nat.mod_lt _ (by omega))
    rw [decD]
    by_cases h : a / 10 = 0
    · rw [if_pos h]
      refine ⟨by simp [hm.1], ?_, by simp⟩
      rw [valN_snoc, hm.2]
      have : valN [] = 0 := rfl
      omega
    · rw [if_neg h]
      obtain ⟨h1, h2, h3⟩ := ih (a / 10) (by omega)
      refine ⟨by simp only [List.all_append, h1, Bool.true_and]; simp [hm.1], ?_, by simp⟩
      rw [valN_snoc, h2, hm.2]
      omega
theorem fmt_val (n a : Nat) (ha : a < 9223372036854775808) : strconv_FormatInt_f n (a : Int) 10 = some (Lib.decDigits a) ∧ (Lib.decDigits a).length ≤ 21 := by
  have h : Lib.itoa (a : Int) = Lib.decDigits a := by rw [Lib.itoa, if_neg (by omega), Int.toNat_natCast]
  refine ⟨?_, ?_⟩
  · unfold strconv_FormatInt_f
    have h1 : (decide (-9223372036854775808 ≤ (a : Int)) && decide ((a : Int) ≤ 9223372036854775807) && decide ((10 : Int) = 10)) = true := by
      rw [decide_eq_true (by omega), decide_eq_true (by omega)]; rfl
    rw [h1, cond_true, h]
  · rw [← h]; exact Lib.itoa_length_le _ (by omega) (by omega)

/-! ### the texts -/
/-- A number's parts, by units. -/
def piecesS : List Str → Nat → List Str
  | [], _ => []
  | u :: us, a => (if a / unitN u = 0 then [] else [Lib.decDigits (a / unitN u) ++ u]) ++ piecesS us (a % unitN u)
def us6 : List Str := [[100], [104], [109, 105, 110], [115], [109, 115], [117, 115]]
def joinB (l : List Str) : Str := Lib.join l [32]
theorem join_snoc : ∀ (l : List Str) (p : Str), joinB (l ++ [p]) = if l = [] then p else joinB l ++ 32 :: p
  | [], p => by simp [joinB, Lib.join, List.intercalate]
  | [x], p => by simp [joinB, Lib.join, List.intercalate]
  | x :: y :: l, p => by
    have h := join_snoc (y :: l) p
    rw [if_neg (by simp)] at h ⊢
    have e : ∀ (z : Str) (m : List Str), m ≠ [] → joinB (z :: m) = z ++ 32 :: joinB m := fun z m hm => by
      cases m with
      | nil => exact absurd rfl hm
      | cons w m => simp [joinB, Lib.join, List.intercalate]
    rw [List.cons_append, e x _ (by simp), h, e x _ (by simp)]
    simp
theorem join_cons (z : Str) (m : List Str) (hm : m ≠ []) : joinB (z :: m) = z ++ 32 :: joinB m := by
  cases m with
  | nil => exact absurd rfl hm
  | cons w m => simp [joinB, Lib.join, List.intercalate]
def textS (a : Int) : Str := if a < 0 then [] else if a = 0 then [48] else if a = 9223372036854775807 then [105, 110, 102, 105, 110, 105, 116, 121] else joinB (piecesS us6 a.toNat)
theorem div_val (n a w : Nat) (ha : a < 9223372036854775808) (h0 : 0 < w) (hw : w < 9223372036854775808) : usec_Div_f n (a : Int) (w : Int) = some (((a / w : Nat) : Int), ((a % w : Nat) : Int), true) := by
  have hj1 : usec_Div_j1 n (a : Int) (w : Int) = some false := by
    unfold usec_Div_j1 usec_Div_j1_b
    rw [ne0 w h0, cond_false, show ((w : Int) == -1) = false by rw [beq_eq_false_iff_ne]; omega, cond_false]
  have hj0 : usec_Div_j0 n (w : Int) ((a % w : Nat) : Int) = some false := by
    unfold usec_Div_j0 usec_Div_j0_b
    have := Nat.mod_lt a h0
    rw [minus_val n _ (by omega), minus_val n w hw]
    cases ((((a % w : Nat) : Int)) != 0) <;> rfl
  have hd := Nat.div_le_self a w
  unfold usec_Div_f usec_Div_b
  rw [hj1, Option.bind_some, cond_false, ne0 w h0, cond_false, cond_false, tr, hj0, Option.bind_some, cond_false, tq, i64N _ (by omega)]
theorem us6_pos : us6.all (fun u => decide (0 < unitN u) && decide (u.length ≤ 3)) = true := by decide
theorem piecesS_len (us : List Str) : ∀ a, (piecesS us a).length ≤ us.length := by
  induction us with
  | nil => intro a; simp [piecesS]
  | cons u us ih =>
    intro a
    have := ih (a % unitN u)
    simp only [piecesS, List.length_append, List.length_cons]
    split
    · simp; omega
    · simp; omega
theorem text_loop (n : Nat) (us : List Str) (hus : us.length ≤ 1000) (hp : ∀ u ∈ us, 0 < unitN u ∧ u.length ≤ 3) : ∀ (m a i : Nat) (out : List Str), us.length - i < m → i ≤ us.length → out.length ≤ i → a < 9223372036854775808 →
    timespan_Text_l0 n m (a : Int) out us (us.length : Int) (i : Int) = some (out ++ piecesS (us.drop i) a)
  | 0, a, i, out, hm, _, _, _ => by omega
  | m + 1, a, i, out, hm, hi, ho, ha => by
    rw [timespan_Text_l0, timespan_Text_l0_b]
    cases hd : us.drop i with
    | nil =>
      have := drop_nil hd
      rw [cond_neg (by omega)]
      simp [piecesS]
    | cons u r =>
      obtain ⟨k1, k2, k3⟩ := drop_cons hd
      have hu := hp u (List.mem_of_getElem? k1)
      have hule := unitN_le u
      have hdl := Nat.div_le_self a (unitN u)
      have hml := Nat.mod_lt a hu.1
      have hle := Nat.mod_le a (unitN u)
      have hj : timespan_Text_j0 n (a : Int) out us (i : Int) = some (((a % unitN u : Nat) : Int), out ++ (if a / unitN u = 0 then [] else [Lib.decDigits (a / unitN u) ++ u])) := by
        unfold timespan_Text_j0 timespan_Text_j0_b
        rw [cond_pos (by omega), Int.toNat_natCast, k1, Option.bind_some, unit_val, Option.bind_some, div_val n a _ ha hu.1 (by omega), Option.bind_some]
        by_cases h : a / unitN u = 0
        · rw [h, if_pos rfl, ngtN, List.append_nil]
        · obtain ⟨f1, f2⟩ := fmt_val n (a / unitN u) (by omega)
          rw [if_neg h, gtN _ (Nat.pos_of_ne_zero h), f1, Option.bind_some, cond_pos (by omega), cond_pos (by simp only [List.length_cons, List.length_nil]; omega)]
      rw [cond_pos (by omega), hj, Option.bind_some, wrap1 i (by omega), text_loop n us hus hp m _ (i + 1) _ (by omega) (by omega) (by
        simp only [List.length_append]
        split <;> simp <;> omega) (by omega), k2, piecesS, List.append_assoc]
theorem us6_all : ∀ u ∈ us6, 0 < unitN u ∧ u.length ≤ 3 := fun u hu => by
  have := List.all_eq_true.1 us6_pos u hu
  simpa using this
theorem joinB_le (l : List Str) (k : Nat) (h : ∀ p ∈ l, p.length ≤ k) : (joinB l).length ≤ l.length * (k + 1) := by
  induction l with
  | nil => simp [joinB, Lib.join, List.intercalate]
  | cons x m ih =>
    have hx := h x (by simp)
    have := ih fun p hp => h p (by simp [hp])
    cases m with
    | nil => simp [joinB, Lib.join, List.intercalate]; omega
    | cons y m =>
      rw [join_cons x _ (by simp)]
      simp only [List.length_append, List.length_cons, Nat.add_mul, Nat.one_mul] at this ⊢
      omega
theorem piecesS_short (us : List Str) (hp : ∀ u ∈ us, 0 < unitN u ∧ u.length ≤ 3) : ∀ a, a < 9223372036854775808 → ∀ p ∈ piecesS us a, p.length ≤ 24 := by
  induction us with
  | nil => intro a _ p hpp; simp [piecesS] at hpp
  | cons u us ih =>
    intro a ha p hpp
    have hu := hp u (by simp)
    have hdl := Nat.div_le_self a (unitN u)
    have hle := Nat.mod_le a (unitN u)
    simp only [piecesS, List.mem_append] at hpp
    rcases hpp with hpp | hpp
    · split at hpp
      · simp at hpp
      · simp only [List.mem_singleton] at hpp
        subst hpp
        have := (fmt_val 0 (a / unitN u) (by omega)).2
        simp only [List.length_append]
        omega
    · exact ih (fun v hv => hp v (by simp [hv])) _ (by omega) p hpp
theorem textJ_len (a : Nat) (ha : a < 9223372036854775808) : (joinB (piecesS us6 a)).length ≤ 150 := by
  have h1 := joinB_le _ 24 (piecesS_short us6 us6_all a ha)
  have h2 := piecesS_len us6 a
  have h3 : us6.length = 6 := rfl
  have : (piecesS us6 a).length * 25 ≤ 150 := by omega
  omega
theorem textS_len (a : Int) (ha : a ≤ 9223372036854775807) : (textS a).length ≤ 150 := by
  unfold textS
  split
  · simp
  · split
    · simp
    · split
      · simp
      · exact textJ_len _ (by omega)
theorem Text_val (n : Nat) (hn : 100 < n) (a : Int) (ha : a ≤ 9223372036854775807) : timespan_Text_f n a = some (textS a) := by
  unfold timespan_Text_f timespan_Text_b textS
  by_cases h1 : a < 0
  · rw [cond_pos h1, if_pos h1]
  · rw [cond_neg h1, if_neg h1]
    by_cases h2 : a = 0
    · subst h2; rfl
    · rw [if_neg h2, show (a == 0) = false by simpa using h2, cond_false]
      by_cases h3 : a = 9223372036854775807
      · subst h3; rfl
      · rw [if_neg h3, show (a == 9223372036854775807) = false by simpa using h3, cond_false]
        obtain ⟨k, rfl⟩ : ∃ k : Nat, a = (k : Int) := ⟨a.toNat, by omega⟩
        have h := text_loop n us6 (by decide) us6_all n k 0 [] (by have : us6.length = 6 := rfl; omega) (by omega) (by simp) (by omega)
        have h' : timespan_Text_l0 n n (k : Int) [] [([100] : Str), ([104] : Str), ([109, 105, 110] : Str), ([115] : Str), ([109, 115] : Str), ([117, 115] : Str)] (([([100] : Str), ([104] : Str), ([109, 105, 110] : Str), ([115] : Str), ([109, 115] : Str), ([117, 115] : Str)] : List Str).length : Int) 0 = some (piecesS us6 k) := h
        have hj := textJ_len k (by omega)
        have hl := piecesS_len us6 k
        have h6 : us6.length = 6 := rfl
        rw [h', Option.bind_some, cond_pos (by omega), Int.toNat_natCast]
        have e : Lib.join (piecesS us6 k) [32] = joinB (piecesS us6 k) := rfl
        rw [e, cond_pos (by omega)]

/-! ### the reference's -/
theorem digit_cut (d : Nat) (h : d < 10) : ((([48, 49, 50, 51, 52, 53, 54, 55, 56, 57] : Str).take (d + 1)).drop d) = [digC d] := by
  match d, h with
  | 0, _ => rfl | 1, _ => rfl | 2, _ => rfl | 3, _ => rfl | 4, _ => rfl | 5, _ => rfl | 6, _ => rfl | 7, _ => rfl | 8, _ => rfl | 9, _ => rfl
theorem rdigits_val (n : Nat) : ∀ (j m k : Nat) (t : Str), j < m → k < 10 ^ j → k < 9223372036854775808 → t.length + j < 1000000 → clepsydraref02_Text_l1 n m (k : Int) t = some ((if k = 0 then [] else Lib.decDigits k) ++ t)
  | j, 0, k, t, hj, _, _, _ => by omega
  | j, m + 1, k, t, hj, hk, hk2, ht => by
    rw [clepsydraref02_Text_l1, clepsydraref02_Text_l1_b]
    by_cases h : k = 0
    · rw [h, if_pos rfl, cond_neg (by omega)]
      rfl
    · have hm := Nat.mod_lt k (show 0 < 10 by omega)
      have e1 : Int.tmod (k : Int) 10 = ((k % 10 : Nat) : Int) := rfl
      have e2 : Int.tdiv (k : Int) 10 = ((k / 10 : Nat) : Int) := rfl
      obtain ⟨j', rfl⟩ : ∃ j', j = j' + 1 := by
        cases j with
        | zero => simp at hk; omega
        | succ j' => exact ⟨j', rfl⟩
      have hp : (10 : Nat) ^ (j' + 1) = 10 ^ j' * 10 := Nat.pow_succ ..
      rw [cond_pos (by omega), e1, e2, wrap1 _ (by omega), cond_pos (by omega), cond_pos (by simp only [List.length_cons, List.length_nil]; omega), cond_pos (by omega), Int.toNat_natCast, cond_pos (by omega), Int.toNat_natCast, digit_cut _ hm, cond_pos (by simp only [List.length_cons, List.length_nil]; omega), i64N _ (by omega),
        rdigits_val n j' m (k / 10) _ (by omega) (by omega) (by omega) (by simp only [List.length_append, List.length_cons, List.length_nil]; omega), if_neg h]
      congr 1
      conv => rhs; rw [decD]
      by_cases h10 : k / 10 = 0
      · rw [if_pos h10]; rfl
      · rw [if_neg h10]; simp
theorem joinB_nil {l : List Str} (h : ∀ p ∈ l, p ≠ []) (hj : joinB l = []) : l = [] := by
  cases l with
  | nil => rfl
  | cons x m =>
    have hx := h x (by simp)
    cases m with
    | nil => exact absurd (by simpa [joinB, Lib.join, List.intercalate] using hj) hx
    | cons y m => rw [join_cons x _ (by simp)] at hj; simp at hj
theorem rtext_loop (n : Nat) (hn : 100 < n) (us : List Str) (hus : us.length ≤ 1000) (hp : ∀ u ∈ us, 0 < unitN u ∧ u.length ≤ 3) : ∀ (m a i : Nat) (out : List Str), us.length - i < m → i ≤ us.length → out.length ≤ i → (∀ p ∈ out, p ≠ [] ∧ p.length ≤ 24) → a < 9223372036854775808 →
    clepsydraref02_Text_l0 n m (a : Int) (joinB out) us (us.length : Int) (i : Int) = some (joinB (out ++ piecesS (us.drop i) a))
  | 0, a, i, out, hm, _, _, _, _ => by omega
  | m + 1, a, i, out, hm, hi, ho, hout, ha => by
    rw [clepsydraref02_Text_l0, clepsydraref02_Text_l0_b]
    cases hd : us.drop i with
    | nil =>
      have := drop_nil hd
      rw [cond_neg (by omega)]
      simp [piecesS]
    | cons u r =>
      obtain ⟨k1, k2, k3⟩ := drop_cons hd
      have hu := hp u (List.mem_of_getElem? k1)
      have hule := unitN_le u
      have hdl := Nat.div_le_self a (unitN u)
      have hml := Nat.mod_lt a hu.1
      have hle := Nat.mod_le a (unitN u)
      have hjl := joinB_le out 24 fun p hpp => (hout p hpp).2
      have hj : clepsydraref02_Text_j1 n (a : Int) (joinB out) us (i : Int) = some (((a % unitN u : Nat) : Int), joinB (out ++ (if a / unitN u = 0 then [] else [Lib.decDigits (a / unitN u) ++ u]))) := by
        unfold clepsydraref02_Text_j1 clepsydraref02_Text_j1_b
        rw [cond_pos (by omega), Int.toNat_natCast, k1, Option.bind_some, runit_val, Option.bind_some, ne0 _ hu.1, cond_false, Option.bind_some, ne0 _ hu.1, cond_false, tq, tr, i64N (a / unitN u) (by omega)]
        by_cases h : a / unitN u = 0
        · rw [h, if_pos rfl, List.append_nil]
          rfl
        · have f2 := (fmt_val 0 (a / unitN u) (by omega)).2
          have hd1 := rdigits_val n 19 n (a / unitN u) [] (by omega) (by
            have : (9223372036854775808 : Nat) < 10 ^ 19 := by decide
            omega) (by omega) (by simp)
          rw [if_neg h, List.append_nil] at hd1
          rw [if_neg h, ne0 _ (Nat.pos_of_ne_zero h), cond_false]
          have hj0 : clepsydraref02_Text_j0 n (joinB out) = some (if out = [] then [] else joinB out ++ [32]) := by
            unfold clepsydraref02_Text_j0 clepsydraref02_Text_j0_b
            by_cases ho2 : out = []
            · subst ho2; rfl
            · rw [if_neg ho2, show (joinB out == []) = false by
                rw [beq_eq_false_iff_ne]
                exact fun e => ho2 (joinB_nil (fun p hpp => (hout p hpp).1) e)]
              rw [Bool.not_false, cond_true, cond_pos (by simp only [List.length_cons, List.length_nil]; omega)]
          have hjs : (if out = [] then [] else joinB out ++ [32] : Str).length ≤ (joinB out).length + 1 := by
            split
            · simp
            · simp
          rw [hj0, Option.bind_some, hd1, Option.bind_some, cond_pos (by omega), cond_pos (by simp only [List.length_append]; omega), join_snoc]
          congr 2
          split
          · simp
          · simp
      rw [cond_pos (by omega), hj, Option.bind_some, wrap1 i (by omega), rtext_loop n hn us hus hp m _ (i + 1) _ (by omega) (by omega) (by
        simp only [List.length_append]
        split <;> simp <;> omega) (by
        intro p hpp
        rcases List.mem_append.1 hpp with hpp | hpp
        · exact hout p hpp
        · split at hpp
          · simp at hpp
          · simp only [List.mem_singleton] at hpp
            subst hpp
            have := (fmt_val 0 (a / unitN u) (by omega)).2
            exact ⟨by simp [(dec_all (a / unitN u)).2.2], by simp only [List.length_append]; omega⟩) (by omega), k2, piecesS, List.append_assoc]
theorem rText_val (n : Nat) (hn : 100 < n) (a : Int) (ha : a ≤ 9223372036854775807) : clepsydraref02_Text_f n a = some (textS a) := by
  unfold clepsydraref02_Text_f clepsydraref02_Text_b textS
  by_cases h1 : a < 0
  · rw [cond_pos h1, if_pos h1]
  · rw [cond_neg h1, if_neg h1]
    by_cases h2 : a = 0
    · subst h2; rfl
    · rw [if_neg h2, show (a == 0) = false by simpa using h2, cond_false]
      by_cases h3 : a = 9223372036854775807
      · subst h3; rfl
      · rw [if_neg h3, show (a == 9223372036854775807) = false by simpa using h3, cond_false]
        obtain ⟨k, rfl⟩ : ∃ k : Nat, a = (k : Int) := ⟨a.toNat, by omega⟩
        have h := rtext_loop n hn us6 (by decide) us6_all n k 0 [] (by have : us6.length = 6 := rfl; omega) (by omega) (by simp) (fun p hp => by simp at hp) (by omega)
        have h' : clepsydraref02_Text_l0 n n (k : Int) [] [([100] : Str), ([104] : Str), ([109, 105, 110] : Str), ([115] : Str), ([109, 115] : Str), ([117, 115] : Str)] (([([100] : Str), ([104] : Str), ([109, 105, 110] : Str), ([115] : Str), ([109, 115] : Str), ([117, 115] : Str)] : List Str).length : Int) 0 = some (joinB (piecesS us6 k)) := h
        rw [h', Option.bind_some, Int.toNat_natCast]

/-! ### there and back -/
theorem unit_letters : us6.all (fun u => u.all letB && decide (u ≠ [])) = true := by decide
theorem tw_full {p : UInt8 → Bool} {s : Str} (h : s.all p = true) (t : Str) (ht : ∀ c r, t = c :: r → p c = false) : (s ++ t).takeWhile p = s ∧ (s ++ t).dropWhile p = t := by
  induction s with
  | nil =>
    cases t with
    | nil => exact ⟨rfl, rfl⟩
    | cons c r =>
      have := ht c r rfl
      rw [List.nil_append, List.takeWhile_cons_of_neg (by simp [this]), List.dropWhile_cons_of_neg (by simp [this])]
      exact ⟨rfl, rfl⟩
  | cons x s ih =>
    simp only [List.all_cons, Bool.and_eq_true] at h
    obtain ⟨h1, h2⟩ := ih h.2
    rw [List.cons_append, List.takeWhile_cons_of_pos h.1, List.dropWhile_cons_of_pos h.1, h1, h2]
    exact ⟨rfl, rfl⟩
theorem dw_none {s : Str} (h : ∀ c r, s = c :: r → blkB c = false) : s.dropWhile blkB = s := by
  cases s with
  | nil => rfl
  | cons c r => rw [List.dropWhile_cons_of_neg (by simp [h c r rfl])]
/-- A number and a unit (a blank between, or none; a fraction, or none). -/
theorem items_one (w f b u : Str) (g : Nat) (hw : w.all digB = true) (hwne : w ≠ []) (hf : f = [] ∧ g = 0 ∨ ∃ d : Str, f = 46 :: d ∧ d.all digB = true ∧ d.length = 6 ∧ g = valN d) (hb : b.all blkB = true) (hu : u.all letB = true) (hun : unitN u ≠ 0) :
    itemsS (w ++ (f ++ (b ++ u))) = some [longS (valN w) g (unitN u)] := by
  have hdig0 : ∀ c r, b ++ u = c :: r → digB c = false ∧ c ≠ 46 := fun c r e => by
    cases b with
    | nil =>
      rw [List.nil_append] at e
      subst e
      simp only [List.all_cons, Bool.and_eq_true] at hu
      exact ⟨(let_blk hu.1).2.1, (let_blk hu.1).2.2⟩
    | cons x b =>
      injection e with e _
      subst e
      simp only [List.all_cons, Bool.and_eq_true] at hb
      exact ⟨(blk_off hb.1).2.1, (blk_off hb.1).2.2⟩
  have hdig : ∀ c r, f ++ (b ++ u) = c :: r → digB c = false := fun c r e => by
    rcases hf with ⟨rfl, _⟩ | ⟨d, rfl, _⟩
    · exact (hdig0 c r e).1
    · injection e with e _; subst e; rfl
  obtain ⟨k1, k2⟩ := tw_full hw _ hdig
  have hfr : fracS (f ++ (b ++ u)) = some (g, b ++ u) := by
    rcases hf with ⟨rfl, rfl⟩ | ⟨d, rfl, h1, h2, h3⟩
    · rw [List.nil_append]
      cases he : b ++ u with
      | nil => rfl
      | cons c r => simp only [fracS, if_neg (hdig0 c r he).2]
    · obtain ⟨k3, k4⟩ := tw_full h1 (b ++ u) fun c r e => (hdig0 c r e).1
      rw [List.cons_append]
      simp only [fracS, if_true, k3, k4]
      rw [if_neg (by
        rintro (h | h)
        · rw [h] at h2; simp at h2
        · omega), h2, h3]
      simp
  have hbl := (gap_blanks hb).2.2
  have hbu : (b ++ u).dropWhile blkB = u := by
    rw [dw_append, if_pos hbl]
    exact dw_none fun c r e => by
      subst e
      simp only [List.all_cons, Bool.and_eq_true] at hu
      exact (let_blk hu.1).1
  have hul : u.takeWhile letB = u ∧ u.dropWhile letB = [] := by
    have := tw_full hu [] (fun c r e => by cases e)
    simpa using this
  have hp : partS (w ++ (f ++ (b ++ u))) = some (longS (valN w) g (unitN u), []) := by
    unfold partS
    rw [k1, k2, if_neg hwne, hfr]
    simp only [hbu, hul.1, hul.2]
    rw [if_neg hun]
  have hd : (w ++ (f ++ (b ++ u))).dropWhile blkB = w ++ (f ++ (b ++ u)) := dw_none fun c r e => by
    cases w with
    | nil => exact absurd rfl hwne
    | cons x w =>
      injection e with e _
      subst e
      simp only [List.all_cons, Bool.and_eq_true] at hw
      exact (dig_blk hw.1).1
  rw [itemsS_some (v := longS (valN w) g (unitN u)) (r := []) (by rw [hd]; simp [hwne]) (by rw [hd]; exact hp), itemsS_nil rfl]
  rfl
theorem items_piece (q : Nat) (u : Str) (hu : u.all letB = true) (hun : unitN u ≠ 0) : itemsS (Lib.decDigits q ++ u) = some [q * unitN u] := by
  obtain ⟨h1, h2, h3⟩ := dec_all q
  have h := items_one (Lib.decDigits q) [] [] u 0 h1 h3 (.inl ⟨rfl, rfl⟩) rfl hu hun
  rw [List.nil_append, List.nil_append, h2] at h
  rw [h]
  simp [longS]
/-- The parts' sum. -/
theorem items_join : ∀ (us : List Str), (∀ u ∈ us, u.all letB = true ∧ unitN u ≠ 0) → ∀ a, ∃ l : List Nat, itemsS (joinB (piecesS us a)) = some l ∧ l.sum + us.foldl (fun a u => a % unitN u) a = a ∧ (l = [] ↔ piecesS us a = [])
  | [], _, a => ⟨[], itemsS_nil rfl, by simp, by simp [piecesS]⟩
  | u :: us, hp, a => by
    obtain ⟨hu, hun⟩ := hp u (by simp)
    obtain ⟨l, h1, h2, h3⟩ := items_join us (fun v hv => hp v (by simp [hv])) (a % unitN u)
    have hdm := Nat.div_add_mod a (unitN u)
    simp only [piecesS, List.foldl_cons]
    by_cases hq : a / unitN u = 0
    · rw [if_pos hq, List.nil_append]
      rw [hq, Nat.mul_zero, Nat.zero_add] at hdm
      exact ⟨l, h1, by rw [h2, hdm], h3⟩
    · rw [if_neg hq, List.singleton_append]
      have hi := items_piece (a / unitN u) u hu hun
      rw [Nat.mul_comm] at hdm
      by_cases hr : piecesS us (a % unitN u) = []
      · rw [hr]
        have hl := h3.2 hr
        subst hl
        refine ⟨[a / unitN u * unitN u], ?_, ?_, by simp⟩
        · simpa [joinB, Lib.join, List.intercalate] using hi
        · simp only [List.sum_nil, Nat.zero_add] at h2
          rw [h2]
          simpa using hdm
      · rw [join_cons _ _ hr]
        refine ⟨a / unitN u * unitN u :: l, items_two (c := 32) (by decide) hi h1, ?_, by simp⟩
        rw [List.sum_cons, Nat.add_assoc, h2]
        exact hdm
theorem us6_ok : ∀ u ∈ us6, u.all letB = true ∧ unitN u ≠ 0 := fun u hu => by
  have h1 := List.all_eq_true.1 unit_letters u hu
  have h2 := us6_all u hu
  simp only [Bool.and_eq_true, decide_eq_true_eq] at h1
  exact ⟨h1.1, by omega⟩
/-- A text that is a sum. -/
theorem items_text (k : Nat) (h0 : 0 < k) : ∃ l : List Nat, itemsS (joinB (piecesS us6 k)) = some l ∧ l ≠ [] ∧ l.sum = k := by
  obtain ⟨l, h1, h2, h3⟩ := items_join us6 us6_ok k
  have e : us6.foldl (fun a u => a % unitN u) k = 0 := by
    simp only [us6, List.foldl_cons, List.foldl_nil]
    rw [show unitN [117, 115] = 1 by decide, Nat.mod_one]
  rw [e, Nat.add_zero] at h2
  refine ⟨l, h1, ?_, h2⟩
  intro hl
  subst hl
  simp at h2
  omega
/-- A span of some length has a text of parts. -/
theorem items_textS (a : Int) (h0 : 0 ≤ a) (h1 : a < 9223372036854775807) : ∃ l : List Nat, itemsS (textS a) = some l ∧ l ≠ [] ∧ (l.sum : Int) = a := by
  unfold textS
  rw [if_neg (by omega)]
  by_cases h2 : a = 0
  · rw [if_pos h2]
    have := items_piece 0 [] rfl (by decide)
    rw [show Lib.decDigits 0 ++ [] = ([48] : Str) by rw [Lib.decDigits_one (by omega)]; rfl] at this
    exact ⟨_, this, by simp, by simp [h2]⟩
  · rw [if_neg h2, if_neg (by omega)]
    obtain ⟨l, k1, k2, k3⟩ := items_text a.toNat (by omega)
    exact ⟨l, k1, k2, by omega⟩
theorem trimS_pad (b s c : Str) (hb : b.all blkB = true) (hc : c.all blkB = true) : trimS (b ++ s ++ c) = trimS s := by
  have h1 := (gap_blanks hb).2.2
  have h2 := (gap_blanks hc).2.2
  have h3 : (gap_blanks (b := c.reverse) (by rw [List.all_reverse]; exact hc)).2.2 = (gap_blanks (b := c.reverse) (by rw [List.all_reverse]; exact hc)).2.2 := rfl
  have h4 := (gap_blanks (b := c.reverse) (by rw [List.all_reverse]; exact hc)).2.2
  unfold trimS
  rw [List.append_assoc, dw_append, if_pos h1, dw_append]
  by_cases hs : s.dropWhile blkB = []
  · rw [if_pos hs, hs, h2]
  · rw [if_neg hs, List.reverse_append, dw_append, if_pos h4]
theorem parse_pad (b s c : Str) (hb : b.all blkB = true) (hc : c.all blkB = true) : parseS (b ++ s ++ c) = parseS s := by
  unfold parseS
  rw [trimS_pad b s c hb hc]
theorem parse_text (a : Int) (h0 : 0 ≤ a) (h1 : a ≤ 9223372036854775807) : parseS (textS a) = (a, 0) := by
  by_cases h2 : a = 9223372036854775807
  · subst h2; decide
  · obtain ⟨l, k1, k2, k3⟩ := items_textS a h0 (by omega)
    rw [parse_items k1 k2, totS, if_pos (by omega), k3]
end Go.Proofs.YtmdnbpndhnjiaaaDoor.H

/- strings.ContainsAny of any bytes: two ASCII bytes to look for. -/
import Derived.Shelf.Small.Utf8
import Derived.Shelf.Strings.IndexAny
import Derived.Shelf.Strings.IndexAnyAll
import Derived.Laws.RangeAny
import Derived.Lib.OthersKept
namespace Go.Sh
open Go.Proofs Go.Shelf Go.RowKit Go.Lib Go
variable {P : Program} {ρ : Ren}
set_option maxHeartbeats 4000000
set_option maxRecDepth 1000000
set_option linter.unusedVariables false
set_option linter.unusedSimpArgs false
theorem encode_cases (r : Int) (h : 128 ≤ r) (hv : Utf8.valid r = true) : (∃ x y : UInt8, Utf8.encode r = ⟨#[x, y]⟩ ∧ 128 ≤ y.toNat) ∨ (3 ≤ (Utf8.encode r).size ∧ (Utf8.encode r).size ≤ 4) := by
  unfold Utf8.encode
  simp only [hv, if_true]
  rw [if_neg (by omega)]
  split
  · left
    refine ⟨_, _, rfl, ?_⟩
    simp only [UInt8.toNat_ofNat']
    omega
  · right
    split <;> simp [ByteArray.size]
theorem rune_invalid (L : Lays.n152 P ρ) (s : ByteArray) (r : Int) (w : World) (h0 : 128 ≤ r) (hf : (r == 65533) = false) (hv : Lib.validRune r = false) :
    Calls P (ρ.f 152) #[.string s, .int .i32 r] w fun e w' => e = .returned (.int .i64 (-1)) ∧ w' = w := by
  have t3 := L.t3; have a3 := L.a3; have z3 := L.z3; have v3 := L.v3
  have t4 := L.t4; have a4 := L.a4; have z4 := L.z4; have v4 := L.v4
  have t5 := L.t5; have a5 := L.a5; have z5 := L.z5; have v5 := L.v5
  have t9 := L.t9; have a9 := L.a9; have z9 := L.z9; have v9 := L.v9
  have t21 := L.t21; have a21 := L.a21; have z21 := L.z21; have v21 := L.v21
  have e119 : ∀ args w, (callFunc (ρ.f 119) args).run P w = .ok (.enter (ρ.f 119) args) w := enters_of L.f119 (by kernel_rfl) rfl
  have hlt : ¬ r < 128 := by omega
  go_enter L.f152, Body.n152_ntmps ρ
  go_wp2_with (go_at_fn (ρ.f 119); refine (Any.utf8_ValidRune { L with } _ _).mono ?_; rintro e w' ⟨rfl, hw⟩; rw [hw, hv])
  go_ret
  exact ⟨rfl, rfl⟩
theorem rune_two (L : Lays.n152 P ρ) (a b x y : UInt8) (r : Int) (w : World) (h0 : 128 ≤ r) (hf : (r == 65533) = false) (hv : Lib.validRune r = true) (he : Utf8.encode r = ⟨#[x, y]⟩) (hne : ((((⟨#[a, b]⟩ : ByteArray)[1]'(by simp [ByteArray.size])).toNat : Int) == (((⟨#[x, y]⟩ : ByteArray)[1]'(by simp [ByteArray.size])).toNat : Int)) = false) :
    Calls P (ρ.f 152) #[.string ⟨#[a, b]⟩, .int .i32 r] w fun e w' => e = .returned (.int .i64 (-1)) ∧ w'.heap = w.heap ∧ w'.os = w.os ∧ w'.tape = w.tape ∧ w'.output = w.output := by
  have t3 := L.t3; have a3 := L.a3; have z3 := L.z3; have v3 := L.v3
  have t4 := L.t4; have a4 := L.a4; have z4 := L.z4; have v4 := L.v4
  have t5 := L.t5; have a5 := L.a5; have z5 := L.z5; have v5 := L.v5
  have t9 := L.t9; have a9 := L.a9; have z9 := L.z9; have v9 := L.v9
  have t21 := L.t21; have a21 := L.a21; have z21 := L.z21; have v21 := L.v21
  have e119 : ∀ args w, (callFunc (ρ.f 119) args).run P w = .ok (.enter (ρ.f 119) args) w := enters_of L.f119 (by kernel_rfl) rfl
  have e137 : ∀ args w, (callFunc (ρ.f 137) args).run P w = .ok (.enter (ρ.f 137) args) w := enters_of L.f137 (by kernel_rfl) rfl
  have hlt : ¬ r < 128 := by omega
  go_enter L.f152, Body.n152_ntmps ρ
  go_wp2_with (go_at_fn (ρ.f 119); refine (Any.utf8_ValidRune { L with } _ _).mono ?_; rintro e w' ⟨rfl, hw⟩; rw [hw, hv])
  go_step3
  go_wp2
  go_loopg [9, 10, 11, 12] 0 (fun g v9 _ _ _ wx => v9 = .int .i64 1 ∧ wx = w)
  case atStart => exact ⟨rfl, rfl⟩
  case round =>
    obtain ⟨rfl, rfl⟩ := hrel
    go_wp2
    go_step3
    go_wp2
    have mixed := L.mixed
    go_region_o
    all_goals (go_wp2)
    all_goals (go_region_with_o (go_at_fn (ρ.f 137); refine (Any.strings_IndexByte { L with } _ _ _).mono ?_; rintro e w' ⟨rfl, hw⟩; rw [hw]))
    all_goals (go_wp2; rw [Exit.noGoto_ret]; simp only [Exit.inBlock, Exit.then]; rw [Exit.noGoto_ret]; simp only [Exit.inBlock]; go_ret; exact ⟨rfl, rfl, rfl, rfl, rfl⟩)
theorem rune_more (L : Lays.n152 P ρ) (a b : UInt8) (r : Int) (w : World) (h0 : 128 ≤ r) (hf : (r == 65533) = false) (hv : Lib.validRune r = true) (he : 3 ≤ (Utf8.encode r).size) (he4 : (Utf8.encode r).size ≤ 4) :
    Calls P (ρ.f 152) #[.string ⟨#[a, b]⟩, .int .i32 r] w fun e w' => e = .returned (.int .i64 (-1)) ∧ w' = w := by
  have t3 := L.t3; have a3 := L.a3; have z3 := L.z3; have v3 := L.v3
  have t4 := L.t4; have a4 := L.a4; have z4 := L.z4; have v4 := L.v4
  have t5 := L.t5; have a5 := L.a5; have z5 := L.z5; have v5 := L.v5
  have t9 := L.t9; have a9 := L.a9; have z9 := L.z9; have v9 := L.v9
  have t21 := L.t21; have a21 := L.a21; have z21 := L.z21; have v21 := L.v21
  have e119 : ∀ args w, (callFunc (ρ.f 119) args).run P w = .ok (.enter (ρ.f 119) args) w := enters_of L.f119 (by kernel_rfl) rfl
  have hlt : ¬ r < 128 := by omega
  go_enter L.f152, Body.n152_ntmps ρ
  go_wp2_with (go_at_fn (ρ.f 119); refine (Any.utf8_ValidRune { L with } _ _).mono ?_; rintro e w' ⟨rfl, hw⟩; rw [hw, hv])
  go_step3
  go_wp2
  go_loopg [9, 10, 11, 12] 0 (fun g v9 _ _ _ wx => (∃ n : Int, 2 ≤ n ∧ v9 = .int .i64 n) ∧ wx = w)
  case atStart => exact ⟨⟨_, by first | omega | (unfold wrap64; omega), rfl⟩, rfl⟩
  case round =>
    obtain ⟨⟨n, hn, rfl⟩, rfl⟩ := hrel
    have hlt2 : ¬ n < 2 := by omega
    go_wp2
    go_ret
    exact ⟨rfl, rfl⟩
theorem rune_error (L : Lays.n152 P ρ) (s : ByteArray) (hs : s.size < 4294967281) (ha : ∀ (j : Nat) b, s.data.toList[j]? = some b → b.toNat < 128) (w : World) :
    Calls P (ρ.f 152) #[.string s, .int .i32 65533] w fun e w' => e = .returned (.int .i64 (-1)) ∧ ∃ pos, w' = w.iter s pos := by
  have HA : Aside (∀ (j : Nat) b, s.data.toList[j]? = some b → b.toNat < 128) := ha
  clear ha
  have t3 := L.t3; have a3 := L.a3; have z3 := L.z3; have v3 := L.v3
  have t4 := L.t4; have a4 := L.a4; have z4 := L.z4; have v4 := L.v4
  have t5 := L.t5; have a5 := L.a5; have z5 := L.z5; have v5 := L.v5
  have t9 := L.t9; have a9 := L.a9; have z9 := L.z9; have v9 := L.v9
  have t21 := L.t21; have a21 := L.a21; have z21 := L.z21; have v21 := L.v21
  go_enter L.f152, Body.n152_ntmps ρ
  go_wp2
  go_loopg [5, 6] s.size (fun g _ _ wx => ∃ i : Nat, i + g = s.size ∧ wx = w.iter s i)
  case atStart => exact ⟨0, by omega, rfl⟩
  case round =>
    obtain ⟨i, hig, rfl⟩ := hrel
    cases gk with
    | zero =>
      obtain rfl : i = s.size := by omega
      have hnx := run_next_end (P := P) w s s.size
      go_wp2
      go_ret
      exact ⟨rfl, _, rfl⟩
    | succ g =>
      have hi : i < s.size := by omega
      obtain ⟨x, hx⟩ : ∃ x : UInt8, s[i]'hi = x := ⟨_, rfl⟩
      have hxl : s.data.toList[i]? = some x := by rw [← hx]; exact Lib.data_getElem? s i hi
      have hx128 : x.toNat < 128 := HA.out i x hxl
      have hnx := fun ty => run_next_ascii (P := P) w s i ty hi (by rw [hx]; exact hx128)
      rw [hx] at hnx
      have hne : ((x.toNat : Int) == 65533) = false := beq_eq_false_iff_ne.2 (by omega)
      clear hxl hx
      go_wp2
      go_roundg g
      case measure => omega
      case rel => exact ⟨i + 1, by omega, rfl⟩
/-- At a rune beyond ASCII, in two ASCII bytes: none. -/
theorem rune_high (L : Lays.n152 P ρ) (a b : UInt8) (ha : a.toNat < 128) (hb : b.toNat < 128) (r : Int) (w : World) (h0 : 128 ≤ r) :
    Calls P (ρ.f 152) #[.string ⟨#[a, b]⟩, .int .i32 r] w fun e w' => e = .returned (.int .i64 (-1)) ∧ Below w.heap.size w w' := by
  by_cases hf : r = 65533
  · subst hf
    refine (rune_error L ⟨#[a, b]⟩ (by simp [ByteArray.size]) (fun j c hc => by
      rcases j with _ | _ | j
      · simp at hc; subst hc; exact ha
      · simp at hc; subst hc; exact hb
      · simp at hc) w).mono ?_
    rintro e w' ⟨rfl, pos, rfl⟩
    exact ⟨rfl, (Below.refl _ _).alloc (Nat.le_refl _) _⟩
  · have hf' : (r == 65533) = false := beq_eq_false_iff_ne.2 hf
    cases hv : Lib.validRune r with
    | false =>
      refine (rune_invalid L _ r w h0 hf' hv).mono ?_
      rintro e w' ⟨rfl, rfl⟩
      exact ⟨rfl, Below.refl _ _⟩
    | true =>
      have hv' : Utf8.valid r = true := by
        unfold Lib.validRune at hv
        unfold Utf8.valid
        simp only [decide_eq_true_eq] at hv
        simp only [Bool.or_eq_true, Bool.and_eq_true, decide_eq_true_eq]
        omega
      rcases encode_cases r h0 hv' with ⟨x, y, he, hy⟩ | ⟨he, he4⟩
      · refine (rune_two L a b x y r w h0 hf' hv he ?_).mono ?_
        · show (((b.toNat : Int)) == (y.toNat : Int)) = false
          exact beq_eq_false_iff_ne.2 (by omega)
        · rintro e w' ⟨rfl, h1, h2, h3, h4⟩
          exact ⟨rfl, h2, h3, h4, by rw [h1]; exact Nat.le_refl _, fun k _ => by rw [h1]⟩
      · refine (rune_more L a b r w h0 hf' hv he he4).mono ?_
        rintro e w' ⟨rfl, rfl⟩
        exact ⟨rfl, Below.refl _ _⟩

/-- A rune beyond ASCII spans bytes beyond ASCII alone. -/
theorem decode_span (s : ByteArray) (i : Nat) (hi : i < s.size) (ha : 128 ≤ (s[i]'hi).toNat) : i + (Utf8.decode s i).2 ≤ s.size ∧ ∀ j, i ≤ j → j < i + (Utf8.decode s i).2 → ∀ b, s.data.toList[j]? = some b → 128 ≤ b.toNat := by
  have h0 : ∀ b, s.data.toList[i]? = some b → 128 ≤ b.toNat := fun b hb => by
    have := Lib.data_getElem? s i hi
    rw [this] at hb
    injection hb with hb
    rw [← hb]; exact ha
  have hk : ∀ k, (decide (i + k < s.size) && (s.get! (i + k)).toNat / 64 == 2) = true → i + k < s.size ∧ ∀ b, s.data.toList[i + k]? = some b → 128 ≤ b.toNat := fun k h => by
    simp only [Bool.and_eq_true, decide_eq_true_eq, beq_iff_eq] at h
    refine ⟨h.1, fun b hb => ?_⟩
    have h2 := get_at s (i + k) h.1
    rw [Nat.add_zero] at h2
    rw [h2] at h
    have h3 := Lib.data_getElem? s (i + k) h.1
    rw [h3] at hb
    injection hb with hb
    rw [← hb]
    omega
  have one : ∀ j, i ≤ j → j < i + 1 → ∀ b, s.data.toList[j]? = some b → 128 ≤ b.toNat := fun j h1 h2 => by
    have : j = i := by omega
    subst this; exact h0
  have hn : ¬ (s[i]'hi).toNat < 128 := by omega
  unfold Utf8.decode
  simp only [get_at s i hi, hn, if_false]
  split
  · rename_i h
    simp only [Bool.and_eq_true] at h
    have h1 := hk 1 (by simpa using h.2)
    split
    · refine ⟨h1.1, fun j j1 j2 => ?_⟩
      by_cases e : j = i
      · subst e; exact h0
      · have : j = i + 1 := by omega
        subst this; exact h1.2
    · exact ⟨by omega, one⟩
  · split
    · rename_i _ h
      simp only [Bool.and_eq_true] at h
      have h1 := hk 1 (by simpa using h.1.2)
      have h2 := hk 2 (by simpa using h.2)
      split
      · refine ⟨h2.1, fun j j1 j2 => ?_⟩
        by_cases e : j = i
        · subst e; exact h0
        · by_cases e1 : j = i + 1
          · subst e1; exact h1.2
          · have : j = i + 2 := by omega
            subst this; exact h2.2
      · exact ⟨by omega, one⟩
    · split
      · rename_i _ _ h
        simp only [Bool.and_eq_true] at h
        have h1 := hk 1 (by simpa using h.1.1.2)
        have h2 := hk 2 (by simpa using h.1.2)
        have h3 := hk 3 (by simpa using h.2)
        split
        · refine ⟨h3.1, fun j j1 j2 => ?_⟩
          by_cases e : j = i
          · subst e; exact h0
          · by_cases e1 : j = i + 1
            · subst e1; exact h1.2
            · by_cases e2 : j = i + 2
              · subst e2; exact h2.2
              · have : j = i + 3 := by omega
                subst this; exact h3.2
        · exact ⟨by omega, one⟩
      · exact ⟨by omega, one⟩
theorem NoAny_span {s chars : List UInt8} {i k : Nat} (h : Lib.NoAny s chars i) (hc : ∀ b ∈ chars, b.toNat < 128) (hs : ∀ j, i ≤ j → j < i + k → ∀ b, s[j]? = some b → 128 ≤ b.toNat) : Lib.NoAny s chars (i + k) := fun j b hj hb => by
  by_cases hji : j < i
  · exact h j b hji hb
  · have h1 := hs j (by omega) hj b hb
    cases hcon : chars.contains b with
    | false => rfl
    | true =>
      have := hc b (by simpa using hcon)
      omega
/-- strings.IndexAny of at most 8 bytes, any of them; two ASCII bytes to look for. -/
theorem indexAny_short2 (L : Lays.n153 P ρ) (s : ByteArray) (a b : UInt8) (ha : a.toNat < 128) (hb : b.toNat < 128) (w : World) (h8 : s.size ≤ 8) :
    Calls P (ρ.f 153) #[.string s, .string ⟨#[a, b]⟩] w fun e w' => e = .returned (.int .i64 (Lib.indexAny s.data.toList [a, b])) ∧ Below w.heap.size w w' := by
  have HA : Aside (∀ x ∈ [a, b], x.toNat < 128) := fun x hx => by
    simp only [List.mem_cons, List.not_mem_nil, or_false] at hx
    rcases hx with rfl | rfl
    · exact ha
    · exact hb
  have hemp : (⟨#[a, b]⟩ : ByteArray).toList.isEmpty = false := by rw [Lib.toList_data]; rfl
  have hn1 : (((⟨#[a, b]⟩ : ByteArray).size : Int) == 1) = false := rfl
  have h8z : decide ((8 : Int) < (s.size : Int)) = false := decide_eq_false (by omega)
  have t3 := L.t3; have a3 := L.a3; have z3 := L.z3; have v3 := L.v3
  have t4 := L.t4; have a4 := L.a4; have z4 := L.z4; have v4 := L.v4
  have t5 := L.t5; have a5 := L.a5; have z5 := L.z5; have v5 := L.v5
  have t9 := L.t9; have a9 := L.a9; have z9 := L.z9; have v9 := L.v9
  have t21 := L.t21; have a21 := L.a21; have z21 := L.z21; have v21 := L.v21
  have e152 : ∀ args w, (callFunc (ρ.f 152) args).run P w = .ok (.enter (ρ.f 152) args) w := Proofs.enters_of L.f152 (by kernel_rfl) rfl
  have e226 : ∀ args w, (callFunc (ρ.f 226) args).run P w = .ok (.enter (ρ.f 226) args) w := Proofs.enters_of L.f226 (by kernel_rfl) rfl
  go_enter L.f153, Body.n153_ntmps ρ
  go_wp2_with (go_at_fn (ρ.f 226); refine (Any.strings_shouldUseASCIISet { L with } _ _).mono ?_; rintro e w' ⟨rfl, hw⟩; rw [hw, h8z])
  go_loopg [9, 10] s.size (fun g _ _ wx => ∃ i : Nat, i + g = s.size ∧ wx.heap[w.heap.size]? = some (.stringIter s i) ∧ Aside (Below w.heap.size w wx) ∧ Aside (Lib.NoAny s.data.toList [a, b] i))
  case atStart => exact ⟨0, by omega, World.iter_heap _ _ _, (Below.refl _ _).alloc (Nat.le_refl _) _, Lib.NoAny.zero _ _⟩
  case round =>
    obtain ⟨i, hig, hit, HB, HN⟩ := hrel
    cases gk with
    | zero =>
      obtain rfl : i = s.size := by omega
      have hnx := fun ty => run_next_end_at (P := P) wr w.heap.size s s.size ty hit (by omega)
      clear hit
      go_wp2
      go_ret
      exact ⟨by rw [Lib.indexAny_none (by rw [← Lib.size_eq]; exact HN.out)]; rfl, HB.out⟩
    | succ g =>
      have hi : i < s.size := by omega
      obtain ⟨x, hx⟩ : ∃ x : UInt8, s[i]'hi = x := ⟨_, rfl⟩
      have hxl : s.data.toList[i]? = some x := by rw [← hx]; exact Lib.data_getElem? s i hi
      have hwl : w.heap.size < wr.heap.size := (Array.getElem?_eq_some_iff.1 hit).1
      by_cases hx128 : x.toNat < 128
      · have hnx := fun ty => run_next_ascii_at (P := P) wr w.heap.size s i ty hit hi (by rw [hx]; exact hx128)
        rw [hx] at hnx
        have HI : Aside ((wr.iterAt w.heap.size s (i + 1)).heap[w.heap.size]? = some (.stringIter s (i + 1))) := iterAt_heap _ _ _ _ _ hit
        have HB2 : Aside (Below w.heap.size w (wr.iterAt w.heap.size s (i + 1))) := below_iterAt HB.out (Nat.le_refl _) _ _
        have Hx : Aside (s.data.toList[i]? = some x) := hxl
        clear hxl hx hit HB hwl
        have hcon := Lib.contains_iff_indexByte [a, b] x
        have hback : ((x.toNat : Int)).toNat.toUInt8 = x := by simp
        cases hin : [a, b].contains x
        · rw [hin] at hcon
          have hlt : ¬ ((0 : Int) ≤ Lib.indexByte [a, b] x) := of_decide_eq_false hcon.symm
          clear hcon
          go_wp2_with (go_at_fn (ρ.f 152); refine (Any.strings_IndexRune_ascii { L with } _ _ _ (by omega) (by omega)).mono ?_; rintro e w' ⟨rfl, hw⟩; rw [hw, hback])
          go_roundg g
          case measure => omega
          case rel => exact ⟨i + 1, by omega, HI.out, HB2.out, HN.out.succ Hx.out hin⟩
        · rw [hin] at hcon
          have hge : (0 : Int) ≤ Lib.indexByte [a, b] x := of_decide_eq_true hcon.symm
          clear hcon
          go_wp2_with (go_at_fn (ρ.f 152); refine (Any.strings_IndexRune_ascii { L with } _ _ _ (by omega) (by omega)).mono ?_; rintro e w' ⟨rfl, hw⟩; rw [hw, hback])
          go_ret
          exact ⟨by rw [Lib.indexAny_hit HN.out Hx.out hin]; rfl, HB2.out⟩
      · obtain ⟨hsp1, hsp2⟩ := decode_span s i hi (by rw [hx]; omega)
        obtain ⟨hd1, hd2⟩ := decode_high s i hi (by rw [hx]; omega)
        have hnx := fun ty => run_next_any_at (P := P) wr w.heap.size s i ty hit hi
        have hit2 := iterAt_heap wr w.heap.size s i (i + (Utf8.decode s i).2) hit
        have hb2 := below_iterAt HB.out (Nat.le_refl _) s (i + (Utf8.decode s i).2)
        have hno2 := NoAny_span HN.out HA.out hsp2
        have hwl2 : w.heap.size < (wr.iterAt w.heap.size s (i + (Utf8.decode s i).2)).heap.size := by rw [iterAt_size]; exact hwl
        have hrune := rune_high { L with } a b ha hb ((Utf8.decode s i).1 : Int) (wr.iterAt w.heap.size s (i + (Utf8.decode s i).2)) (by omega)
        have hm : i + (Utf8.decode s i).2 + (g + 1 - (Utf8.decode s i).2) = s.size := by omega
        have hg' : g + 1 - (Utf8.decode s i).2 < g + 1 := by omega
        clear hsp1 hsp2 hd1 hd2 hxl hx hit HB HN hwl hig hi hx128
        generalize Utf8.decode s i = d at hnx hit2 hb2 hno2 hwl2 hrune hm hg'
        have HP : Aside ((i + d.2 + (g + 1 - d.2) = s.size) ∧ g + 1 - d.2 < g + 1 ∧ Lib.NoAny s.data.toList [a, b] (i + d.2)) := ⟨hm, hg', hno2⟩
        generalize hW : wr.iterAt w.heap.size s (i + d.2) = W at hnx hit2 hb2 hwl2 hrune
        have HW : Aside (W.heap[w.heap.size]? = some (.stringIter s (i + d.2)) ∧ Below w.heap.size w W ∧ w.heap.size < W.heap.size) := ⟨hit2, hb2, hwl2⟩
        clear hit2 hb2 hwl2 hm hg' hno2 hW
        go_wp2_with (go_at_fn (ρ.f 152); refine hrune.mono ?_; rintro e w' ⟨rfl, hw⟩)
        go_roundg (g + 1 - d.2)
        case measure => exact HP.out.2.1
        case rel => exact ⟨i + d.2, HP.out.1, by rw [hw.block _ HW.out.2.2]; exact HW.out.1, HW.out.2.1.trans ⟨hw.os, hw.tape, hw.output, hw.size, fun k hk => hw.block k (by have := HW.out.2.2; omega)⟩, HP.out.2.2⟩
/-- strings.ContainsAny of any bytes; two ASCII bytes to look for. -/
theorem containsAny_two_of (L : Lays.n150 P ρ) (h116 : (P.info? (ρ.t 116)).map (fun i => (i.zero, i.size)) = some (some (.agg (Array.replicate 256 (.bool false))), 256)) (s chars : ByteArray) (w : World) (hs : s.size < 4294967281) (h2 : chars.size = 2) (hac : ∀ (j : Nat) b, chars.data.toList[j]? = some b → b.toNat < 128) :
    Calls P (ρ.f 150) #[.string s, .string chars] w fun e w' => e = .returned (.bool (Lib.containsAny s.data.toList chars.data.toList)) ∧ Below w.heap.size w w' := by
  have c : Calls P (ρ.f 153) #[.string s, .string chars] w fun e w' => e = .returned (.int .i64 (Lib.indexAny s.data.toList chars.data.toList)) ∧ Below w.heap.size w w' := by
    by_cases h8 : s.size ≤ 8
    · obtain ⟨a, b, rfl⟩ : ∃ a b, chars = ⟨#[a, b]⟩ := by
        obtain ⟨⟨l⟩⟩ := chars
        match l, h2 with
        | [a, b], _ => exact ⟨a, b, rfl⟩
        | [], h => simp [ByteArray.size] at h
        | [_], h => simp [ByteArray.size] at h
        | _ :: _ :: _ :: _, h => simp [ByteArray.size] at h
      exact indexAny_short2 { L with } s a b (hac 0 a rfl) (hac 1 b rfl) w h8
    · refine (Any.strings_IndexAny_long { L with } (zero_of_info h116).1 (zero_of_info h116).2 s chars w (by omega) (by omega) hs (by omega) hac).mono fun e w' ⟨h1, h2⟩ => ⟨h1, ?_⟩
      rw [h2]
      exact ((Below.refl _ _).alloc (Nat.le_refl _) _).alloc (by simp) _
  have t3 := L.t3; have a3 := L.a3; have z3 := L.z3; have v3 := L.v3
  have t4 := L.t4; have a4 := L.a4; have z4 := L.z4; have v4 := L.v4
  have t9 := L.t9; have a9 := L.a9; have z9 := L.z9; have v9 := L.v9
  have e153 : ∀ args w, (callFunc (ρ.f 153) args).run P w = .ok (.enter (ρ.f 153) args) w := Proofs.enters_of L.f153 (by kernel_rfl) rfl
  go_enter L.f150, Body.n150_ntmps ρ
  go_wp2_with (go_at_fn (ρ.f 153); refine c.mono ?_; rintro e w' ⟨rfl, hw⟩)
  go_ret
  exact ⟨rfl, hw⟩
end Go.Sh

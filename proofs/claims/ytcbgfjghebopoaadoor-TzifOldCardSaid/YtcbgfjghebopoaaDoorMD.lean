import Derived.Test.YtcbgfjghebopoaaDoorMC
import Derived.Test.YtcbgfjghebopoaaDoorT34
/- Chapter 06: TzifOld. -/
namespace Go.Proofs.YtcbgfjghebopoaaDoor.H
open Go.Sh Go.RowKit
set_option linter.unusedSimpArgs false
set_option linter.unusedVariables false

theorem parse_first (n : Nat) (hn : 4001 ≤ n) (ts : List Ty) (ti ix : List Int) (foot : Str) (hR : RightS ts ti ix foot = true) (hti : ∀ x ∈ ti, -9223372036854775808 ≤ x ∧ x ≤ 9223372036854775807) (y : List Int) (hy : y.length = 7) :
    tzif_Parse_f n (headS [0, 0, 0, 0, 1, 1] ++ (y ++ (headS [0, 0, 0, (ti.length : Int), (ts.length : Int), (sumL ts : Int)] ++ (bodyS ts ti ix ++ (10 :: (intsOf foot ++ [10])))))) = some (ts.map cT, ti, ix, foot, 0) := by
  obtain ⟨h1, h2, h3, h4, h5, h6, h7, h8⟩ := right_parts hR
  have hf : foot.length ≤ 100 := by
    simp only [textS, Bool.and_eq_true, decide_eq_true_eq] at h5
    omega
  refine parse_ok n hn _ ts ti ix foot ?_ hR
  have hl : (10 :: (intsOf foot ++ [10])).length = foot.length + 2 := by simp [intsOf_length]
  have hb : tailBad (10 :: (intsOf foot ++ [10])) = false := by
    unfold tailBad
    rw [decide_eq_false (by omega), hl]
    have e2 : (10 :: (intsOf foot ++ [10])).getD (foot.length + 2 - 1) 0 = 10 := by
      rw [show foot.length + 2 - 1 = foot.length + 1 by omega, List.getD_cons_succ, List.getD_eq_getElem?_getD, List.getElem?_append_right (by rw [intsOf_length]; omega), intsOf_length]
      simp
    rw [e2]
    rfl
  have e3 : ((10 :: (intsOf foot ++ [10])).take ((10 :: (intsOf foot ++ [10])).length - 1)).drop 1 = intsOf foot := by
    rw [hl, show foot.length + 2 - 1 = foot.length + 1 by omega, List.take_succ_cons, List.drop_succ_cons, List.drop_zero, ← intsOf_length foot, List.take_left']
    rfl
  have e7 : takeS 7 (y ++ (headS [0, 0, 0, (ti.length : Int), (ts.length : Int), (sumL ts : Int)] ++ (bodyS ts ti ix ++ (10 :: (intsOf foot ++ [10]))))) false = (y, headS [0, 0, 0, (ti.length : Int), (ts.length : Int), (sumL ts : Int)] ++ (bodyS ts ti ix ++ (10 :: (intsOf foot ++ [10]))), false) := by
    have := takeS_app y (headS [0, 0, 0, (ti.length : Int), (ts.length : Int), (sumL ts : Int)] ++ (bodyS ts ti ix ++ (10 :: (intsOf foot ++ [10])))) false
    rw [hy] at this
    exact this
  have e0 : bodyS ts ti ix ++ (10 :: (intsOf foot ++ [10])) = ti.flatMap (be 8) ++ (ix.flatMap (be 1) ++ (typesS 0 ts ++ (lettersS ts ++ (10 :: (intsOf foot ++ [10]))))) := by simp [bodyS]
  have hblk := block_2_ok n hn 50 ts ti ix (10 :: (intsOf foot ++ [10])) h1 h2 h3 h4 h6 h8 hti (ix_range hR)
  rw [← e0] at hblk
  rw [file_tail n (by omega) (by omega) (head0 _) e7 (head1 _ _ _ h3 h2 h8 _) hblk, hb, e3, strOf_intsOf]
  rfl
theorem parse_old (n : Nat) (hn : 4001 ≤ n) (ts : List Ty) (ti ix : List Int) (foot : Str) (hR : RightS ts ti ix foot = true) (hR0 : RightS ts ti ix [] = true) (hti : ∀ x ∈ ti, -2147483648 ≤ x ∧ x ≤ 2147483647) :
    tzif_Parse_f n (headV 0 [0, 0, 0, (ti.length : Int), (ts.length : Int), (sumL ts : Int)] ++ (ti.flatMap (be 4) ++ (ix.flatMap (be 1) ++ (typesS 0 ts ++ lettersS ts)))) = some (ts.map cT, ti, ix, [], 0) := by
  obtain ⟨h1, h2, h3, h4, h5, h6, h7, h8⟩ := right_parts hR
  refine parse_ok n hn _ ts ti ix [] ?_ hR0
  have hh := headR_ok 0 0 0 0 (ti.length : Int) (ts.length : Int) (sumL ts : Int) (.inl rfl) (fun x hx => by
    simp only [List.mem_cons, List.not_mem_nil, or_false] at hx
    rcases hx with rfl | rfl | rfl | rfl | rfl | rfl <;> omega) (ti.flatMap (be 4) ++ (ix.flatMap (be 1) ++ (typesS 0 ts ++ lettersS ts)))
  have hblk := block_ok n hn 0 ts ti ix [] h1 h2 h3 h4 h6 h8 hti (ix_range hR)
  rw [List.append_nil] at hblk
  unfold tzif_reader_file_f tzif_reader_file_b
  rw [head_val' n (by omega), hh]
  simp only [Option.bind_some]
  rw [show ((0 : Int) == 0) = true by decide, cond_true, hblk]
  rfl
theorem be4_eq (v : Int) : be 4 v = [IntKind.u8.wrap (Int.fdiv v (2 ^ 24)), IntKind.u8.wrap (Int.fdiv v (2 ^ 16)), IntKind.u8.wrap (Int.fdiv v (2 ^ 8)), IntKind.u8.wrap v] := by
  simp [be]
theorem old_loop (n : Nat) (hw : clepsydralaw06_works_f n = some true) (b : List Int) (h0 : List (List AV)) (ti ix : List Int) (h3 : Str) (hti : ti.length ≤ 4000) : ∀ (r : List Int) (i m : Nat) (row : List Int), ti.drop i = r → r.length < m → 1 ≤ row.length → row.length + 4 * r.length ≤ 100000 →
    (∃ row', clepsydralaw06_TzifOld_l0 n m b row.length row.length (i : Int) h0 ti ix h3 row = some (Sum.inl (true, h0, ti, ix, h3, row'))) ∨
    ((∀ x ∈ r, -2147483648 ≤ x ∧ x ≤ 2147483647) ∧ clepsydralaw06_TzifOld_l0 n m b row.length row.length (i : Int) h0 ti ix h3 row = some (Sum.inr (row.length + 4 * r.length, row.length + 4 * r.length, h0, ti, ix, h3, row ++ r.flatMap (be 4))))
  | [], i, m + 1, row, hd, _, _, _ => by
    have hi := drop_nil hd
    right
    refine ⟨by simp, ?_⟩
    simp only [clepsydralaw06_TzifOld_l0, clepsydralaw06_TzifOld_l0_b]
    rw [cond_neg (by omega)]
    simp
  | c :: r, i, m + 1, row, hd, hm, h1, hl => by
    obtain ⟨k1, k2, k3⟩ := drop_cons hd
    simp only [List.length_cons] at hm hl
    have ej : clepsydralaw06_TzifOld_j0 n c h0 ti ix h3 row = some (decide (c < -2147483648) || decide (c ≥ 2147483648), h0, ti, ix, h3, row) := by
      unfold clepsydralaw06_TzifOld_j0 clepsydralaw06_TzifOld_j0_b
      by_cases q : c < -2147483648
      · rw [cond_pos q, decide_eq_true q]; rfl
      · rw [cond_neg q, decide_eq_false q]; rfl
    simp only [clepsydralaw06_TzifOld_l0, clepsydralaw06_TzifOld_l0_b]
    rw [cond_pos (by omega), cond_pos (by omega), Int.toNat_natCast, k1, wrap1 _ (by omega)]
    simp only [Option.bind_some, ej, hw]
    by_cases hc : c < -2147483648 ∨ c ≥ 2147483648
    · have : (decide (c < -2147483648) || decide (c ≥ 2147483648)) = true := by
        rcases hc with h | h <;> simp [h]
      rw [this]
      exact .inl ⟨_, rfl⟩
    · have e0 : (decide (c < -2147483648) || decide (c ≥ 2147483648)) = false := by
        rw [decide_eq_false (by omega), decide_eq_false (by omega)]; rfl
      rw [e0, cond_false]
      have e1 : (decide True && decide (0 < row.length + ([IntKind.u8.wrap (Int.fdiv c (2 ^ 24)), IntKind.u8.wrap (Int.fdiv c (2 ^ 16)), IntKind.u8.wrap (Int.fdiv c (2 ^ 8)), IntKind.u8.wrap c] : List Int).length) && decide ((row.length + ([IntKind.u8.wrap (Int.fdiv c (2 ^ 24)), IntKind.u8.wrap (Int.fdiv c (2 ^ 16)), IntKind.u8.wrap (Int.fdiv c (2 ^ 8)), IntKind.u8.wrap c] : List Int).length) * 1 ≤ 140737488355328)) = true := by
        simp only [decide_true, Bool.true_and, Bool.and_eq_true, decide_eq_true_eq, List.length_cons, List.length_nil]; omega
      rw [e1, cond_true, List.take_length, ← be4_eq]
      have e2 : row.length + (be 4 c).length = (row ++ be 4 c).length := by simp
      rw [e2]
      have hl2 : (row ++ be 4 c).length = row.length + 4 := by rw [List.length_append, be_len]
      rcases old_loop n hw b h0 ti ix h3 hti r (i + 1) m (row ++ be 4 c) k2 (by omega) (by omega) (by omega) with ⟨row', h⟩ | ⟨hr, h⟩
      · exact .inl ⟨row', h⟩
      · refine .inr ⟨fun x hx => ?_, ?_⟩
        · rcases List.mem_cons.1 hx with rfl | hx
          · omega
          · exact hr x hx
        · rw [h, hl2]
          simp only [List.length_cons, List.flatMap_cons, List.append_assoc]
          rw [show row.length + 4 + 4 * r.length = row.length + 4 * (r.length + 1) by omega]
theorem right_nofoot {ts : List Ty} {ti ix : List Int} {foot : Str} (h : RightS ts ti ix foot = true) : RightS ts ti ix [] = true := by
  obtain ⟨h1, h2, h3, h4, h5, h6, h7, h8⟩ := right_parts h
  simp only [RightS, Bool.and_eq_true, decide_eq_true_eq]
  exact ⟨⟨⟨⟨⟨⟨⟨h1, h2⟩, h3⟩, h4⟩, rfl⟩, h6⟩, h7⟩, h8⟩
theorem TzifOld_law (m : Nat) (ts : List Ty) (ti ix : List Int) (foot : Str) (at_ by_ : Int) (hti : ∀ x ∈ ti, -9223372036854775808 ≤ x ∧ x ≤ 9223372036854775807) (hc : 0 ≤ at_ ∧ at_ ≤ 65535) : clepsydralaw06_TzifOld_f (m + 5000) (ts.map cT) ti ix foot at_ by_ = some true := by
  have hw := works_val m
  have hf : clepsydralaw06_few_f (m + 5000) (ts.map cT) ti ix foot 300 = some (fewS ts ti ix foot 300) := few_val _ ts ti ix foot 300
  unfold clepsydralaw06_TzifOld_f clepsydralaw06_TzifOld_b clepsydralaw06_TzifOld_j3 clepsydralaw06_TzifOld_j3_b
  rw [hf]
  simp only [Option.bind_some]
  cases c0 : fewS ts ti ix foot 300 with
  | false => simp [hw]
  | true =>
  have d0 := c0
  simp only [fewS, Bool.and_eq_true, decide_eq_true_eq] at d0
  simp only [Bool.not_true, cond_false, right_val (m + 5000) (by omega), Option.bind_some]
  cases hR : RightS ts ti ix foot with
  | false => simp [hw]
  | true =>
  obtain ⟨h1, h2, h3, h4, h5, h6, h7, h8⟩ := right_parts hR
  obtain ⟨l1, l2⟩ := put_length hR
  simp only [Bool.not_true, cond_false, put_val (m + 5000) (by omega), hR, if_true, Option.bind_some]
  have hj2 : clepsydralaw06_TzifOld_j2 (m + 5000) (putS ts ti ix foot) 0 (ts.map cT) ti ix foot = some (false, ts.map cT, ti, ix, foot) := by
    unfold clepsydralaw06_TzifOld_j2 clepsydralaw06_TzifOld_j2_b
    rw [show ((0 : Int) != 0) = false by decide, cond_false, decide_eq_false (by omega)]
  rw [hj2]
  simp only [Option.bind_some, cond_false]
  -- the first block
  obtain ⟨k, hk⟩ : ∃ k : Nat, Int.tmod at_ 7 = (k : Int) ∧ k < 7 := by
    rw [Int.tmod_eq_emod_of_nonneg hc.1]
    exact ⟨(at_ % 7).toNat, by omega, by omega⟩
  have l44 : (headS [0, 0, 0, 0, 1, 1]).length = 44 := by rw [headS_len]; rfl
  have lh1 : (headS [0, 0, 0, (ti.length : Int), (ts.length : Int), (sumL ts : Int)]).length = 44 := by rw [headS_len]; rfl
  have hput : putS ts ti ix foot = headS [0, 0, 0, 0, 1, 1] ++ (List.replicate 7 0 ++ (headS [0, 0, 0, (ti.length : Int), (ts.length : Int), (sumL ts : Int)] ++ (bodyS ts ti ix ++ (10 :: (intsOf foot ++ [10]))))) := by rw [put_split]; simp only [aheadS, List.append_assoc]
  have hset : (putS ts ti ix foot).set (44 + k) by_ = headS [0, 0, 0, 0, 1, 1] ++ ((List.replicate 7 0).set k by_ ++ (headS [0, 0, 0, (ti.length : Int), (ts.length : Int), (sumL ts : Int)] ++ (bodyS ts ti ix ++ (10 :: (intsOf foot ++ [10]))))) := by
    rw [hput, List.set_append_right _ _ (by omega), l44, show 44 + k - 44 = k by omega, List.set_append_left _ _ (by simp; omega)]
  have hu : IntKind.u16.wrap ((44 : Int) + Int.tmod at_ 7) = ((44 + k : Nat) : Int) := by rw [hk.1, IntKind.wrap_u16]; omega
  have hne : (!(putS ts ti ix foot).isEmpty) = true := by
    cases hp : putS ts ti ix foot with
    | nil => rw [hp] at l1; simp at l1
    | cons a b => rfl
  have hp1 := parse_first (m + 5000) (by omega) ts ti ix foot hR hti ((List.replicate 7 0).set k by_) (by simp)
  rw [← hset] at hp1
  rw [hne, cond_true, cond_pos (by omega), hu, cond_pos (by omega), cond_pos (by omega), Int.toNat_natCast, Nat.mul_one, cond_pos (by omega), cond_pos (by simp), List.take_of_length_le (by simp), hp1]
  simp only [Option.bind_some]
  have hj1 : clepsydralaw06_TzifOld_j1 (m + 5000) 0 (ts.map cT) ti ix foot (ts.map cT) ti ix foot = some (false, ts.map cT, ti, ix, foot, ts.map cT, ti, ix, foot) := by
    unfold clepsydralaw06_TzifOld_j1 clepsydralaw06_TzifOld_j1_b
    rw [show ((0 : Int) != 0) = false by decide, cond_false, same_val _ ts ti ix foot ts ti ix foot (by omega) (by omega) (by omega) (by omega) (by omega) (by omega), same_self]
    rfl
  rw [hj1]
  simp only [Option.bind_some, cond_false]
  -- the file of version 0
  have hcut : ((putS ts ti ix foot).take 95).drop 51 = headS [0, 0, 0, (ti.length : Int), (ts.length : Int), (sumL ts : Int)] := by
    rw [put_split, List.take_append, ahead_len, Nat.sub_self, List.take_zero, List.append_nil, List.take_of_length_le (by rw [ahead_len]; omega)]
    unfold aheadS
    rw [List.drop_append, l44, List.drop_of_length_le (by omega), List.nil_append, show 51 - 44 = 7 from rfl, List.drop_append, List.length_replicate, List.drop_of_length_le (by simp)]
    rfl
  have hold : (headS [0, 0, 0, (ti.length : Int), (ts.length : Int), (sumL ts : Int)]).set 4 0 = headV 0 [0, 0, 0, (ti.length : Int), (ts.length : Int), (sumL ts : Int)] := by
    unfold headS headV
    simp [be]
    rfl
  have hl44 : (headV 0 [0, 0, 0, (ti.length : Int), (ts.length : Int), (sumL ts : Int)]).length = 44 := by rw [← hold, List.length_set, lh1]
  have hne2 : (!(headS [0, 0, 0, (ti.length : Int), (ts.length : Int), (sumL ts : Int)]).isEmpty) = true := by
    cases hp : headS [0, 0, 0, (ti.length : Int), (ts.length : Int), (sumL ts : Int)] with
    | nil => rw [hp] at lh1; simp at lh1
    | cons a b => rfl
  rw [hcut, cond_pos (by omega), cond_pos (by omega), hne2, cond_true, cond_pos (by omega), cond_pos (by omega), cond_pos (by rw [lh1]; decide), show Int.toNat 4 * 1 = 4 from rfl, hold]
  have hloop := old_loop (m + 5000) hw (putS ts ti ix foot) (ts.map cT) ti ix foot h3 ti 0 (m + 5000) (headV 0 [0, 0, 0, (ti.length : Int), (ts.length : Int), (sumL ts : Int)]) (by simp) (by omega) (by omega) (by omega)
  rw [hl44] at hloop
  simp only [Int.natCast_zero] at hloop
  rw [lh1]
  rcases hloop with ⟨row', h⟩ | ⟨hr, h⟩
  · rw [h]; rfl
  · rw [h]
    have hbl := body_len ts ti ix h4
    have hpl : (putS ts ti ix foot).length = 95 + ((bodyS ts ti ix).length + (foot.length + 2)) := by
      rw [put_split, List.length_append, List.length_append, ahead_len]
      simp [intsOf_length]
    have hf : foot.length ≤ 100 := by
      simp only [textS, Bool.and_eq_true, decide_eq_true_eq] at h5
      omega
    have hbody : ((putS ts ti ix foot).take (95 + (bodyS ts ti ix).length)).drop (95 + 8 * ti.length) = ix.flatMap (be 1) ++ (typesS 0 ts ++ lettersS ts) := by
      rw [put_split, List.take_append, ahead_len, List.take_of_length_le (by rw [ahead_len]; omega), show 95 + (bodyS ts ti ix).length - 95 = (bodyS ts ti ix).length by omega, List.take_append, List.take_of_length_le (Nat.le_refl _), Nat.sub_self, List.take_zero, List.append_nil, List.drop_append, ahead_len, List.drop_of_length_le (by rw [ahead_len]; omega), List.nil_append, show 95 + 8 * ti.length - 95 = 8 * ti.length by omega]
      unfold bodyS
      rw [List.drop_append, be4s_len, List.drop_of_length_le (by rw [be4s_len]; omega), List.nil_append, Nat.sub_self, List.drop_zero]
    have hB : (ix.flatMap (be 1) ++ (typesS 0 ts ++ lettersS ts)).length ≤ 10000 := by
      simp only [List.length_append, be4s_len, types_len, letters_len]; omega
    simp only [Option.bind_some, Sum.elim_inr]
    have w1 : IntKind.i64.wrap (IntKind.i64.wrap (((putS ts ti ix foot).length : Int) - (foot.length : Int)) - 2) = ((95 + (bodyS ts ti ix).length : Nat) : Int) := by
      rw [wi (((putS ts ti ix foot).length : Int) - (foot.length : Int)) (by omega) (by omega), wi _ (by omega) (by omega)]; omega
    have w2 : IntKind.i64.wrap ((95 : Int) + IntKind.i64.wrap ((8 : Int) * (ti.length : Int))) = ((95 + 8 * ti.length : Nat) : Int) := by
      rw [wi ((8 : Int) * (ti.length : Int)) (by omega) (by omega), wi _ (by omega) (by omega)]; omega
    simp only [w1, w2, Int.toNat_natCast, hbody]
    have hlr : (headV 0 [0, 0, 0, (ti.length : Int), (ts.length : Int), (sumL ts : Int)] ++ ti.flatMap (be 4)).length = 44 + 4 * ti.length := by rw [List.length_append, hl44, be4s_len]
    have htk : (headV 0 [0, 0, 0, (ti.length : Int), (ts.length : Int), (sumL ts : Int)] ++ ti.flatMap (be 4)).take (44 + 4 * ti.length) = headV 0 [0, 0, 0, (ti.length : Int), (ts.length : Int), (sumL ts : Int)] ++ ti.flatMap (be 4) := List.take_of_length_le (by omega)
    rw [cond_pos (by omega), cond_pos (by omega), cond_pos (by omega), cond_pos (by omega), htk, hlr]
    have e1 : (decide True && decide (0 < 44 + 4 * ti.length + (ix.flatMap (be 1) ++ (typesS 0 ts ++ lettersS ts)).length) && decide ((44 + 4 * ti.length + (ix.flatMap (be 1) ++ (typesS 0 ts ++ lettersS ts)).length) * 1 ≤ 140737488355328)) = true := by
      simp only [decide_true, Bool.true_and, Bool.and_eq_true, decide_eq_true_eq]; omega
    simp only [show (44 + 4 * ti.length = 44 + 4 * ti.length) = True from eq_self _]
    rw [e1, cond_true, cond_pos (by have := hlr; simp only [List.length_append] at this ⊢; omega), List.take_of_length_le (by have := hlr; simp only [List.length_append] at this ⊢; omega), List.append_assoc, parse_old (m + 5000) (by omega) ts ti ix foot hR (right_nofoot hR) hr]
    simp only [Option.bind_some]
    rw [show ((0 : Int) == 0) = true by decide, cond_true, same_val _ ts ti ix [] ts ti ix [] (by omega) (by omega) (by omega) (by omega) (by omega) (by omega), same_self]
    simp [hw]
theorem TzifOld_row {els : List (List AV)} {ti ix : List Int} {foot : Str} {at_ by_ : Int} (h0 : ∀ e ∈ els, LD.sats [.int .i64, .bool, .str] e) (h1 : ∀ n ∈ ti, (Lit.int .i64 n).wf = true) (h2 : (Lit.int .u16 at_).wf = true) : ∃ n, clepsydralaw06_TzifOld_f n els ti ix foot at_ by_ = some true := by
  obtain ⟨ts, rfl, _⟩ := open_types h0
  refine ⟨0 + 5000, TzifOld_law 0 ts ti ix foot at_ by_ (fun x hx => wf_i64 (h1 x hx)) ?_⟩
  simp only [Lit.wf, Bool.and_eq_true, decide_eq_true_eq] at h2
  exact h2
end Go.Proofs.YtcbgfjghebopoaaDoor.H

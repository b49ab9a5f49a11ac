/- Chapter 06: the file of a zone (the program's way). -/
import Derived.Test.YtcbgfjghebopoaaDoorU2
namespace Go.Proofs.YtcbgfjghebopoaaDoor.H
open Go.Sh Go.RowKit
set_option linter.unusedSimpArgs false
set_option linter.unusedVariables false

/-- So many bytes of a number, the highest first. -/
def be : Nat → Int → List Int
  | 0, _ => []
  | k + 1, v => IntKind.u8.wrap (Int.fdiv v (2 ^ (8 * k))) :: be k v
theorem be_len : ∀ (k : Nat) (v : Int), (be k v).length = k
  | 0, _ => rfl
  | k + 1, v => by simp [be, be_len k v]
theorem number_l0 (n : Nat) (v : Int) : ∀ (k m : Nat) (h : List Int), k ≤ 8 → k < m → h.length + k ≤ 100000 → tzif_writer_number_l0 n m v ((k : Int) - 1) h = some (h ++ be k v)
  | 0, m + 1, h, _, _, _ => by
    simp only [tzif_writer_number_l0, tzif_writer_number_l0_b]
    rw [cond_neg (by omega)]
    simp [be]
  | k + 1, m + 1, h, hk, hm, hl => by
    simp only [tzif_writer_number_l0, tzif_writer_number_l0_b]
    have e : (((k + 1 : Nat) : Int) - 1) = (k : Int) := by omega
    rw [e, cond_pos (by omega), wi ((8 : Int) * (k : Int)) (by omega) (by omega), cond_neg (by omega), cond_pos (by omega), wi _ (by omega) (by omega), show (((8 : Int) * (k : Int)).toNat) = 8 * k by omega, Nat.min_eq_left (by omega), number_l0 n v k m _ (by omega) (by omega) (by simp; omega)]
    simp [be]
theorem number_val (n : Nat) (hn : 9 ≤ n) (v : Int) (k : Nat) (hk : k ≤ 8) (h : List Int) (hl : h.length + k ≤ 100000) : tzif_writer_number_f n v (k : Int) h = some (h ++ be k v) := by
  unfold tzif_writer_number_f tzif_writer_number_b
  rw [wi _ (by omega) (by omega), number_l0 n v k n h hk (by omega) hl]
  rfl
/-- A head with these counts. -/
def headS (cs : List Int) : List Int := [84, 90, 105, 102, 50] ++ List.replicate 15 0 ++ cs.flatMap (be 4)
theorem be4s_len : ∀ (k : Nat) (cs : List Int), (cs.flatMap (be k)).length = k * cs.length
  | k, [] => by simp
  | k, c :: cs => by simp only [List.flatMap_cons, List.length_append, be_len, be4s_len k cs, List.length_cons]; rw [Nat.mul_add]; omega
theorem head_l0 (n : Nat) (hn : 9 ≤ n) (cs : List Int) (hcs : cs.length ≤ 6) (a0 a1 a2 a3 a4 a5 a6 : Int) : ∀ (r : List Int) (i m : Nat) (h : List Int), cs.drop i = r → r.length < m → h.length + 4 * r.length ≤ 100000 →
    tzif_writer_head_l0 n m cs (cs.length : Int) (i : Int) h a0 a1 a2 a3 a4 a5 a6 = some (h ++ r.flatMap (be 4), a0, a1, a2, a3, a4, a5, a6)
  | [], i, m + 1, h, hd, _, _ => by
    have hi := drop_nil hd
    simp only [tzif_writer_head_l0, tzif_writer_head_l0_b]
    rw [cond_neg (by omega)]
    simp
  | c :: r, i, m + 1, h, hd, hm, hl => by
    obtain ⟨k1, k2, k3⟩ := drop_cons hd
    simp only [List.length_cons] at hm hl
    have e4 : tzif_writer_number_f n c 4 h = some (h ++ be 4 c) := number_val n hn c 4 (by omega) h (by omega)
    simp only [tzif_writer_head_l0, tzif_writer_head_l0_b]
    rw [cond_pos (by omega), cond_pos (by omega), Int.toNat_natCast, k1, wrap1 _ (by omega)]
    simp only [Option.bind_some, e4]
    rw [head_l0 n hn cs hcs a0 a1 a2 a3 a4 a5 a6 r (i + 1) m _ k2 (by omega) (by rw [List.length_append, be_len]; omega)]
    simp
theorem headS_len (cs : List Int) : (headS cs).length = 20 + 4 * cs.length := by
  simp only [headS, List.length_append, be4s_len, List.length_replicate, List.length_cons, List.length_nil]
theorem head_val (n : Nat) (hn : 9 ≤ n) (a0 a1 a2 a3 a4 a5 a6 : Int) (h : List Int) (hl : h.length ≤ 90000) : tzif_writer_head_f n a0 a1 a2 a3 a4 a5 a6 h = some (h ++ headS [a1, a2, a3, a4, a5, a6]) := by
  unfold tzif_writer_head_f tzif_writer_head_b
  have e0 : intsOf ([84, 90, 105, 102] : Str) = [84, 90, 105, 102] := rfl
  have c1 : (decide (0 < ([84, 90, 105, 102] : Str).length) && decide (h.length + ([84, 90, 105, 102] : Str).length ≤ 140737488355328)) = true := by
    rw [Bool.and_eq_true, decide_eq_true_eq, decide_eq_true_eq]; simp; omega
  have c3 : (decide (0 < (List.replicate 15 (0 : Nat)).length) && decide (((h ++ intsOf ([84, 90, 105, 102] : Str)) ++ [(50 : Int)]).length + (List.replicate 15 (0 : Nat)).length ≤ 140737488355328)) = true := by
    rw [Bool.and_eq_true, decide_eq_true_eq, decide_eq_true_eq]; simp [e0]; omega
  rw [c1, cond_true, cond_pos (by simp [e0]; omega), c3, cond_true]
  have e := head_l0 n hn [a1, a2, a3, a4, a5, a6] (by simp) a0 a1 a2 a3 a4 a5 a6 [a1, a2, a3, a4, a5, a6] 0 n (((h ++ intsOf ([84, 90, 105, 102] : Str)) ++ [(50 : Int)]) ++ (List.replicate 15 0)) rfl (by simp; omega) (by simp [e0]; omega)
  simp only [Int.natCast_zero] at e
  rw [e]
  simp [headS, e0]
/-- The letters of the types. -/
def lettersS (ts : List Ty) : List Int := ts.flatMap fun t => intsOf t.2.2 ++ [0]
theorem letters_len : ∀ (ts : List Ty), (lettersS ts).length = sumL ts
  | [] => rfl
  | t :: r => by
    have := letters_len r
    simp only [lettersS] at this
    simp only [lettersS, List.flatMap_cons, List.length_append, intsOf_length, this, sumL, List.length_cons, List.length_nil]
/-- Where the letters of each begin. -/
def offs : Nat → List Ty → List Int
  | _, [] => []
  | o, t :: r => (o : Int) :: offs (o + (t.2.2.length + 1)) r
theorem offs_len : ∀ (o : Nat) (ts : List Ty), (offs o ts).length = ts.length
  | _, [] => rfl
  | o, t :: r => by simp [offs, offs_len _ r]
theorem put_l3 (n : Nat) (ts : List Ty) (hts : ts.length ≤ 255) (h0 : List (List AV)) (h1 h2 : List Int) (h3 : Str) : ∀ (r : List Ty) (i m : Nat) (x4 x5 : List Int), ts.drop i = r → r.length < m → x4.length + sumL r ≤ 100000 → x5.length + r.length ≤ 100000 →
    tzif_Put_l3 n m x4 x5 (ts.map cT) (ts.length : Int) (i : Int) h0 h1 h2 h3 = some (x4 ++ lettersS r, x5 ++ offs x4.length r, h0, h1, h2, h3)
  | [], i, m + 1, x4, x5, hd, _, _, _ => by
    have hi := drop_nil hd
    simp only [tzif_Put_l3, tzif_Put_l3_b]
    rw [cond_neg (by omega)]
    simp [lettersS, offs]
  | t :: r, i, m + 1, x4, x5, hd, hm, hl, hl5 => by
    obtain ⟨k1, k2, k3⟩ := drop_cons hd
    simp only [List.length_cons, sumL] at hm hl hl5
    simp only [tzif_Put_l3, tzif_Put_l3_b]
    rw [cond_pos (by omega), cond_pos (by omega), Int.toNat_natCast, List.getElem?_map, k1, wrap1 _ (by omega)]
    simp only [Option.map_some, Option.bind_some, cT, unc, getI, getB, getT, unn, decide_true, cond_true]
    rw [cond_pos (by simp; omega), cond_pos (by omega), cond_pos (by simp [intsOf_length]; omega)]
    rw [put_l3 n ts hts h0 h1 h2 h3 r (i + 1) m _ _ k2 (by omega) (by simp [intsOf_length]; omega) (by simp; omega)]
    simp [lettersS, offs, intsOf_length]
theorem put_l2 (n : Nat) (hn : 9 ≤ n) (ti : List Int) (hti : ti.length ≤ 4000) (h0 : List (List AV)) (h1 h2 : List Int) (h3 : Str) (g : List Int) (a0 a1 a2 a3 a4 a5 a6 : Int) : ∀ (r : List Int) (i m : Nat) (h : List Int), ti.drop i = r → r.length < m → h.length + 8 * r.length ≤ 90000 →
    tzif_Put_l2 n m ti (ti.length : Int) (i : Int) h0 h1 h2 h3 g h a0 a1 a2 a3 a4 a5 a6 = some (h0, h1, h2, h3, g, h ++ r.flatMap (be 8), a0, a1, a2, a3, a4, a5, a6)
  | [], i, m + 1, h, hd, _, _ => by
    have hi := drop_nil hd
    simp only [tzif_Put_l2, tzif_Put_l2_b]
    rw [cond_neg (by omega)]
    simp
  | c :: r, i, m + 1, h, hd, hm, hl => by
    obtain ⟨k1, k2, k3⟩ := drop_cons hd
    simp only [List.length_cons] at hm hl
    have e4 : tzif_writer_number_f n c 8 h = some (h ++ be 8 c) := number_val n hn c 8 (by omega) h (by omega)
    simp only [tzif_Put_l2, tzif_Put_l2_b]
    rw [cond_pos (by omega), cond_pos (by omega), Int.toNat_natCast, k1, wrap1 _ (by omega)]
    simp only [Option.bind_some, e4]
    rw [put_l2 n hn ti hti h0 h1 h2 h3 g a0 a1 a2 a3 a4 a5 a6 r (i + 1) m _ k2 (by omega) (by rw [List.length_append, be_len]; omega)]
    simp
theorem put_l1 (n : Nat) (hn : 9 ≤ n) (ti : List Int) (hti : ti.length ≤ 4000) (h0 : List (List AV)) (h1 h2 : List Int) (h3 : Str) (g : List Int) (a0 a1 a2 a3 a4 a5 a6 : Int) : ∀ (r : List Int) (i m : Nat) (h : List Int), ti.drop i = r → r.length < m → h.length + r.length ≤ 90000 →
    tzif_Put_l1 n m ti (ti.length : Int) (i : Int) h0 h1 h2 h3 g h a0 a1 a2 a3 a4 a5 a6 = some (h0, h1, h2, h3, g, h ++ r.flatMap (be 1), a0, a1, a2, a3, a4, a5, a6)
  | [], i, m + 1, h, hd, _, _ => by
    have hi := drop_nil hd
    simp only [tzif_Put_l1, tzif_Put_l1_b]
    rw [cond_neg (by omega)]
    simp
  | c :: r, i, m + 1, h, hd, hm, hl => by
    obtain ⟨k1, k2, k3⟩ := drop_cons hd
    simp only [List.length_cons] at hm hl
    have e4 : tzif_writer_number_f n c 1 h = some (h ++ be 1 c) := number_val n hn c 1 (by omega) h (by omega)
    simp only [tzif_Put_l1, tzif_Put_l1_b]
    rw [cond_pos (by omega), cond_pos (by omega), Int.toNat_natCast, k1, wrap1 _ (by omega)]
    simp only [Option.bind_some, e4]
    rw [put_l1 n hn ti hti h0 h1 h2 h3 g a0 a1 a2 a3 a4 a5 a6 r (i + 1) m _ k2 (by omega) (by rw [List.length_append, be_len]; omega)]
    simp
/-- The types' row: how far they are ahead, summer's, where their letters begin. -/
def typesS : Nat → List Ty → List Int
  | _, [] => []
  | o, t :: r => be 4 t.1 ++ be 1 (if t.2.1 then 1 else 0) ++ be 1 (o : Int) ++ typesS (o + (t.2.2.length + 1)) r
theorem types_len : ∀ (o : Nat) (ts : List Ty), (typesS o ts).length = 6 * ts.length
  | _, [] => rfl
  | o, t :: r => by simp only [typesS, List.length_append, be_len, types_len _ r, List.length_cons]; omega
theorem put_l0 (n : Nat) (hn : 9 ≤ n) (ts : List Ty) (hts : ts.length ≤ 255) (x4 x5 : List Int) (hx5 : x5.length = ts.length) (h0 : List (List AV)) (h1 h2 : List Int) (h3 : Str) : ∀ (r : List Ty) (i m o : Nat) (h : List Int), ts.drop i = r → x5.drop i = offs o r → r.length < m → h.length + 6 * r.length ≤ 90000 →
    tzif_Put_l0 n m x4 x5 (ts.map cT) (ts.length : Int) (i : Int) h0 h1 h2 h3 h = some (h0, h1, h2, h3, h ++ typesS o r)
  | [], i, m + 1, o, h, hd, _, _, _ => by
    have hi := drop_nil hd
    simp only [tzif_Put_l0, tzif_Put_l0_b]
    rw [cond_neg (by omega)]
    simp [typesS]
  | t :: r, i, m + 1, o, h, hd, hd5, hm, hl => by
    obtain ⟨k1, k2, k3⟩ := drop_cons hd
    obtain ⟨j1, j2, j3⟩ := drop_cons hd5
    simp only [List.length_cons] at hm hl
    have e4 : tzif_writer_number_f n t.1 4 h = some (h ++ be 4 t.1) := number_val n hn _ 4 (by omega) h (by omega)
    have e1 : ∀ (v : Int) (h' : List Int), h'.length ≤ 99999 → tzif_writer_number_f n v 1 h' = some (h' ++ be 1 v) := fun v h' hh => number_val n hn v 1 (by omega) h' (by omega)
    simp only [tzif_Put_l0, tzif_Put_l0_b]
    rw [cond_pos (by omega), cond_pos (by omega), Int.toNat_natCast, List.getElem?_map, k1, wrap1 _ (by omega)]
    simp only [Option.map_some, Option.bind_some, cT, unc, getI, getB, getT, unn, decide_true, cond_true, e4]
    have ej : tzif_Put_j0 n 0 h0 h1 h2 h3 (h ++ be 4 t.1) t.1 t.2.1 t.2.2 = some ((if t.2.1 then 1 else 0), h0, h1, h2, h3, h ++ be 4 t.1, t.1, t.2.1, t.2.2) := by
      unfold tzif_Put_j0 tzif_Put_j0_b
      cases t.2.1 <;> rfl
    simp only [ej, Option.bind_some, j1]
    rw [e1 _ _ (by simp [be_len]; omega)]
    simp only [Option.bind_some]
    rw [cond_pos (by omega)]
    rw [e1 _ _ (by simp [be_len]; omega)]
    simp only [Option.bind_some]
    rw [put_l0 n hn ts hts x4 x5 hx5 h0 h1 h2 h3 r (i + 1) m (o + (t.2.2.length + 1)) _ k2 j2 (by omega) (by simp [be_len]; omega)]
    simp [typesS]
/-- The second block, without what stands behind it. -/
def bodyS (ts : List Ty) (ti ix : List Int) : List Int := ti.flatMap (be 8) ++ (ix.flatMap (be 1) ++ (typesS 0 ts ++ lettersS ts))
def putS (ts : List Ty) (ti ix : List Int) (foot : Str) : List Int :=
  headS [0, 0, 0, 0, 1, 1] ++ (List.replicate 7 0 ++ (headS [0, 0, 0, (ti.length : Int), (ts.length : Int), ((lettersS ts).length : Int)] ++ (bodyS ts ti ix ++ (10 :: (intsOf foot ++ [10])))))
theorem put_val (n : Nat) (hn : 4001 ≤ n) (ts : List Ty) (ti ix : List Int) (foot : Str) : tzif_Put_f n (ts.map cT) ti ix foot = some (if RightS ts ti ix foot then (putS ts ti ix foot, 0) else ([], 2)) := by
  unfold tzif_Put_f tzif_Put_b
  rw [right_val n hn]
  simp only [Option.bind_some]
  cases hR : RightS ts ti ix foot with
  | false => rfl
  | true =>
    obtain ⟨h1, h2, h3, h4, h5, h6, h7, h8⟩ := right_parts hR
    have hf : foot.length ≤ 100 := by
      simp only [textS, Bool.and_eq_true, decide_eq_true_eq] at h5
      omega
    have e3 := put_l3 n ts h2 (ts.map cT) ti ix foot ts 0 n [] [] (by simp) (by omega) (by simp; omega) (by simp; omega)
    simp only [Int.natCast_zero, List.nil_append, List.length_nil] at e3
    have hll := letters_len ts
    have hs : 1 ≤ sumL ts := by
      cases ts with
      | nil => simp at h1
      | cons t r => simp only [sumL]; omega
    simp only [Bool.not_true, cond_false, List.length_map, e3, Option.bind_some, if_true]
    rw [head_val n (by omega) 0 0 0 0 0 1 1 [] (by simp)]
    have el : tzif_head_long_f n 0 0 0 0 0 1 1 4 = some 7 := by unfold tzif_head_long_f tzif_head_long_b; rfl
    simp only [Option.bind_some, el, List.nil_append]
    have l1 : (headS [0, 0, 0, 0, 1, 1]).length = 44 := by rw [headS_len]; rfl
    rw [cond_pos (by omega), cond_pos (by omega), show ((7 : Int).toNat) = 7 from rfl, show (decide (0 < (List.replicate 7 (0 : Nat)).length) && decide ((headS [0, 0, 0, 0, 1, 1]).length + (List.replicate 7 (0 : Nat)).length ≤ 140737488355328)) = true by rw [l1]; rfl, cond_true]
    rw [head_val n (by omega) 0 0 0 0 _ _ _ _ (by simp only [List.length_append, List.length_replicate, l1]; omega)]
    simp only [Option.bind_some]
    have l2 : (headS [0, 0, 0, (ti.length : Int), (ts.length : Int), ((lettersS ts).length : Int)]).length = 44 := by rw [headS_len]; rfl
    have e2 := put_l2 n (by omega) ti h3 (ts.map cT) ti ix foot [] 0 0 0 0 0 1 1 ti 0 n (headS [0, 0, 0, 0, 1, 1] ++ List.replicate 7 0 ++ headS [0, 0, 0, (ti.length : Int), (ts.length : Int), ((lettersS ts).length : Int)]) (by simp) (by omega) (by simp only [List.length_append, List.length_replicate, List.length_cons, List.length_nil, l1, l2]; omega)
    simp only [Int.natCast_zero] at e2
    simp only [e2, Option.bind_some]
    have e1 := put_l1 n (by omega) ix (by omega) (ts.map cT) ti ix foot [] 0 0 0 0 0 1 1 ix 0 n (headS [0, 0, 0, 0, 1, 1] ++ List.replicate 7 0 ++ headS [0, 0, 0, (ti.length : Int), (ts.length : Int), ((lettersS ts).length : Int)] ++ ti.flatMap (be 8)) (by simp) (by omega) (by simp only [List.length_append, List.length_replicate, List.length_cons, List.length_nil, l1, l2, be4s_len]; omega)
    simp only [Int.natCast_zero] at e1
    simp only [e1, Option.bind_some, List.length_map]
    have e0 := put_l0 n (by omega) ts h2 (lettersS ts) (offs 0 ts) (offs_len 0 ts) (ts.map cT) ti ix foot ts 0 n 0 (headS [0, 0, 0, 0, 1, 1] ++ List.replicate 7 0 ++ headS [0, 0, 0, (ti.length : Int), (ts.length : Int), ((lettersS ts).length : Int)] ++ ti.flatMap (be 8) ++ ix.flatMap (be 1)) (by simp) (by simp) (by omega) (by simp only [List.length_append, List.length_replicate, List.length_cons, List.length_nil, l1, l2, be4s_len]; omega)
    simp only [Int.natCast_zero] at e0
    simp only [e0, Option.bind_some]
    have lA : (headS [0, 0, 0, 0, 1, 1] ++ List.replicate 7 (0 : Int) ++ headS [0, 0, 0, (ti.length : Int), (ts.length : Int), ((lettersS ts).length : Int)] ++ ti.flatMap (be 8) ++ ix.flatMap (be 1) ++ typesS 0 ts).length ≤ 90000 := by
      simp only [List.length_append, l1, l2, be4s_len, types_len, List.length_replicate]; omega
    have hA : putS ts ti ix foot = (headS [0, 0, 0, 0, 1, 1] ++ List.replicate 7 (0 : Int) ++ headS [0, 0, 0, (ti.length : Int), (ts.length : Int), ((lettersS ts).length : Int)] ++ ti.flatMap (be 8) ++ ix.flatMap (be 1) ++ typesS 0 ts) ++ lettersS ts ++ intsOf (([10] ++ foot) ++ [10]) := by
      simp [putS, bodyS, intsOf_append, intsOf]
    rw [hA]
    generalize headS [0, 0, 0, 0, 1, 1] ++ List.replicate 7 (0 : Int) ++ headS [0, 0, 0, (ti.length : Int), (ts.length : Int), ((lettersS ts).length : Int)] ++ ti.flatMap (be 8) ++ ix.flatMap (be 1) ++ typesS 0 ts = A at lA ⊢
    have c1 : (decide (0 < (lettersS ts).length) && decide (A.length + (lettersS ts).length ≤ 140737488355328)) = true := by
      rw [Bool.and_eq_true, decide_eq_true_eq, decide_eq_true_eq]; omega
    have c4 : (decide (0 < ((([10] : Str) ++ foot) ++ ([10] : Str)).length) && decide ((A ++ lettersS ts).length + ((([10] : Str) ++ foot) ++ ([10] : Str)).length ≤ 140737488355328)) = true := by
      rw [Bool.and_eq_true, decide_eq_true_eq, decide_eq_true_eq]
      simp only [List.length_append, List.length_singleton]; omega
    rw [c1, cond_true, cond_pos (by simp only [List.length_singleton]; omega), cond_pos (by simp only [List.length_append, List.length_singleton]; omega), c4, cond_true]
end Go.Proofs.YtcbgfjghebopoaaDoor.H

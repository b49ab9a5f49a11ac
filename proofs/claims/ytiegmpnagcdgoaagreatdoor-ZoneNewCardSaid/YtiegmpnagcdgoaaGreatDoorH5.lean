/- Texts of this session, joined and cut to what one statement needs, under short names. -/
import Derived.Test.YtiegmpnagcdgoaaGreatDoorH4
import Derived.KernelRfl
import Derived.Lib.LaidTab
import Derived.MakeChecks
import Derived.Test.YtiegmpnagcdgoaaGreatDoorRows
import Derived.Shelf.Vars
import Derived.Handed
import Derived.HandedShaped
namespace Go.Proofs.YtiegmpnagcdgoaaGreatDoor.H
open Go.Sh Go.RowKit
set_option linter.unusedSimpArgs false
set_option linter.unusedVariables false
def C9 (f : Int → Int) (loc : Int) (acc : List Int) (v : Int) : List Int := if -10000000000000000 ≤ loc - v * 1000000 ∧ loc - v * 1000000 ≤ 100000000000000000 ∧ f ((loc - v * 1000000) / 1000000) = v then acc ++ [loc - v * 1000000] else acc
def EH (n : Nat) (ts : List Z.Ty) (ti ix : List Int) (foot : Str) (r : RuleV) (sec : Int) : Int := (iY n (ts.map Z.cT) ti ix foot r.std r.dst r.off r.doff r.a.k r.a.m r.a.w r.a.d r.a.t r.b.k r.b.m r.b.w r.b.d r.b.t true false sec).getD 0
theorem aaH (n : Nat) (hn : 20000 < n) (ts : List Z.Ty) (ti ix : List Int) (foot : Str) (r : RuleV) (hR : Z.RightS ts ti ix foot = true) (hr : gy r = true) (sec : Int) :
 mD n sec (ts.map Z.cT) ti ix foot r.std r.dst r.off r.doff r.a.k r.a.m r.a.w r.a.d r.a.t r.b.k r.b.m r.b.w r.b.d r.b.t = some (EH n ts ti ix foot r sec, ts.map Z.cT, ti, ix, foot, r.std, r.dst, r.off, r.doff, r.a.k, r.a.m, r.a.w, r.a.d, r.a.t, r.b.k, r.b.m, r.b.w, r.b.d, r.b.t) := by
 obtain ⟨l1, l2⟩ := Xr hr
 obtain ⟨d, e1, e2⟩ := VF n hn ts ti ix foot r hR l1 l2 sec
 rw [e1, EH, e2]
 rfl
theorem acH (f : Int → Int) (loc : Int) (acc : List Int) (v : Int) : (C9 f loc acc v).length ≤ acc.length + 1 := by
 unfold C9
 split <;> simp
theorem aaI (n : Nat) (hn : 20000 < n) (ts : List Z.Ty) (ti ix : List Int) (foot : Str) (r : RuleV) (hR : Z.RightS ts ti ix foot = true) (hr : gy r = true) (i v loc : Int) (acc : List Int) (hv : -93599 ≤ v ∧ v ≤ 93599) (hl : -1000000000000000000 ≤ loc ∧ loc ≤ 1000000000000000000) (ha : acc.length ≤ 5000) :
 kR n i v loc acc (ts.map Z.cT) ti ix foot r.std r.dst r.off r.doff r.a.k r.a.m r.a.w r.a.d r.a.t r.b.k r.b.m r.b.w r.b.d r.b.t = some (loc, C9 (EH n ts ti ix foot r) loc acc v, ts.map Z.cT, ti, ix, foot, r.std, r.dst, r.off, r.doff, r.a.k, r.a.m, r.a.w, r.a.d, r.a.t, r.b.k, r.b.m, r.b.w, r.b.d, r.b.t) := by
 unfold kR kQ C9
 rw [wi (v * 1000000) (by omega) (by omega), wi (loc - v * 1000000) (by omega) (by omega)]
 by_cases c1 : loc - v * 1000000 ≥ -10000000000000000
 ·rw [aa c1]
  by_cases c2 : loc - v * 1000000 ≤ 100000000000000000
  ·rw [aa c2, YA n _ (by omega)]
   simp only [Option.bind_some]
   rw [aaH n hn ts ti ix foot r hR hr]
   simp only [Option.bind_some]
   by_cases c3 : EH n ts ti ix foot r ((loc - v * 1000000) / 1000000) = v
   ·rw [show (EH n ts ti ix foot r ((loc - v * 1000000) / 1000000) == v) = true by simpa using c3, cond_true, aa (by simp only [List.length_cons, List.length_nil]; omega), if_pos ⟨c1, c2, c3⟩]
   ·rw [show (EH n ts ti ix foot r ((loc - v * 1000000) / 1000000) == v) = false by simpa using c3, cond_false, if_neg (fun h => c3 h.2.2)]
  ·rw [af c2, if_neg (fun h => c2 h.2.1)]
 ·rw [af c1, if_neg (fun h => c1 h.1)]
theorem UT (n : Nat) (hn : 20000 < n) (ts : List Z.Ty) (ti ix : List Int) (foot : Str) (r : RuleV) (hR : Z.RightS ts ti ix foot = true) (hr : gy r = true) (L : List Int) (loc : Int) (hv : ∀ v ∈ L, -93599 ≤ v ∧ v ≤ 93599) (hL : L.length ≤ 2000) (hl : -1000000000000000000 ≤ loc ∧ loc ≤ 1000000000000000000) : ∀ (k m : Nat) (acc : List Int), k ≤ L.length → k < m → acc.length + k ≤ 4000 →
 aY n m ((k : Int) - 1) L loc acc (ts.map Z.cT) ti ix foot r.std r.dst r.off r.doff r.a.k r.a.m r.a.w r.a.d r.a.t r.b.k r.b.m r.b.w r.b.d r.b.t = some (L, loc, (L.take k).reverse.foldl (C9 (EH n ts ti ix foot r) loc) acc, ts.map Z.cT, ti, ix, foot, r.std, r.dst, r.off, r.doff, r.a.k, r.a.m, r.a.w, r.a.d, r.a.t, r.b.k, r.b.m, r.b.w, r.b.d, r.b.t)
 | 0, m + 1, acc, _, _, _ => by
  simp only [aY, dw]
  rw [af (by omega)]
  simp
 | k + 1, m + 1, acc, hk, hm, ha => by
  have hk2 : k < L.length := by omega
  simp only [aY, dw]
  rw [aa (by omega), aa (by omega), show (((k + 1 : Nat) : Int) - 1).toNat = k by omega, List.getElem?_eq_getElem hk2]
  simp only [Option.bind_some]
  rw [aaI n hn ts ti ix foot r hR hr _ _ loc acc (hv _ (List.getElem_mem hk2)) hl (by omega)]
  simp only [Option.bind_some]
  rw [wi _ (by omega) (by omega), show (((k + 1 : Nat) : Int) - 1 - 1) = (k : Int) - 1 by omega]
  have := acH (EH n ts ti ix foot r) loc acc L[k]
  rw [UT n hn ts ti ix foot r hR hr L loc hv hL hl k m _ (by omega) (by omega) (by omega), List.take_succ_eq_append_getElem hk2, List.reverse_append]
  rfl
end Go.Proofs.YtiegmpnagcdgoaaGreatDoor.H
namespace Go.Proofs.YtiegmpnagcdgoaaGreatDoor.H
open Go.Sh Go.RowKit
set_option linter.unusedSimpArgs false
set_option linter.unusedVariables false
theorem adS {ts : List Z.Ty} {ti ix : List Int} {foot : Str} {r : RuleV} (hR : Z.RightS ts ti ix foot = true) (hr : gy r = true) : ∀ v ∈ Jn [] (IU ts (some r)), -93599 ≤ v ∧ v ≤ 93599 := by
 obtain ⟨_, _, _, _, _, h6, _, _⟩ := Z.right_parts hR
 obtain ⟨_, g2, g3, g4⟩ := Gq hr
 intro v hv
 rw [Qt] at hv
 rcases hv with hv | hv
 ·simp at hv
 ·unfold IU at hv
  rcases List.mem_append.1 hv with hv | hv
  ·obtain ⟨t, ht, rfl⟩ := List.mem_map.1 hv
   have h4 := List.all_eq_true.1 h6 t ht
   unfold Z.okT at h4
   simp only [Bool.and_eq_true, Bool.not_eq_true', decide_eq_false_iff_not] at h4
   omega
  ·simp only at hv
   rcases List.mem_cons.1 hv with rfl | hv
   ·omega
   ·split at hv
    ·simp at hv
    ·rename_i hd
     rw [List.mem_singleton.1 hv]
     rcases g4 with ⟨g4, _⟩ | ⟨_, _, g5, g6, _⟩
     ·exact absurd g4 hd
     ·omega
theorem acI (ts : List Z.Ty) (r : RuleV) (h : ts.length ≤ 255) : (Jn [] (IU ts (some r))).length ≤ 2000 := by
 have h1 := UR (IU ts (some r)) []
 have h2 : (IU ts (some r)).length ≤ ts.length + 2 := by
  unfold IU
  simp only
  split <;> simp
 simp only [List.length_nil] at h1
 omega
theorem UU (n : Nat) (hn : 20000 < n) (ts : List Z.Ty) (ti ix : List Int) (foot : Str) (r : RuleV) (hR : Z.RightS ts ti ix foot = true) (hr : gy r = true) (a0 a1 a2 a3 a4 a5 a6 loc : Int) (hm : sH n a0 a1 a2 a3 a4 a5 a6 = some (loc, 0)) (hl : -1000000000000000000 ≤ loc ∧ loc ≤ 1000000000000000000) :
 jV n a0 a1 a2 a3 a4 a5 a6 (ts.map Z.cT) ti ix foot r.std r.dst r.off r.doff r.a.k r.a.m r.a.w r.a.d r.a.t r.b.k r.b.m r.b.w r.b.d r.b.t = some ((Jn [] (IU ts (some r))).reverse.foldl (C9 (EH n ts ti ix foot r) loc) [], 0, ts.map Z.cT, ti, ix, foot, r.std, r.dst, r.off, r.doff, r.a.k, r.a.m, r.a.w, r.a.d, r.a.t, r.b.k, r.b.m, r.b.w, r.b.d, r.b.t) := by
 obtain ⟨_, h2, _, _, _, _, _, _⟩ := Z.right_parts hR
 have hlen := acI ts r h2
 unfold jV oC
 rw [hm]
 simp only [Option.bind_some, bne_self_eq_false, cond_false]
 rw [YC n (by omega) ts ti ix foot r hR hr]
 simp only [Option.bind_some, gV, kP, mE, il]
 rw [wi _ (by omega) (by omega), UT n hn ts ti ix foot r hR hr _ loc (adS hR hr) hlen hl (Jn [] (IU ts (some r))).length n [] (Nat.le_refl _) (by omega) (by simp only [List.length_nil]; omega)]
 simp only [Option.bind_some, List.take_length]
end Go.Proofs.YtiegmpnagcdgoaaGreatDoor.H
namespace Go.Proofs.YtiegmpnagcdgoaaGreatDoor.H
open Go.Sh Go.RowKit
set_option linter.unusedSimpArgs false
set_option linter.unusedVariables false
def foot0 : Str := [67, 69, 84, 45, 49, 67, 69, 83, 84, 44, 77, 51, 46, 53, 46, 48, 44, 77, 49, 48, 46, 53, 46, 48, 47, 51]
def rule0 : RuleV := ⟨[67, 69, 84], [67, 69, 83, 84], 3600, 7200, ⟨3, 3, 5, 0, 7200⟩, ⟨3, 10, 5, 0, 10800⟩⟩
def ts0 : List Z.Ty := [(0, false, [88])]
theorem acJ : LB foot0 = some rule0 := by kernel_rfl
theorem YD : Z.RightS ts0 [] [] foot0 = true := by decide +kernel
theorem VG : gy rule0 = true := by decide +kernel
theorem afs (n : Nat) : BX n 0 = some (1970, 1, 1, 0, 0, 0, 0, 0) := by kernel_rfl
theorem aft (n : Nat) : sH n 2026 3 29 2 30 0 0 = some (1774751400000000, 0) := by kernel_rfl
theorem afu (n : Nat) : sH n 2026 10 25 2 30 0 0 = some (1792895400000000, 0) := by kernel_rfl
theorem aaJ (n : Nat) (hn : 20000 < n) (sec v : Int) (hy : InYear 2026 ((iO (iO sec) + rule0.off) / 86400)) (hv : (Qs rule0 (iO (iO sec)) 2026).1 = v) : EH n ts0 [] [] foot0 rule0 sec = v := by
 unfold EH iY nK
 rw [cond_false, show ((([] : List Int).length : Int)) = ((([] : List Int).length : Nat) : Int) from rfl, UN n _ _ [] _ _ _ _ _ _ _ _ _ _ _ _ _ _ _ _ _ (by simp)]
 simp only [Option.bind_some]
 rw [show ∀ t, UM [] t = true from fun _ => rfl, cond_true]
 obtain ⟨y, h1, h2, h3, h4⟩ := rat_val n rule0 (iO sec) hn VG (by decide)
 have : y = 2026 := h1.one (by omega) (by omega) hy
 subst this
 have h5 : dF n rule0.std rule0.dst rule0.off rule0.doff rule0.a.k rule0.a.m rule0.a.w rule0.a.d rule0.a.t rule0.b.k rule0.b.m rule0.b.w rule0.b.d rule0.b.t (if (-10000000000 : Int) < (if sec < (100000000000 : Int) then sec else (100000000000 : Int)) then (if sec < (100000000000 : Int) then sec else (100000000000 : Int)) else (-10000000000 : Int)) = some (Qs rule0 (iO (iO sec)) 2026) := h4
 rw [h5]
 exact hv
theorem afe : Jn [] (IU ts0 (some rule0)) = [0, 3600, 7200] := by decide +kernel
theorem aaK (n : Nat) (hn : 20000 < n) : aD n = some true := by
 unfold aD oD
 rw [afs]
 simp only [Option.bind_some]
 have hnew := Zr n (by omega) ts0 [] [] foot0
 rw [if_pos YD, if_neg (by decide), acJ] at hnew
 have h1 := UU n hn ts0 [] [] foot0 rule0 YD VG 2026 3 29 2 30 0 0 _ (aft n) (by omega)
 have h2 := UU n hn ts0 [] [] foot0 rule0 YD VG 2026 10 25 2 30 0 0 _ (afu n) (by omega)
 rw [afe, show [(0 : Int), 3600, 7200].reverse = [7200, 3600, 0] from rfl] at h1 h2
 simp only [List.foldl_cons, List.foldl_nil] at h1 h2
 have a1 : C9 (EH n ts0 [] [] foot0 rule0) 1774751400000000 [] 7200 = [] := by
  unfold C9
  rw [show ((1774751400000000 : Int) - 7200 * 1000000) / 1000000 = 1774744200 from by decide, aaJ n hn 1774744200 3600 (by unfold InYear; decide +kernel) (by decide +kernel)]
  decide
 have a2 : C9 (EH n ts0 [] [] foot0 rule0) 1774751400000000 [] 3600 = [] := by
  unfold C9
  rw [show ((1774751400000000 : Int) - 3600 * 1000000) / 1000000 = 1774747800 from by decide, aaJ n hn 1774747800 7200 (by unfold InYear; decide +kernel) (by decide +kernel)]
  decide
 have a3 : C9 (EH n ts0 [] [] foot0 rule0) 1774751400000000 [] 0 = [] := by
  unfold C9
  rw [show ((1774751400000000 : Int) - 0 * 1000000) / 1000000 = 1774751400 from by decide, aaJ n hn 1774751400 7200 (by unfold InYear; decide +kernel) (by decide +kernel)]
  decide
 have b1 : C9 (EH n ts0 [] [] foot0 rule0) 1792895400000000 [] 7200 = [1792888200000000] := by
  unfold C9
  rw [show ((1792895400000000 : Int) - 7200 * 1000000) / 1000000 = 1792888200 from by decide, aaJ n hn 1792888200 7200 (by unfold InYear; decide +kernel) (by decide +kernel)]
  decide
 have b2 : C9 (EH n ts0 [] [] foot0 rule0) 1792895400000000 [1792888200000000] 3600 = [1792888200000000, 1792891800000000] := by
  unfold C9
  rw [show ((1792895400000000 : Int) - 3600 * 1000000) / 1000000 = 1792891800 from by decide, aaJ n hn 1792891800 3600 (by unfold InYear; decide +kernel) (by decide +kernel)]
  decide
 have b3 : C9 (EH n ts0 [] [] foot0 rule0) 1792895400000000 [1792888200000000, 1792891800000000] 0 = [1792888200000000, 1792891800000000] := by
  unfold C9
  rw [show ((1792895400000000 : Int) - 0 * 1000000) / 1000000 = 1792895400 from by decide, aaJ n hn 1792895400 3600 (by unfold InYear; decide +kernel) (by decide +kernel)]
  decide
 rw [a1, a2, a3] at h1
 rw [b1, b2, b3] at h2
 have hn2 : sj n ([[.int .i64 (0 : Int), .bool false, .str ([88] : Str)]] : List (List AV)) ([] : List Int) ([] : List Int) foot0 = _ := hnew
 have hf : ([67, 69, 84, 45, 49, 67, 69, 83, 84, 44, 77, 51, 46, 53, 46, 48, 44, 77, 49, 48, 46, 53, 46, 48, 47, 51] : Str) = foot0 := rfl
 rw [hf, hn2]
 simp only [Option.bind_some, Sum.elim_inr, Sum.elim_inl]
 rw [h1]
 simp only [Option.bind_some]
 rw [h2]
 rfl
end Go.Proofs.YtiegmpnagcdgoaaGreatDoor.H
namespace Go.Proofs.YtiegmpnagcdgoaaGreatDoor.H.Z
open Go.Sh Go.RowKit
set_option linter.unusedSimpArgs false
set_option linter.unusedVariables false
def eX (k : Int) (b : List Int) (bad : Bool) : List Int × List Int × Bool := if k < 0 ∨ (b.length : Int) < k then ([], [], true) else (b.take k.toNat, b.drop k.toNat, bad)
theorem Iw (n : Nat) (k : Int) (b : List Int) (bad : Bool) : bV n k b bad = some (eX k b bad) := by
 unfold bV vo tT qg eX
 by_cases h : k < 0
 ·rw [aa h, if_pos (.inl h)]; rfl
 ·rw [af h]
  by_cases h2 : k > (b.length : Int)
  ·rw [decide_eq_true h2, if_pos (.inr h2)]; rfl
  ·rw [decide_eq_false h2, if_neg (by omega)]
   simp only [Option.bind_some, cond_false]
   rw [aa (by omega), aa (by omega), aa (by omega), aa (by omega)]
   rfl
theorem Dz (x r : List Int) (bad : Bool) : eX (x.length : Int) (x ++ r) bad = (x, r, bad) := by
 unfold eX
 rw [if_neg (by rw [List.length_append]; omega)]
 simp
theorem Q8 {k : Int} {b : List Int} {bad : Bool} (h : (b.length : Int) < k) : eX k b bad = ([], [], true) := by
 unfold eX
 rw [if_pos (.inr h)]
theorem Nh (k : Int) (b : List Int) : (eX k b true).2.2 = true := by
 unfold eX
 split <;> rfl
theorem Kk (k : Nat) (b : List Int) (bad : Bool) : (eX (k : Int) b bad).2.1.length = b.length - k := by
 unfold eX
 split
 ·rename_i h; simp; omega
 ·simp
def acK (x e : Int) : Int := IntKind.i64.wrap ((BitVec.ofInt 64 (IntKind.i64.wrap (x * 2 ^ 8)) ||| BitVec.ofInt 64 (IntKind.i64.wrap e)).toNat : Int)
def aaL : Int → List Int → Int
 | x, [] => x
 | x, e :: r => aaL (acK x e) r
theorem VH (a : Int) : IntKind.i64.wrap a % 18446744073709551616 = a % 18446744073709551616 := by rw [IntKind.wrap_i64]; omega
theorem acL {a b : Int} (h : a % 18446744073709551616 = b % 18446744073709551616) : IntKind.i64.wrap a = IntKind.i64.wrap b := by rw [IntKind.wrap_i64, IntKind.wrap_i64]; omega
theorem Ni (a : Int) : (BitVec.ofInt 64 a).toNat = (a % 18446744073709551616).toNat := by
 rw [BitVec.toNat_ofInt]
 rfl
theorem acM (x e : Int) (h0 : 0 ≤ e) (h1 : e < 256) : acK x e = IntKind.i64.wrap (x * 256 + e) := by
 unfold acK
 refine acL ?_
 rw [BitVec.toNat_or, Ni, Ni, VH, VH]
 obtain ⟨e, rfl⟩ := Int.eq_ofNat_of_zero_le h0
 have e1 : ((x * 2 ^ 8) % 18446744073709551616).toNat = (x % 72057594037927936).toNat * 2 ^ 8 := by
  rw [show ((2 : Int) ^ 8) = 256 from rfl]; omega
 have e2 : (((e : Nat) : Int) % 18446744073709551616).toNat = e := by omega
 rw [e1, e2, ← Nat.shiftLeft_eq, ← Nat.shiftLeft_add_eq_or_of_lt (by omega), Nat.shiftLeft_eq]
 omega
theorem acN : ∀ (k : Nat) (x v : Int), k ≤ 8 → -9223372036854775808 ≤ x → x ≤ 9223372036854775807 → aaL x (be k v) = IntKind.i64.wrap (x * 256 ^ k + v % 256 ^ k)
 | 0, x, v, _, h1, h2 => by
  simp only [be, aaL, Int.pow_zero, Int.mul_one, Int.emod_one, Int.add_zero]
  rw [wi _ h1 h2]
 | k + 1, x, v, hk, h1, h2 => by
  have hb : ∃ q, IntKind.u8.wrap (Int.fdiv v (2 ^ (8 * k))) = q ∧ 0 ≤ q ∧ q < 256 ∧ q = (v / 256 ^ k) % 256 := by
   refine ⟨_, rfl, ?_⟩
   rw [IntKind.wrap_u8, Int.fdiv_eq_ediv_of_nonneg _ (Int.le_of_lt (Int.pow_pos (by omega))), Int.pow_mul, show ((2 : Int) ^ 8) = 256 from rfl]
   omega
  obtain ⟨q, e1, q0, q1, q2⟩ := hb
  have hw : -9223372036854775808 ≤ IntKind.i64.wrap (x * 256 + q) ∧ IntKind.i64.wrap (x * 256 + q) ≤ 9223372036854775807 := by rw [IntKind.wrap_i64]; omega
  simp only [be, aaL, e1]
  rw [acM x q q0 q1, acN k _ v (by omega) hw.1 hw.2]
  refine acL ?_
  have := VH (x * 256 + q)
  rw [q2] at *
  have hk' : k = 0 ∨ k = 1 ∨ k = 2 ∨ k = 3 ∨ k = 4 ∨ k = 5 ∨ k = 6 ∨ k = 7 := by omega
  rcases hk' with rfl | rfl | rfl | rfl | rfl | rfl | rfl | rfl <;> simp only [Int.reducePow, Nat.reduceAdd] at * <;> omega
def eZ (k : Int) (b : List Int) (bad : Bool) : Int × List Int × Bool := (aaL 0 (eX k b bad).1, (eX k b bad).2.1, (eX k b bad).2.2)
theorem Xv (n : Nat) (b : List Int) (hb : b.length ≤ 1000) (h0 : List Int) (h1 : Bool) : ∀ (r : List Int) (i m : Nat) (x : Int), b.drop i = r → r.length < m → dR n m x b (b.length : Int) (i : Int) h0 h1 = some (aaL x r, h0, h1)
 | [], i, m + 1, x, h, _ => by
  have hi := drop_nil h
  simp only [dR, jZ]
  rw [af (by omega)]
  rfl
 | c :: r, i, m + 1, x, h, hm => by
  obtain ⟨k1, k2, k3⟩ := dV h
  simp only [List.length_cons] at hm
  simp only [dR, jZ]
  rw [aa (by omega), aa (by omega), Int.toNat_natCast, k1, pK _ (by omega)]
  simp only [Option.bind_some]
  exact Xv n b hb h0 h1 r (i + 1) m _ k2 (by omega)
theorem acO (k : Int) (b : List Int) (bad : Bool) : (eX k b bad).1.length ≤ k.toNat := by
 unfold eX
 split
 ·simp
 ·simp; omega
theorem Kl (n : Nat) (hn : 20 ≤ n) (k : Int) (hk : k ≤ 15) (b : List Int) (bad : Bool) : bn n k b bad = some (eZ k b bad) := by
 unfold bn tV eZ
 rw [Iw]
 have hl := acO k b bad
 have e := Xv n (eX k b bad).1 (by omega) (eX k b bad).2.1 (eX k b bad).2.2 (eX k b bad).1 0 n 0 (by simp) (by omega)
 simp only [Int.natCast_zero] at e
 simp only [Option.bind_some, e]
theorem Km (k : Nat) (hk : k ≤ 8) (v : Int) (r : List Int) (bad : Bool) : eZ (k : Int) (be k v ++ r) bad = (IntKind.i64.wrap (v % 256 ^ k), r, bad) := by
 have h := Dz (be k v) r bad
 rw [vL] at h
 unfold eZ
 rw [h, acN k 0 v hk (by omega) (by omega)]
 simp
theorem nL (k : Int) (b : List Int) : (eZ k b true).2.2 = true := Nh k b
theorem yG {k : Int} {b : List Int} {bad : Bool} (h : (b.length : Int) < k) : eZ k b bad = (0, [], true) := by
 unfold eZ
 rw [Q8 h]; rfl
theorem K8 (k : Nat) (b : List Int) (bad : Bool) : (eZ (k : Int) b bad).2.1.length = b.length - k := Kk k b bad
def Cy (b : List Int) (bad : Bool) : Int × Int × Int × Int × Int × Int × Int × List Int × Bool :=
 let t := eX 4 b bad
 let v := eZ 1 t.2.1 (!(yN t.1 == ([84, 90, 105, 102] : Str)) || t.2.2)
 let s := eX 15 v.2.1 v.2.2
 let c1 := eZ 4 s.2.1 s.2.2
 let c2 := eZ 4 c1.2.1 c1.2.2
 let c3 := eZ 4 c2.2.1 c2.2.2
 let c4 := eZ 4 c3.2.1 c3.2.2
 let c5 := eZ 4 c4.2.1 c4.2.2
 let c6 := eZ 4 c5.2.1 c5.2.2
 (IntKind.u8.wrap v.1, c1.1, c2.1, c3.1, c4.1, c5.1, c6.1, c6.2.1, c6.2.2 || (IntKind.u8.wrap v.1 != 0 && (IntKind.u8.wrap v.1 != 50 && IntKind.u8.wrap v.1 != 51)))
theorem adT {α : Type} (L : Bool) (v : Int) (K : Bool → α) : cond L (K true) (cond (v != 0) (cond (v != 50) (K (v != 51)) (K false)) (K false)) = K (L || (v != 0 && (v != 50 && v != 51))) := by
 cases L <;> cases v != 0 <;> cases v != 50 <;> cases v != 51 <;> rfl
theorem Kn (n : Nat) (hn : 20 ≤ n) (b : List Int) (bad : Bool) : pF n b bad = some (Cy b bad) := by
 have hj : nO n b bad 0 0 0 0 0 0 0 = some ((eX 4 b bad).2.1, (!(yN (eX 4 b bad).1 == ([84, 90, 105, 102] : Str)) || (eX 4 b bad).2.2), 0, 0, 0, 0, 0, 0, 0) := by
  unfold nO qh
  rw [Iw]
  simp only [Option.bind_some]
  cases yN (eX 4 b bad).1 == ([84, 90, 105, 102] : Str) <;> rfl
 have q0 : decide ((0 : Int) < 6) = true := by decide
 have w1 : IntKind.i64.wrap ((0 : Int) + 1) = 1 := by decide
 have w2 : IntKind.i64.wrap ((1 : Int) + 1) = 2 := by decide
 have w3 : IntKind.i64.wrap ((2 : Int) + 1) = 3 := by decide
 have w4 : IntKind.i64.wrap ((3 : Int) + 1) = 4 := by decide
 have w5 : IntKind.i64.wrap ((4 : Int) + 1) = 5 := by decide
 have w6 : IntKind.i64.wrap ((5 : Int) + 1) = 6 := by decide
 have q1 : decide ((1 : Int) < 6) = true := by decide
 have q2 : decide ((2 : Int) < 6) = true := by decide
 have q3 : decide ((3 : Int) < 6) = true := by decide
 have q4 : decide ((4 : Int) < 6) = true := by decide
 have q5 : decide ((5 : Int) < 6) = true := by decide
 have q6 : decide ((6 : Int) < 6) = false := by decide
 unfold pF vw Cy
 simp only [hj, Option.bind_some, Kl n hn 1 (by omega), Kl n hn 4 (by omega), Iw, w1, w2, w3, w4, w5, w6, q0, q1, q2, q3, q4, q5, q6, cond_true, cond_false]
 exact adT _ _ (fun q => some (_, _, _, _, _, _, _, _, q))
theorem aff {x y : Bool} (h : x = true) : (x || y) = true := by rw [h]; rfl
theorem UV (b : List Int) : (Cy b true).2.2.2.2.2.2.2.2 = true := by
 simp only [Cy]
 refine aff ?_
 generalize hv : eZ 1 (eX 4 b true).2.1 (!(yN (eX 4 b true).1 == ([84, 90, 105, 102] : Str)) || (eX 4 b true).2.2) = v
 have h0 : v.2.2 = true := by
  rw [← hv, Nh, Bool.or_true]
  exact nL _ _
 rw [h0]
 have h1 := Nh 15 v.2.1
 generalize eX 15 v.2.1 true = s at h1
 rw [h1]
 have h2 := nL 4 s.2.1
 generalize eZ 4 s.2.1 true = c1 at h2
 rw [h2]
 have h3 := nL 4 c1.2.1
 generalize eZ 4 c1.2.1 true = c2 at h3
 rw [h3]
 have h4 := nL 4 c2.2.1
 generalize eZ 4 c2.2.1 true = c3 at h4
 rw [h4]
 have h5 := nL 4 c3.2.1
 generalize eZ 4 c3.2.1 true = c4 at h5
 rw [h5]
 have h6 := nL 4 c4.2.1
 generalize eZ 4 c4.2.1 true = c5 at h6
 rw [h6]
 exact nL 4 c5.2.1
theorem Q9 {b : List Int} {bad : Bool} (h : b.length < 44) : (Cy b bad).2.2.2.2.2.2.2.2 = true := by
 simp only [Cy]
 refine aff ?_
 generalize hv : eZ 1 (eX 4 b bad).2.1 (!(yN (eX 4 b bad).1 == ([84, 90, 105, 102] : Str)) || (eX 4 b bad).2.2) = v
 have l1 : v.2.1.length = b.length - 4 - 1 := by
  rw [← hv]
  have h2 : (eX (4 : Int) b bad).2.1.length = b.length - 4 := Kk 4 b bad
  rw [← h2]
  exact K8 1 (eX 4 b bad).2.1 (!(yN (eX 4 b bad).1 == ([84, 90, 105, 102] : Str)) || (eX 4 b bad).2.2)
 have key4 : ∀ (l : List Int) (q : Bool), (eZ 4 l q).2.1.length = l.length - 4 := fun l q => K8 4 l q
 have l2 : (eX 15 v.2.1 v.2.2).2.1.length = b.length - 4 - 1 - 15 := by
  have := Kk 15 v.2.1 v.2.2
  rw [l1] at this
  exact this
 generalize eX 15 v.2.1 v.2.2 = s at l2
 by_cases hb : b.length - 20 < 4
 ·rw [yG (k := 4) (b := s.2.1) (by omega)]
  simp only [nL]
 have a1 := key4 s.2.1 s.2.2
 generalize eZ 4 s.2.1 s.2.2 = c1 at a1
 by_cases hb1 : c1.2.1.length < 4
 ·rw [yG (k := 4) (b := c1.2.1) (by omega)]
  simp only [nL]
 have a2 := key4 c1.2.1 c1.2.2
 generalize eZ 4 c1.2.1 c1.2.2 = c2 at a2
 by_cases hb2 : c2.2.1.length < 4
 ·rw [yG (k := 4) (b := c2.2.1) (by omega)]
  simp only [nL]
 have a3 := key4 c2.2.1 c2.2.2
 generalize eZ 4 c2.2.1 c2.2.2 = c3 at a3
 by_cases hb3 : c3.2.1.length < 4
 ·rw [yG (k := 4) (b := c3.2.1) (by omega)]
  simp only [nL]
 have a4 := key4 c3.2.1 c3.2.2
 generalize eZ 4 c3.2.1 c3.2.2 = c4 at a4
 by_cases hb4 : c4.2.1.length < 4
 ·rw [yG (k := 4) (b := c4.2.1) (by omega)]
  simp only [nL]
 have a5 := key4 c4.2.1 c4.2.2
 generalize eZ 4 c4.2.1 c4.2.2 = c5 at a5
 rw [yG (k := 4) (b := c5.2.1) (by omega)]
end Go.Proofs.YtiegmpnagcdgoaaGreatDoor.H.Z
namespace Go.Proofs.YtiegmpnagcdgoaaGreatDoor.H.Z
open Go.Sh Go.RowKit
set_option linter.unusedSimpArgs false
set_option linter.unusedVariables false
theorem UW (n : Nat) (hn : 20 ≤ n) (v : Int) (h1 : -2147483648 ≤ v) (h2 : v ≤ 2147483647) (r : List Int) (bad : Bool) : nP n (be 4 v ++ r) bad = some (v, r, bad) := by
 unfold nP tX
 have this : eZ (4 : Int) (be 4 v ++ r) bad = (IntKind.i64.wrap (v % 256 ^ 4), r, bad) := Km 4 (by omega) v r bad
 rw [Kl n hn 4 (by omega), this, show ((256 : Int) ^ 4) = 4294967296 from rfl, wi _ (by omega) (by omega)]
 have e : IntKind.i32.wrap (v % 4294967296) = v := by rw [IntKind.wrap_i32]; omega
 simp only [Option.bind_some, e]
 rw [wi _ (by omega) (by omega)]
theorem MN (n : Nat) (hn : 20 ≤ n) (v : Int) (h1 : -9223372036854775808 ≤ v) (h2 : v ≤ 9223372036854775807) (r : List Int) (bad : Bool) : vI n (be 8 v ++ r) bad = some (v, r, bad) := by
 unfold vI vH
 have this : eZ (8 : Int) (be 8 v ++ r) bad = (IntKind.i64.wrap (v % 256 ^ 8), r, bad) := Km 8 (by omega) v r bad
 have e : IntKind.i64.wrap (v % 256 ^ 8) = v := by rw [show ((256 : Int) ^ 8) = 18446744073709551616 from rfl, IntKind.wrap_i64]; omega
 rw [Kl n hn 8 (by omega), this, e]
 rfl
theorem Tf (n : Nat) (hn : 20 ≤ n) (v : Int) (h1 : 0 ≤ v) (h2 : v ≤ 255) (r : List Int) (bad : Bool) : lF n (be 1 v ++ r) bad = some (v, r, bad) := by
 unfold lF vz
 have this : eZ (1 : Int) (be 1 v ++ r) bad = (IntKind.i64.wrap (v % 256 ^ 1), r, bad) := Km 1 (by omega) v r bad
 have e : IntKind.i64.wrap (v % 256 ^ 1) = v := by rw [show ((256 : Int) ^ 1) = 256 from rfl, wi _ (by omega) (by omega)]; omega
 rw [Kl n hn 1 (by omega), this, e]
 rfl
theorem afg (n : Nat) (hn : 20 ≤ n) (T : Nat) (hT : T ≤ 4000) : ∀ (xs : List Int) (i m : Nat) (acc r : List Int) (bad : Bool), i + xs.length = T → xs.length < m → (∀ x ∈ xs, -9223372036854775808 ≤ x ∧ x ≤ 9223372036854775807) → acc.length = i →
 eU n m acc (T : Int) (i : Int) (xs.flatMap (be 8) ++ r) bad = some (acc ++ xs, r, bad)
 | [], i, m + 1, acc, r, bad, hi, _, _, _ => by
  simp only [List.length_nil] at hi
  simp only [eU, lg]
  rw [af (by omega)]
  simp
 | x :: xs, i, m + 1, acc, r, bad, hi, hm, hx, ha => by
  simp only [List.length_cons] at hi hm
  obtain ⟨x1, x2⟩ := hx x (by simp)
  have e : (x :: xs).flatMap (be 8) ++ r = be 8 x ++ (xs.flatMap (be 8) ++ r) := by simp
  simp only [eU, lg]
  rw [aa (by omega), e, MN n hn x (by omega) (by omega), pK _ (by omega)]
  simp only [Option.bind_some]
  rw [aa (by simp only [List.length_cons, List.length_nil]; omega), afg n hn T hT xs (i + 1) m _ r bad (by omega) (by omega) (fun y hy => hx y (by simp [hy])) (by simp; omega)]
  simp
theorem afh (n : Nat) (hn : 20 ≤ n) (T : Nat) (hT : T ≤ 4000) : ∀ (xs : List Int) (i m : Nat) (acc r : List Int) (bad : Bool), i + xs.length = T → xs.length < m → (∀ x ∈ xs, -2147483648 ≤ x ∧ x ≤ 2147483647) → acc.length = i →
 iq n m acc (T : Int) (i : Int) (xs.flatMap (be 4) ++ r) bad = some (acc ++ xs, r, bad)
 | [], i, m + 1, acc, r, bad, hi, _, _, _ => by
  simp only [List.length_nil] at hi
  simp only [iq, nQ]
  rw [af (by omega)]
  simp
 | x :: xs, i, m + 1, acc, r, bad, hi, hm, hx, ha => by
  simp only [List.length_cons] at hi hm
  obtain ⟨x1, x2⟩ := hx x (by simp)
  have e : (x :: xs).flatMap (be 4) ++ r = be 4 x ++ (xs.flatMap (be 4) ++ r) := by simp
  simp only [iq, nQ]
  rw [aa (by omega), e, UW n hn x (by omega) (by omega), pK _ (by omega)]
  simp only [Option.bind_some]
  rw [aa (by simp only [List.length_cons, List.length_nil]; omega), afh n hn T hT xs (i + 1) m _ r bad (by omega) (by omega) (fun y hy => hx y (by simp [hy])) (by simp; omega)]
  simp
theorem aeO (n : Nat) (hn : 20 ≤ n) (T : Nat) (hT : T ≤ 4000) : ∀ (xs : List Int) (i m : Nat) (acc r : List Int) (bad : Bool), i + xs.length = T → xs.length < m → (∀ x ∈ xs, 0 ≤ x ∧ x ≤ 255) → acc.length = i →
 kw n m acc (T : Int) (i : Int) (xs.flatMap (be 1) ++ r) bad = some (acc ++ xs, r, bad)
 | [], i, m + 1, acc, r, bad, hi, _, _, _ => by
  simp only [List.length_nil] at hi
  simp only [kw, rG]
  rw [af (by omega)]
  simp
 | x :: xs, i, m + 1, acc, r, bad, hi, hm, hx, ha => by
  simp only [List.length_cons] at hi hm
  obtain ⟨x1, x2⟩ := hx x (by simp)
  have e : (x :: xs).flatMap (be 1) ++ r = be 1 x ++ (xs.flatMap (be 1) ++ r) := by simp
  simp only [kw, rG]
  rw [aa (by omega), e, Tf n hn x (by omega) (by omega), pK _ (by omega)]
  simp only [Option.bind_some]
  rw [aa (by simp only [List.length_cons, List.length_nil]; omega), aeO n hn T hT xs (i + 1) m _ r bad (by omega) (by omega) (fun y hy => hx y (by simp [hy])) (by simp; omega)]
  simp
theorem VI (s : Str) : Lib.bytesOf (dN s) = s := by
 unfold Lib.bytesOf dN
 rw [List.map_map]
 conv => rhs; rw [← List.map_id s]
 exact List.map_congr_left fun b _ => by simp
theorem Xw (s : Str) : Qf (dN s) = true := by
 unfold Qf dN
 rw [List.all_eq_true]
 intro x hx
 obtain ⟨b, _, rfl⟩ := List.mem_map.1 hx
 have := b.toNat_lt
 simp; omega
end Go.Proofs.YtiegmpnagcdgoaaGreatDoor.H.Z
namespace Go.Proofs.YtiegmpnagcdgoaaGreatDoor.H.Z
open Go.Sh Go.RowKit
set_option linter.unusedSimpArgs false
set_option linter.unusedVariables false
theorem K9 (n : Nat) (v c1 c2 c3 c4 c5 c6 w : Int) (b : List Int) : bL n v c1 c2 c3 c4 c5 c6 w b true = some ([], [], [], [], b, true) := by
 unfold bL iB dz iL
 rfl
theorem aaM (n : Nat) (v c1 c2 c3 c4 c5 c6 w : Int) (b : List Int) : dH n v c1 c2 c3 c4 c5 c6 w b true = some ([], [], [], [], b, true) := by
 unfold dH kr mK oG
 rfl
abbrev Zo := List (List AV) × List Int × List Int × Str × List Int × Bool
theorem Xx (n : Nat) (b : List Int) (z0 : List (List AV)) (z1 z2 : List Int) (z3 : Str) (a0 a1 a2 a3 a4 a5 a6 b0 b1 b2 b3 b4 b5 b6 : Int) (y0 : List (List AV)) (y1 y2 : List Int) (y3 : Str) :
 ku n b true z0 z1 z2 z3 a0 a1 a2 a3 a4 a5 a6 b0 b1 b2 b3 b4 b5 b6 y0 y1 y2 y3 = some (b, true, z0, z1, z2, z3, a0, a1, a2, a3, a4, a5, a6, b0, b1, b2, b3, b4, b5, b6, y0, y1, y2, y3) := rfl
theorem Xy (n : Nat) (hn : 20 ≤ n) (b : List Int) (h : (Cy b false).2.2.2.2.2.2.2.2 = true) : ∃ x : Zo, bB n b false = some x ∧ x.2.2.2.2.2 = true := by
 unfold bB lG
 rw [Kn n hn]
 generalize Cy b false = o at h
 simp only [Option.bind_some, h]
 cases hv : o.1 == 0 with
 | true => rw [cond_true, aaM]; exact ⟨_, rfl, rfl⟩
 | false =>
  simp only [cond_false, gM, uz, Option.bind_some, Iw, Kn n hn]
  generalize hl : IntKind.i64.wrap _ = l
  have h2 := Nh l o.2.2.2.2.2.2.2.1
  generalize eX l o.2.2.2.2.2.2.2.1 true = t at h2
  have h3 := UV t.2.1
  rw [h2]
  generalize Cy t.2.1 true = p at h3
  simp only [h3, K9, Option.bind_some, Xx]
  exact ⟨_, rfl, rfl⟩
theorem Zu {b : List Int} {bad : Bool} (h : (Cy b bad).2.2.2.2.2.2.2.2 = true) : ∃ v2 d1 d2 d3 d4 d5 d6 r3, Cy b bad = (v2, d1, d2, d3, d4, d5, d6, r3, true) := by
 generalize Cy b bad = o at h
 obtain ⟨a0, a1, a2, a3, a4, a5, a6, a7, a8⟩ := o
 simp only at h
 subst h
 exact ⟨a0, a1, a2, a3, a4, a5, a6, a7, rfl⟩
def zR (t : List Int) : Bool := decide (t.length < 2) || t.getD 0 0 != 10 || t.getD (t.length - 1) 0 != 10
theorem aaN (n : Nat) (b : List Int) (h : ∃ x : Zo, bB n b false = some x ∧ x.2.2.2.2.2 = true) : iZ n b = some ([], [], [], [], 60) := by
 obtain ⟨x, h1, h2⟩ := h
 unfold iZ vK
 rw [h1]
 simp only [Option.bind_some, h2]
 rfl
theorem Xz (n : Nat) (hn : 4001 ≤ n) (b : List Int) (ts : List Ty) (ti ix : List Int) (foot : Str) (h : bB n b false = some (ts.map cT, ti, ix, foot, [], false)) (hR : RightS ts ti ix foot = true) : iZ n b = some (ts.map cT, ti, ix, foot, 0) := by
 unfold iZ vK
 rw [h]
 simp only [Option.bind_some, cond_false, List.length_nil, Int.natCast_zero]
 rw [af (by omega), right_val n hn, hR]
 rfl
def SK (ts : List Ty) (ti : List Int) : List Int := aed [0, 0, 0, 0, 1, 1] ++ (List.replicate 7 0 ++ aed [0, 0, 0, (ti.length : Int), (ts.length : Int), (Rk ts : Int)])
end Go.Proofs.YtiegmpnagcdgoaaGreatDoor.H.Z
namespace Go.Proofs.YtiegmpnagcdgoaaGreatDoor.H.Z
open Go.Sh Go.RowKit
set_option linter.unusedSimpArgs false
set_option linter.unusedVariables false
abbrev BY (l : List Int) : Prop := ∀ x ∈ l, 0 ≤ x ∧ x < 256
theorem BY.drop {l : List Int} (h : BY l) (k : Nat) : BY (l.drop k) := fun x hx => h x (List.mem_of_mem_drop hx)
theorem BY.take {l : List Int} (h : BY l) (k : Nat) : BY (l.take k) := fun x hx => h x (List.mem_of_mem_take hx)
theorem BY.right {l m : List Int} (h : BY (l ++ m)) : BY m := fun x hx => h x (by simp [hx])
theorem afi {l : List Int} (h : l.length = 1) : ∃ a, l = [a] := by
 match l, h with
 | [a], _ => exact ⟨a, rfl⟩
theorem afj {l : List Int} (h : l.length = 4) : ∃ a b c d, l = [a, b, c, d] := by
 match l, h with
 | [a, b, c, d], _ => exact ⟨a, b, c, d, rfl⟩
theorem afk {l : List Int} (h : l.length = 8) : ∃ a b c d e f g i, l = [a, b, c, d, e, f, g, i] := by
 match l, h with
 | [a, b, c, d, e, f, g, i], _ => exact ⟨a, b, c, d, e, f, g, i, rfl⟩
theorem YE (v : Int) : be 1 v = [IntKind.u8.wrap (Int.fdiv v (2 ^ 0))] := by simp [be]
theorem fd0 (v : Int) : Int.fdiv v 1 = v := by rw [Int.fdiv_eq_ediv_of_nonneg _ (by decide), Int.ediv_one]
theorem fd1 (v : Int) : Int.fdiv v 256 = v / 256 := Int.fdiv_eq_ediv_of_nonneg _ (by decide)
theorem fd2 (v : Int) : Int.fdiv v 65536 = v / 65536 := Int.fdiv_eq_ediv_of_nonneg _ (by decide)
theorem fd3 (v : Int) : Int.fdiv v 16777216 = v / 16777216 := Int.fdiv_eq_ediv_of_nonneg _ (by decide)
theorem fd4 (v : Int) : Int.fdiv v 4294967296 = v / 4294967296 := Int.fdiv_eq_ediv_of_nonneg _ (by decide)
theorem fd5 (v : Int) : Int.fdiv v 1099511627776 = v / 1099511627776 := Int.fdiv_eq_ediv_of_nonneg _ (by decide)
theorem fd6 (v : Int) : Int.fdiv v 281474976710656 = v / 281474976710656 := Int.fdiv_eq_ediv_of_nonneg _ (by decide)
theorem fd7 (v : Int) : Int.fdiv v 72057594037927936 = v / 72057594037927936 := Int.fdiv_eq_ediv_of_nonneg _ (by decide)
theorem VJ {l : List Int} (h : l.length = 1) (hb : BY l) : ∃ v, (0 ≤ v ∧ v ≤ 255) ∧ l = be 1 v := by
 obtain ⟨a, rfl⟩ := afi h
 obtain ⟨a0, a1⟩ := hb a (by simp)
 refine ⟨a, ⟨a0, by omega⟩, ?_⟩
 simp only [be, Nat.mul_zero, Int.pow_zero, fd0, IntKind.wrap_u8]
 rw [show a % 256 = a by omega]
theorem Zv {l : List Int} (h : l.length = 4) (hb : BY l) : ∃ v, (0 ≤ v ∧ v < 4294967296) ∧ l = be 4 v := by
 obtain ⟨a, b, c, d, rfl⟩ := afj h
 obtain ⟨a0, a1⟩ := hb a (by simp)
 obtain ⟨b0, b1⟩ := hb b (by simp)
 obtain ⟨c0, c1⟩ := hb c (by simp)
 obtain ⟨d0, d1⟩ := hb d (by simp)
 refine ⟨a * 16777216 + b * 65536 + c * 256 + d, ⟨by omega, by omega⟩, ?_⟩
 simp only [be, Nat.reduceMul, Int.reducePow, Nat.mul_zero, Int.pow_zero, fd0, fd1, fd2, fd3, fd4, fd5, fd6, fd7, IntKind.wrap_u8, List.cons.injEq, and_true]
 refine ⟨by omega, by omega, by omega, by omega⟩
theorem aaO (v : Int) : be 4 (v - 4294967296) = be 4 v := by
 simp only [be, Nat.reduceMul, Int.reducePow, Nat.mul_zero, Int.pow_zero, fd0, fd1, fd2, fd3, fd4, fd5, fd6, fd7, IntKind.wrap_u8, List.cons.injEq, and_true]
 refine ⟨by omega, by omega, by omega, by omega⟩
theorem acP {l : List Int} (h : l.length = 4) (hb : BY l) : ∃ v, (-2147483648 ≤ v ∧ v ≤ 2147483647) ∧ l = be 4 v := by
 obtain ⟨v, hv, rfl⟩ := Zv h hb
 by_cases c : v ≤ 2147483647
 ·exact ⟨v, ⟨by omega, c⟩, rfl⟩
 ·exact ⟨v - 4294967296, ⟨by omega, by omega⟩, (aaO v).symm⟩
theorem aaP (v : Int) : be 8 (v - 18446744073709551616) = be 8 v := by
 simp only [be, Nat.reduceMul, Int.reducePow, Nat.mul_zero, Int.pow_zero, fd0, fd1, fd2, fd3, fd4, fd5, fd6, fd7, IntKind.wrap_u8, List.cons.injEq, and_true]
 refine ⟨by omega, by omega, by omega, by omega, by omega, by omega, by omega, by omega⟩
theorem aeP {l : List Int} (h : l.length = 8) (hb : BY l) : ∃ v, (-9223372036854775808 ≤ v ∧ v ≤ 9223372036854775807) ∧ l = be 8 v := by
 obtain ⟨a, b, c, d, e, f, g, i, rfl⟩ := afk h
 obtain ⟨a0, a1⟩ := hb a (by simp)
 obtain ⟨b0, b1⟩ := hb b (by simp)
 obtain ⟨c0, c1⟩ := hb c (by simp)
 obtain ⟨d0, d1⟩ := hb d (by simp)
 obtain ⟨e0, e1⟩ := hb e (by simp)
 obtain ⟨f0, f1⟩ := hb f (by simp)
 obtain ⟨g0, g1⟩ := hb g (by simp)
 obtain ⟨i0, i1⟩ := hb i (by simp)
 have key : [a, b, c, d, e, f, g, i] = be 8 (a * 72057594037927936 + b * 281474976710656 + c * 1099511627776 + d * 4294967296 + e * 16777216 + f * 65536 + g * 256 + i) := by
  simp only [be, Nat.reduceMul, Int.reducePow, Nat.mul_zero, Int.pow_zero, fd0, fd1, fd2, fd3, fd4, fd5, fd6, fd7, IntKind.wrap_u8, List.cons.injEq, and_true]
  refine ⟨by omega, by omega, by omega, by omega, by omega, by omega, by omega, by omega⟩
 by_cases q : a * 72057594037927936 + b * 281474976710656 + c * 1099511627776 + d * 4294967296 + e * 16777216 + f * 65536 + g * 256 + i ≤ 9223372036854775807
 ·exact ⟨_, ⟨by omega, q⟩, key⟩
 ·exact ⟨_ - 18446744073709551616, ⟨by omega, by omega⟩, key.trans (aaP _).symm⟩
theorem chunks {α : Type} (f : α → List Int) (k : Nat) (P : α → Prop) (hk : ∀ l : List Int, l.length = k → BY l → ∃ v, P v ∧ l = f v) : ∀ (T : Nat) (l : List Int), l.length = k * T → BY l → ∃ xs : List α, xs.length = T ∧ (∀ x ∈ xs, P x) ∧ l = xs.flatMap f
 | 0, l, hl, _ => ⟨[], rfl, by simp, by simpa using List.eq_nil_of_length_eq_zero (by simpa using hl)⟩
 | T + 1, l, hl, hb => by
  have e : k * (T + 1) = k * T + k := by rw [Nat.mul_add, Nat.mul_one]
  obtain ⟨v, hv, h1⟩ := hk (l.take k) (by rw [List.length_take]; omega) (hb.take k)
  obtain ⟨xs, h2, h3, h4⟩ := chunks f k P hk T (l.drop k) (by rw [List.length_drop]; omega) (hb.drop k)
  refine ⟨v :: xs, by simp [h2], fun x hx => ?_, ?_⟩
  ·rcases List.mem_cons.1 hx with rfl | hx
   ·exact hv
   ·exact h3 x hx
  ·rw [List.flatMap_cons, ← h1, ← h4, List.take_append_drop]
abbrev Kd := Int × Int × Int
def kb (k : Kd) : List Int := be 4 k.1 ++ (be 1 k.2.1 ++ be 1 k.2.2)
def kA (k : Kd) : List AV := [.int .i64 k.1, .int .i64 k.2.1, .int .i64 k.2.2]
def KOk (k : Kd) : Prop := (-2147483648 ≤ k.1 ∧ k.1 ≤ 2147483647) ∧ (0 ≤ k.2.1 ∧ k.2.1 ≤ 255) ∧ 0 ≤ k.2.2 ∧ k.2.2 ≤ 255
theorem VK (k : Kd) : (kb k).length = 6 := by simp [kb, vL]
theorem afl {l : List Int} (h : l.length = 6) (hb : BY l) : ∃ k : Kd, KOk k ∧ l = kb k := by
 obtain ⟨a, ha, h1⟩ := acP (l := l.take 4) (by rw [List.length_take]; omega) (hb.take 4)
 obtain ⟨b, hb1, h2⟩ := VJ (l := (l.drop 4).take 1) (by rw [List.length_take, List.length_drop]; omega) ((hb.drop 4).take 1)
 obtain ⟨c, hc, h3⟩ := VJ (l := (l.drop 4).drop 1) (by rw [List.length_drop, List.length_drop]; omega) ((hb.drop 4).drop 1)
 refine ⟨(a, b, c), ⟨ha, hb1, hc⟩, ?_⟩
 simp only [kb]
 rw [← h1, ← h2, ← h3, List.take_append_drop, List.take_append_drop]
theorem Cz {α : Type} {f : α → List Int} {k : Nat} (hf : ∀ x, (f x).length = k) : ∀ (xs : List α), (xs.flatMap f).length = k * xs.length
 | [] => by simp
 | x :: xs => by rw [List.flatMap_cons, List.length_append, hf, Cz hf xs, List.length_cons, Nat.mul_add]; omega
def upZ : List Int → Option (List Int)
 | [] => none
 | c :: r => if c = 0 then some [] else (upZ r).map (c :: ·)
theorem Tg : ∀ {l : List Int}, BY l → ∃ s : Str, l = dN s
 | [], _ => ⟨[], rfl⟩
 | c :: l, h => by
  obtain ⟨s, rfl⟩ := Tg (l := l) fun x hx => h x (by simp [hx])
  obtain ⟨c0, c1⟩ := h c (by simp)
  refine ⟨UInt8.ofNat c.toNat :: s, ?_⟩
  rw [QZ]
  congr 1
  rw [UInt8.toNat_ofNat_of_lt' (show c.toNat < 256 by omega)]
  omega
theorem acQ : ∀ (s : Str), (∀ p, upZ (dN s) = some p → Lib.indexByte s 0 = (p.length : Int) ∧ (dN s).take p.length = p) ∧ (upZ (dN s) = none → Lib.indexByte s 0 = -1)
 | [] => ⟨fun p h => by simp [upZ, dN] at h, fun _ => rfl⟩
 | c :: s => by
  obtain ⟨h1, h2⟩ := acQ s
  rw [QZ]
  by_cases hc : c = 0
  ·subst hc
   refine ⟨fun p h => ?_, fun h => ?_⟩
   ·simp [upZ] at h
    subst h
    simp [Lib.indexByte]
   ·simp [upZ] at h
  ·have hz : ¬((c.toNat : Int) = 0) := fun h => hc (by
    apply UInt8.toNat_inj.1
    rw [show (0 : UInt8).toNat = 0 from rfl]; omega)
   have hb : (c == 0) = false := by simpa using hc
   cases hu : upZ (dN s) with
   | none =>
    have := h2 hu
    refine ⟨fun p h => ?_, fun _ => ?_⟩
    ·simp only [upZ, if_neg hz, hu, Option.map_none] at h
     cases h
    ·simp [Lib.indexByte, hb, this]
   | some q =>
    obtain ⟨k1, k2⟩ := h1 q hu
    refine ⟨fun p h => ?_, fun h => ?_⟩
    ·simp only [upZ, if_neg hz, hu, Option.map_some, Option.some.injEq] at h
     subst h
     have hne : ((q.length : Int) == -1) = false := by simp
     refine ⟨?_, by simp [k2]⟩
     simp only [Lib.indexByte, hb, k1, hne, List.length_cons]
     simp
    ·simp only [upZ, if_neg hz, hu, Option.map_some] at h
     cases h
theorem adU (n : Nat) {l : List Int} (hb : BY l) (hl : l.length ≤ 100000) : ∃ r, Qg n l [0] = some (match upZ l with | some p => (p, r, true) | none => (l, r, false)) := by
 obtain ⟨s, rfl⟩ := Tg hb
 have hI : WR (dN s) [0] = Lib.indexByte s 0 := by
  unfold WR
  rw [VI, show Lib.bytesOf [0] = [0] from rfl, Lib.index_one]
 obtain ⟨h1, h2⟩ := acQ s
 unfold Qg LC
 rw [hI, Xw, decide_eq_true (show (dN s).length < 4294967281 by omega)]
 rw [show (true && Qf [0] && true && decide (([0] : List Int).length ≤ 9223372036854775807)) = true by decide, cond_true]
 cases hu : upZ (dN s) with
 | none =>
  rw [h2 hu, af (by omega)]
  exact ⟨_, rfl⟩
 | some p =>
  obtain ⟨k1, k2⟩ := h1 p hu
  rw [k1, aa (by omega), Int.toNat_natCast, k2]
  exact ⟨_, rfl⟩
def nameAt (nm : List Int) (at_ : Nat) : Option Str := (upZ (nm.drop at_)).map yN
def mkT (nm : List Int) (k : Kd) : Option Ty := match nameAt nm k.2.2.toNat with
 | none => none
 | some s => if k.2.1 > 1 then none else some (k.1, k.2.1 == 1, s)
def Ko (nm : List Int) : List Kd → Option (List Ty)
 | [] => some []
 | k :: r => match mkT nm k with
  | none => none
  | some t => (Ko nm r).map (t :: ·)
end Go.Proofs.YtiegmpnagcdgoaaGreatDoor.H.Z
namespace Go.Proofs.YtiegmpnagcdgoaaGreatDoor.H.Z
open Go.Sh Go.RowKit
set_option linter.unusedSimpArgs false
set_option linter.unusedVariables false
def jb (w u s l T K N : Nat) : Nat := T * (w + 1) + K * 6 + N + l * (w + 4) + s + u
def La (u s l T K N : Nat) : Bool := decide (1 ≤ K) && (decide (K ≤ 255) && (decide (T ≤ 4000) && (decide (1 ≤ N) && (decide (N ≤ 4096) && (decide (l ≤ 1000) && ((Nat.beq s 0 || Nat.beq s K) && (Nat.beq u 0 || Nat.beq u K)))))))
theorem Iy {u s l T K N : Nat} (h : La u s l T K N = true) : 1 ≤ K ∧ K ≤ 255 ∧ T ≤ 4000 ∧ 1 ≤ N ∧ N ≤ 4096 ∧ l ≤ 1000 ∧ s ≤ 255 ∧ u ≤ 255 := by
 simp only [La, Bool.and_eq_true, Bool.or_eq_true, decide_eq_true_eq, Nat.beq_eq] at h
 omega
theorem XA (n : Nat) (x : Nat) (v : Int) (u s l T K N : Nat) : rF n (x : Int) v (u : Int) (s : Int) (l : Int) (T : Int) (K : Int) (N : Int) = some (Nat.beq x 0 || Nat.beq x K, v, (u : Int), (s : Int), (l : Int), (T : Int), (K : Int), (N : Int)) := by
 unfold rF wV
 have e1 : ((x : Int) == 0) = Nat.beq x 0 := by
  cases h : Nat.beq x 0 with
  | true => have := Nat.eq_of_beq_eq_true h; subst this; rfl
  | false => have := Nat.ne_of_beq_eq_false h; simp; omega
 have e2 : ((x : Int) == (K : Int)) = Nat.beq x K := by
  cases h : Nat.beq x K with
  | true => have := Nat.eq_of_beq_eq_true h; subst this; simp
  | false => have := Nat.ne_of_beq_eq_false h; simp; omega
 rw [e1, e2]
 cases Nat.beq x 0 <;> rfl
theorem adV (n : Nat) (v : Int) (u s l T K N : Nat) : wh n v (u : Int) (s : Int) (l : Int) (T : Int) (K : Int) (N : Int) = some (La u s l T K N) := by
 unfold wh zQ La
 by_cases c1 : 1 ≤ K
 ·rw [aa (by omega), decide_eq_true c1]
  by_cases c2 : K ≤ 255
  ·rw [aa (by omega), decide_eq_true c2]
   by_cases c3 : T ≤ 4000
   ·rw [aa (by omega), decide_eq_true c3]
    by_cases c4 : 1 ≤ N
    ·rw [aa (by omega), decide_eq_true c4]
     by_cases c5 : N ≤ 4096
     ·rw [aa (by omega), decide_eq_true c5]
      by_cases c6 : l ≤ 1000
      ·rw [aa (by omega), decide_eq_true c6, XA]
       simp only [Option.bind_some]
       cases Nat.beq s 0 || Nat.beq s K with
       | false => rfl
       | true =>
        simp only [cond_true, XA, Option.bind_some, Bool.true_and]
      ·rw [af (by omega), decide_eq_false c6]; rfl
     ·rw [af (by omega), decide_eq_false c5]; rfl
    ·rw [af (by omega), decide_eq_false c4]; rfl
   ·rw [af (by omega), decide_eq_false c3]; rfl
  ·rw [af (by omega), decide_eq_false c2]; rfl
 ·rw [af (by omega), decide_eq_false c1]; rfl
theorem aee {w u s l T K N : Nat} (hw : w = 4 ∨ w = 8) (hu : u < 4294967296) (hs : s < 4294967296) (hl : l < 4294967296) (hT : T < 4294967296) (hK : K < 4294967296) (hN : N < 4294967296) :
 IntKind.i64.wrap ((IntKind.i64.wrap ((IntKind.i64.wrap ((IntKind.i64.wrap ((IntKind.i64.wrap ((IntKind.i64.wrap ((T : Int) * (IntKind.i64.wrap ((w : Int) + (1 : Int))))) + (IntKind.i64.wrap ((K : Int) * (6 : Int))))) + (N : Int))) + (IntKind.i64.wrap ((l : Int) * (IntKind.i64.wrap ((w : Int) + (4 : Int))))))) + (s : Int))) + (u : Int)) = (jb w u s l T K N : Int) := by
 rcases hw with rfl | rfl
 ·rw [show IntKind.i64.wrap (((4 : Nat) : Int) + 1) = 5 by decide, show IntKind.i64.wrap (((4 : Nat) : Int) + 4) = 8 by decide, wi ((T : Int) * 5) (by omega) (by omega), wi ((K : Int) * 6) (by omega) (by omega), wi ((T : Int) * 5 + (K : Int) * 6) (by omega) (by omega), wi ((T : Int) * 5 + (K : Int) * 6 + (N : Int)) (by omega) (by omega), wi ((l : Int) * 8) (by omega) (by omega)]
  rw [wi ((T : Int) * 5 + (K : Int) * 6 + (N : Int) + (l : Int) * 8) (by omega) (by omega), wi ((T : Int) * 5 + (K : Int) * 6 + (N : Int) + (l : Int) * 8 + (s : Int)) (by omega) (by omega), wi _ (by omega) (by omega)]
  simp only [jb]; omega
 ·rw [show IntKind.i64.wrap (((8 : Nat) : Int) + 1) = 9 by decide, show IntKind.i64.wrap (((8 : Nat) : Int) + 4) = 12 by decide, wi ((T : Int) * 9) (by omega) (by omega), wi ((K : Int) * 6) (by omega) (by omega), wi ((T : Int) * 9 + (K : Int) * 6) (by omega) (by omega), wi ((T : Int) * 9 + (K : Int) * 6 + (N : Int)) (by omega) (by omega), wi ((l : Int) * 12) (by omega) (by omega)]
  rw [wi ((T : Int) * 9 + (K : Int) * 6 + (N : Int) + (l : Int) * 12) (by omega) (by omega), wi ((T : Int) * 9 + (K : Int) * 6 + (N : Int) + (l : Int) * 12 + (s : Int)) (by omega) (by omega), wi _ (by omega) (by omega)]
  simp only [jb]; omega
theorem UX (n : Nat) (v : Int) {w u s l T K N : Nat} (hw : w = 4 ∨ w = 8) (hu : u < 4294967296) (hs : s < 4294967296) (hl : l < 4294967296) (hT : T < 4294967296) (hK : K < 4294967296) (hN : N < 4294967296) :
 gM n v (u : Int) (s : Int) (l : Int) (T : Int) (K : Int) (N : Int) (w : Int) = some (jb w u s l T K N : Int) := by
 unfold gM uz
 rw [aee hw hu hs hl hT hK hN]
def uD (w : Nat) (ti ix : List Int) (ks : List Kd) (nm ex : List Int) : List Int := ti.flatMap (be w) ++ (ix.flatMap (be 1) ++ (ks.flatMap kb ++ (nm ++ ex)))
def Qu (w : Nat) (x : Int) : Prop := if w = 4 then -2147483648 ≤ x ∧ x ≤ 2147483647 else -9223372036854775808 ≤ x ∧ x ≤ 9223372036854775807
theorem PO {w : Nat} (hw : w = 4 ∨ w = 8) {b : List Int} (hb : BY b) {u s l T K N : Nat} (hl : b.length = jb w u s l T K N) : ∃ ti ix ks nm ex, b = uD w ti ix ks nm ex ∧ ti.length = T ∧ ix.length = T ∧ ks.length = K ∧ nm.length = N ∧ ex.length = l * (w + 4) + s + u ∧
 (∀ x ∈ ti, Qu w x) ∧ (∀ x ∈ ix, 0 ≤ x ∧ x ≤ 255) ∧ (∀ k ∈ ks, KOk k) ∧ BY nm := by
 unfold jb at hl
 have e9 : T * (w + 1) = w * T + T := by rw [Nat.mul_add, Nat.mul_comm T w, Nat.mul_one]
 rw [e9] at hl
 obtain ⟨ti, t1, t2, t3⟩ := chunks (be w) w (Qu w) (fun l' h1 h2 => by
  rcases hw with rfl | rfl
  ·obtain ⟨v, hv, e⟩ := acP h1 h2; exact ⟨v, by simpa [Qu] using hv, e⟩
  ·obtain ⟨v, hv, e⟩ := aeP h1 h2; exact ⟨v, by simpa [Qu] using hv, e⟩) T (b.take (w * T)) (by rw [List.length_take]; omega) (hb.take _)
 obtain ⟨ix, i1, i2, i3⟩ := chunks (be 1) 1 (fun x => 0 ≤ x ∧ x ≤ 255) (fun l' h1 h2 => VJ h1 h2) T ((b.drop (w * T)).take T) (by rw [List.length_take, List.length_drop]; omega) ((hb.drop _).take _)
 obtain ⟨ks, k1, k2, k3⟩ := chunks kb 6 KOk (fun l' h1 h2 => afl h1 h2) K (((b.drop (w * T)).drop T).take (6 * K)) (by rw [List.length_take, List.length_drop, List.length_drop]; omega) (((hb.drop _).drop _).take _)
 refine ⟨ti, ix, ks, (((b.drop (w * T)).drop T).drop (6 * K)).take N, (((b.drop (w * T)).drop T).drop (6 * K)).drop N, ?_, t1, i1, k1, ?_, ?_, t2, i2, k2, (((hb.drop _).drop _).drop _).take _⟩
 ·unfold uD
  rw [← t3, ← i3, ← k3, List.take_append_drop, List.take_append_drop, List.take_append_drop, List.take_append_drop]
 ·simp only [List.length_take, List.length_drop]; omega
 ·simp only [List.length_drop]; omega
theorem Qv {w : Nat} {ti ix : List Int} {ks : List Kd} {nm ex : List Int} {u s l T K N : Nat} (h1 : ti.length = T) (h2 : ix.length = T) (h3 : ks.length = K) (h4 : nm.length = N) (h5 : ex.length = l * (w + 4) + s + u) : (uD w ti ix ks nm ex).length = jb w u s l T K N := by
 unfold uD jb
 simp only [List.length_append, Cz (vL w), Cz (vL 1), Cz VK, h1, h2, h3, h4, h5]
 rw [show T * (w + 1) = w * T + T by rw [Nat.mul_add, Nat.mul_comm T w, Nat.mul_one]]; omega
theorem Qw (n : Nat) (hn : 20 ≤ n) (T : Nat) (hT : T ≤ 255) : ∀ (xs : List Kd) (i m : Nat) (acc : List (List AV)) (r : List Int) (bad : Bool), i + xs.length = T → xs.length < m → (∀ k ∈ xs, KOk k) → acc.length = i →
 rH n m acc (T : Int) (i : Int) (xs.flatMap kb ++ r) bad = some (acc ++ xs.map kA, r, bad)
 | [], i, m + 1, acc, r, bad, hi, _, _, _ => by
  simp only [List.length_nil] at hi
  simp only [rH, yh]
  rw [af (by omega)]
  simp
 | k :: xs, i, m + 1, acc, r, bad, hi, hm, hx, ha => by
  simp only [List.length_cons] at hi hm
  obtain ⟨⟨a1, a2⟩, ⟨b1, b2⟩, c1, c2⟩ := hx k (by simp)
  have e : (k :: xs).flatMap kb ++ r = be 4 k.1 ++ (be 1 k.2.1 ++ (be 1 k.2.2 ++ (xs.flatMap kb ++ r))) := by simp [kb]
  have eb : qj n ((k :: xs).flatMap kb ++ r) bad = some (k.1, k.2.1, k.2.2, xs.flatMap kb ++ r, bad) := by
   unfold qj qi
   rw [e, UW n hn k.1 a1 a2]
   simp only [Option.bind_some]
   rw [Tf n hn k.2.1 b1 b2]
   simp only [Option.bind_some]
   rw [Tf n hn k.2.2 c1 c2]
   rfl
  simp only [rH, yh]
  rw [aa (by omega), eb, pK _ (by omega)]
  simp only [Option.bind_some]
  rw [aa (by simp only [List.length_cons, List.length_nil]; omega)]
  refine (Qw n hn T hT xs (i + 1) m _ r bad (by omega) (by omega) (fun y hy => hx y (by simp [hy])) (by simp only [List.length_append, List.length_cons, List.length_nil]; omega)).trans ?_
  simp [kA]
theorem bj0 (n : Nat) (en : Bool) (b : List Int) (bad : Bool) (z0 : List (List AV)) (z1 z2 : List Int) (z3 : Str) (k : Kd) : kg n en b bad z0 z1 z2 z3 k.1 k.2.1 k.2.2 = some (b, bad || !en || decide (k.2.1 > 1), z0, z1, z2, z3, k.1, k.2.1, k.2.2) := by
 unfold kg lX
 cases bad <;> cases en <;> rfl
theorem Qx (n : Nat) (nm : List Int) (hnm : BY nm) (hnl : nm.length ≤ 5000) (ks : List Kd) (hks : ∀ k ∈ ks, KOk k) (hkl : ks.length ≤ 255) (b : List Int) (h1 h2 : List Int) (h3 : Str) : ∀ (r : List Kd) (i m : Nat) (bad : Bool) (acc : List (List AV)), ks.drop i = r → r.length < m → acc.length = i →
 ∃ acc' bad', bQ n m nm (ks.map kA) (ks.length : Int) (i : Int) b bad acc h1 h2 h3 = some (b, bad', acc', h1, h2, h3) ∧ (bad = true → bad' = true) ∧ (Ko nm r = none → bad' = true) ∧ ∀ ts, Ko nm r = some ts → bad' = bad ∧ acc' = acc ++ ts.map cT
 | [], i, m + 1, bad, acc, hd, _, _ => by
  have hi := drop_nil hd
  refine ⟨acc, bad, ?_, fun h => h, fun h => (by simp [Ko] at h), fun ts h => ?_⟩
  ·simp only [bQ, iM]
   rw [af (by omega)]
  ·simp only [Ko, Option.some.injEq] at h
   subst h; simp
 | k :: r, i, m + 1, bad, acc, hd, hm, ha => by
  obtain ⟨k1, k2, k3⟩ := dV hd
  simp only [List.length_cons] at hm
  obtain ⟨_, _, c1, c2⟩ := hks k (List.mem_of_getElem? k1)
  have j1 : (ks.map kA)[i]? = some (kA k) := by rw [List.getElem?_map, k1]; rfl
  have e0 : ∃ q : Nat, (if (nm.length : Int) < k.2.2 then (nm.length : Int) else k.2.2) = (q : Int) ∧ q ≤ nm.length ∧ nm.drop q = nm.drop k.2.2.toNat := by
   by_cases c : (nm.length : Int) < k.2.2
   ·exact ⟨nm.length, if_pos c, Nat.le_refl _, by rw [List.drop_length, List.drop_of_length_le (by omega)]⟩
   ·exact ⟨k.2.2.toNat, by rw [if_neg c]; omega, by omega, rfl⟩
  obtain ⟨q, e1, e2, e3⟩ := e0
  obtain ⟨rest, hc⟩ := adU n (hnm.drop q) (by rw [List.length_drop]; omega)
  simp only [bQ, iM]
  rw [aa (by omega), aa (by omega), Int.toNat_natCast, j1, pK _ (by omega)]
  simp only [kA, Option.bind_some, unc, vM, unn, decide_true, cond_true, e1]
  rw [aa (by omega), aa (by omega), Int.toNat_natCast, hc, e3]
  simp only [Option.bind_some, bj0]
  rw [aa (by simp only [List.length_cons, List.length_nil]; omega)]
  obtain ⟨acc', bad', q1, q2, q3, q4⟩ := Qx n nm hnm hnl ks hks hkl b h1 h2 h3 r (i + 1) m (bad || !(match upZ (nm.drop k.2.2.toNat) with | some p => (p, rest, true) | none => (nm.drop k.2.2.toNat, rest, false)).2.2 || decide (k.2.1 > 1))
   (acc ++ [[.int .i64 k.1, .bool (k.2.1 == 1), .str (yN (match upZ (nm.drop k.2.2.toNat) with | some p => (p, rest, true) | none => (nm.drop k.2.2.toNat, rest, false)).1)]]) k2 (by omega) (by simp; omega)
  refine ⟨acc', bad', q1, fun h => q2 (by rw [h]; rfl), fun h => ?_, fun ts h => ?_⟩
  ·simp only [Ko, mkT, nameAt] at h
   cases hu : upZ (nm.drop k.2.2.toNat) with
   | none => exact q2 (by rw [hu]; simp)
   | some p =>
    rw [hu] at h
    simp only [Option.map_some] at h
    by_cases hc1 : k.2.1 > 1
    ·exact q2 (by simp [hc1])
    ·rw [if_neg hc1] at h
     simp only [Option.map_eq_none_iff] at h
     exact q3 h
  ·simp only [Ko, mkT, nameAt] at h
   cases hu : upZ (nm.drop k.2.2.toNat) with
   | none => rw [hu] at h; simp at h
   | some p =>
    rw [hu] at h
    simp only [Option.map_some] at h
    by_cases hc1 : k.2.1 > 1
    ·rw [if_pos hc1] at h; simp at h
    ·rw [if_neg hc1] at h
     simp only [Option.map_eq_some_iff] at h
     obtain ⟨ts', h4, rfl⟩ := h
     obtain ⟨q5, q6⟩ := q4 ts' h4
     refine ⟨?_, ?_⟩
     ·rw [q5, hu, decide_eq_false hc1]; simp
     ·rw [q6, hu]; simp [cT]
theorem adW : @ji = @bQ := by kernel_rfl
theorem Zw : @mK = @dz := by kernel_rfl
theorem bj1 (n : Nat) {w : Nat} (hw : w = 4 ∨ w = 8) (b : List Int) (v : Int) {u s l T K N : Nat} (hu : u < 4294967296) (hs : s < 4294967296) (hl : l < 4294967296) (hT : T < 4294967296) (hK : K < 4294967296) (hN : N < 4294967296) :
 dz n (w : Int) b false v (u : Int) (s : Int) (l : Int) (T : Int) (K : Int) (N : Int) [] [] [] [] = some (!(La u s l T K N && decide (jb w u s l T K N ≤ b.length)), b, false, v, (u : Int), (s : Int), (l : Int), (T : Int), (K : Int), (N : Int), [], [], [], []) := by
 unfold dz iL
 rw [cond_false, adV]
 simp only [Option.bind_some]
 cases La u s l T K N with
 | false => rfl
 | true =>
  rw [Bool.not_true, cond_false, UX n v hw hu hs hl hT hK hN]
  simp only [Option.bind_some, Bool.true_and]
  congr 2
  by_cases c : jb w u s l T K N ≤ b.length
  ·rw [decide_eq_true c, decide_eq_false (by omega)]; rfl
  ·rw [decide_eq_false c, decide_eq_true (by omega)]; rfl
theorem Qy (n : Nat) (b : List Int) (v : Int) {u s l T K N : Nat} (hu : u < 4294967296) (hs : s < 4294967296) (hl : l < 4294967296) (hT : T < 4294967296) (hK : K < 4294967296) (hN : N < 4294967296) (h : (La u s l T K N && decide (jb 8 u s l T K N ≤ b.length)) = false) :
 bL n v (u : Int) (s : Int) (l : Int) (T : Int) (K : Int) (N : Int) 8 b false = some ([], [], [], [], b, true) := by
 unfold bL iB
 have := bj1 n (w := 8) (.inr rfl) b v hu hs hl hT hK hN
 rw [h] at this
 rw [show ((8 : Int)) = ((8 : Nat) : Int) from rfl, this]
 rfl
theorem XB (n : Nat) (b : List Int) (v : Int) {u s l T K N : Nat} (hu : u < 4294967296) (hs : s < 4294967296) (hl : l < 4294967296) (hT : T < 4294967296) (hK : K < 4294967296) (hN : N < 4294967296) (h : (La u s l T K N && decide (jb 4 u s l T K N ≤ b.length)) = false) :
 dH n v (u : Int) (s : Int) (l : Int) (T : Int) (K : Int) (N : Int) 4 b false = some ([], [], [], [], b, true) := by
 unfold dH kr
 have := bj1 n (w := 4) (.inl rfl) b v hu hs hl hT hK hN
 rw [h] at this
 rw [show ((4 : Int)) = ((4 : Nat) : Int) from rfl, Zw, this]
 rfl
theorem exW {w : Nat} (hw : w = 4 ∨ w = 8) {u s l : Nat} (hl : l ≤ 1000) (hs : s ≤ 255) (hu : u ≤ 255) : IntKind.i64.wrap ((IntKind.i64.wrap ((IntKind.i64.wrap ((l : Int) * (IntKind.i64.wrap ((w : Int) + (4 : Int))))) + (s : Int))) + (u : Int)) = ((l * (w + 4) + s + u : Nat) : Int) := by
 rcases hw with rfl | rfl
 ·rw [show IntKind.i64.wrap (((4 : Nat) : Int) + 4) = 8 by decide, wi ((l : Int) * 8) (by omega) (by omega), wi ((l : Int) * 8 + (s : Int)) (by omega) (by omega), wi _ (by omega) (by omega)]; omega
 ·rw [show IntKind.i64.wrap (((8 : Nat) : Int) + 4) = 12 by decide, wi ((l : Int) * 12) (by omega) (by omega), wi ((l : Int) * 12 + (s : Int)) (by omega) (by omega), wi _ (by omega) (by omega)]; omega
theorem XC (w : Nat) (ti ix : List Int) (ks : List Kd) (nm ex r : List Int) : uD w ti ix ks nm ex ++ r = ti.flatMap (be w) ++ (ix.flatMap (be 1) ++ (ks.flatMap kb ++ (nm ++ (ex ++ r)))) := by simp [uD]
theorem OA (n : Nat) (hn : 5001 ≤ n) (v : Int) {ti ix : List Int} {ks : List Kd} {nm ex : List Int} {u s l T K N : Nat} (hm : La u s l T K N = true) (h1 : ti.length = T) (h2 : ix.length = T) (h3 : ks.length = K) (h4 : nm.length = N) (h5 : ex.length = l * (8 + 4) + s + u)
 (g1 : ∀ x ∈ ti, Qu 8 x) (g2 : ∀ x ∈ ix, 0 ≤ x ∧ x ≤ 255) (g3 : ∀ k ∈ ks, KOk k) (g4 : BY nm) (r : List Int) :
 ∃ z bad, bL n v (u : Int) (s : Int) (l : Int) (T : Int) (K : Int) (N : Int) 8 (uD 8 ti ix ks nm ex ++ r) false = some (z, ti, ix, [], r, bad) ∧ (Ko nm ks = none → bad = true) ∧ ∀ ts, Ko nm ks = some ts → bad = false ∧ z = ts.map cT := by
 obtain ⟨m1, m2, m3, m4, m5, m6, m7, m8⟩ := Iy hm
 have hj := bj1 n (w := 8) (.inr rfl) (uD 8 ti ix ks nm ex ++ r) v (u := u) (s := s) (l := l) (T := T) (K := K) (N := N) (by omega) (by omega) (by omega) (by omega) (by omega) (by omega)
 rw [hm, decide_eq_true (show jb 8 u s l T K N ≤ (uD 8 ti ix ks nm ex ++ r).length by rw [List.length_append, Qv h1 h2 h3 h4 h5]; omega)] at hj
 unfold bL iB
 rw [show ((8 : Int)) = ((8 : Nat) : Int) from rfl, hj]
 simp only [Option.bind_some, Bool.and_self, Bool.not_true, cond_false]
 have e1 := afg n (by omega) T m3 ti 0 n [] (ix.flatMap (be 1) ++ (ks.flatMap kb ++ (nm ++ (ex ++ r)))) false (by omega) (by omega) (fun x hx => by simpa [Qu] using g1 x hx) rfl
 simp only [Int.natCast_zero, List.nil_append] at e1
 rw [XC]
 simp only [Af, vJ, e1, Option.bind_some]
 have e2 := aeO n (by omega) T m3 ix 0 n [] (ks.flatMap kb ++ (nm ++ (ex ++ r))) false (by omega) (by omega) g2 rfl
 simp only [Int.natCast_zero, List.nil_append] at e2
 simp only [yg, yf, e2, Option.bind_some]
 have e3 := Qw n (by omega) K m2 ks 0 n [] (nm ++ (ex ++ r)) false (by omega) (by omega) g3 rfl
 simp only [Int.natCast_zero, List.nil_append] at e3
 simp only [Ey, Ew, e3, Option.bind_some, Iw]
 have e4 : eX (N : Int) (nm ++ (ex ++ r)) false = (nm, ex ++ r, false) := by rw [← h4]; exact Dz _ _ _
 have e5 : eX ((l * (8 + 4) + s + u : Nat) : Int) (ex ++ r) false = (ex, r, false) := by rw [← h5]; exact Dz _ _ _
 simp only [e4, exW (w := 8) (.inr rfl) m6 m7 m8, e5, List.length_map]
 obtain ⟨z, bad, q1, q2, q3, q4⟩ := Qx n nm g4 (by omega) ks g3 (by omega) r ti ix [] ks 0 n false [] (by simp) (by omega) rfl
 try simp only [Int.natCast_zero] at q1
 simp only [q1, Option.bind_some]
 exact ⟨z, bad, rfl, q3, fun ts h => by simpa using q4 ts h⟩
theorem UY (n : Nat) (hn : 5001 ≤ n) (v : Int) {ti ix : List Int} {ks : List Kd} {nm ex : List Int} {u s l T K N : Nat} (hm : La u s l T K N = true) (h1 : ti.length = T) (h2 : ix.length = T) (h3 : ks.length = K) (h4 : nm.length = N) (h5 : ex.length = l * (4 + 4) + s + u)
 (g1 : ∀ x ∈ ti, Qu 4 x) (g2 : ∀ x ∈ ix, 0 ≤ x ∧ x ≤ 255) (g3 : ∀ k ∈ ks, KOk k) (g4 : BY nm) (r : List Int) :
 ∃ z bad, dH n v (u : Int) (s : Int) (l : Int) (T : Int) (K : Int) (N : Int) 4 (uD 4 ti ix ks nm ex ++ r) false = some (z, ti, ix, [], r, bad) ∧ (Ko nm ks = none → bad = true) ∧ ∀ ts, Ko nm ks = some ts → bad = false ∧ z = ts.map cT := by
 obtain ⟨m1, m2, m3, m4, m5, m6, m7, m8⟩ := Iy hm
 have hj := bj1 n (w := 4) (.inl rfl) (uD 4 ti ix ks nm ex ++ r) v (u := u) (s := s) (l := l) (T := T) (K := K) (N := N) (by omega) (by omega) (by omega) (by omega) (by omega) (by omega)
 rw [hm, decide_eq_true (show jb 4 u s l T K N ≤ (uD 4 ti ix ks nm ex ++ r).length by rw [List.length_append, Qv h1 h2 h3 h4 h5]; omega)] at hj
 unfold dH kr
 have hj4 : dz n (4 : Int) (uD 4 ti ix ks nm ex ++ r) false v (u : Int) (s : Int) (l : Int) (T : Int) (K : Int) (N : Int) [] [] [] [] = _ := hj
 rw [Zw, adW, hj4]
 simp only [Option.bind_some, Bool.and_self, Bool.not_true, cond_false]
 have e1 := afh n (by omega) T m3 ti 0 n [] (ix.flatMap (be 1) ++ (ks.flatMap kb ++ (nm ++ (ex ++ r)))) false (by omega) (by omega) (fun x hx => by simpa [Qu] using g1 x hx) rfl
 simp only [Int.natCast_zero, List.nil_append] at e1
 rw [XC]
 simp only [Dw, yF, e1, Option.bind_some]
 have e2 := aeO n (by omega) T m3 ix 0 n [] (ks.flatMap kb ++ (nm ++ (ex ++ r))) false (by omega) (by omega) g2 rfl
 simp only [Int.natCast_zero, List.nil_append] at e2
 simp only [yg, yf, e2, Option.bind_some]
 have e3 := Qw n (by omega) K m2 ks 0 n [] (nm ++ (ex ++ r)) false (by omega) (by omega) g3 rfl
 simp only [Int.natCast_zero, List.nil_append] at e3
 simp only [Ey, Ew, e3, Option.bind_some, Iw]
 have e4 : eX (N : Int) (nm ++ (ex ++ r)) false = (nm, ex ++ r, false) := by rw [← h4]; exact Dz _ _ _
 have e5 : eX ((l * (4 + 4) + s + u : Nat) : Int) (ex ++ r) false = (ex, r, false) := by rw [← h5]; exact Dz _ _ _
 have e6 : IntKind.i64.wrap ((IntKind.i64.wrap ((IntKind.i64.wrap ((l : Int) * (IntKind.i64.wrap ((4 : Int) + (4 : Int))))) + (s : Int))) + (u : Int)) = ((l * (4 + 4) + s + u : Nat) : Int) := exW (w := 4) (.inl rfl) m6 m7 m8
 simp only [e4, e6, e5, List.length_map]
 obtain ⟨z, bad, q1, q2, q3, q4⟩ := Qx n nm g4 (by omega) ks g3 (by omega) r ti ix [] ks 0 n false [] (by simp) (by omega) rfl
 try simp only [Int.natCast_zero] at q1
 simp only [q1, Option.bind_some]
 exact ⟨z, bad, rfl, q3, fun ts h => by simpa using q4 ts h⟩
end Go.Proofs.YtiegmpnagcdgoaaGreatDoor.H.Z
namespace Go.Proofs.YtiegmpnagcdgoaaGreatDoor.H.Z
open Go.Sh Go.RowKit
set_option linter.unusedSimpArgs false
set_option linter.unusedVariables false
def acR (x e : Int) : Int := IntKind.u64.wrap ((BitVec.ofInt 64 (IntKind.u64.wrap (x * 2 ^ 8)) ||| BitVec.ofInt 64 (IntKind.u64.wrap e)).toNat : Int)
def acS : Int → List Int → Int
 | x, [] => x
 | x, e :: r => acS (acR x e) r
theorem aaQ (x e : Int) (h0 : 0 ≤ e) (h1 : e < 256) : acR x e = (x * 256 + e) % 18446744073709551616 := by
 unfold acR
 rw [IntKind.wrap_u64, IntKind.wrap_u64, IntKind.wrap_u64, BitVec.toNat_or, Ni, Ni]
 obtain ⟨e, rfl⟩ := Int.eq_ofNat_of_zero_le h0
 have e1 : ((x * 2 ^ 8) % 18446744073709551616 % 18446744073709551616).toNat = (x % 72057594037927936).toNat * 2 ^ 8 := by
  rw [show ((2 : Int) ^ 8) = 256 from rfl]; omega
 have e2 : (((e : Nat) : Int) % 18446744073709551616 % 18446744073709551616).toNat = e := by omega
 rw [e1, e2, ← Nat.shiftLeft_eq, ← Nat.shiftLeft_add_eq_or_of_lt (by omega), Nat.shiftLeft_eq]
 omega
theorem Zx : ∀ (k : Nat) (x v : Int), k ≤ 8 → 0 ≤ x → x < 18446744073709551616 → acS x (be k v) = (x * 256 ^ k + v % 256 ^ k) % 18446744073709551616
 | 0, x, v, _, h1, h2 => by
  simp only [be, acS, Int.pow_zero, Int.mul_one, Int.emod_one, Int.add_zero]
  omega
 | k + 1, x, v, hk, h1, h2 => by
  have hb : ∃ q, IntKind.u8.wrap (Int.fdiv v (2 ^ (8 * k))) = q ∧ 0 ≤ q ∧ q < 256 ∧ q = (v / 256 ^ k) % 256 := by
   refine ⟨_, rfl, ?_⟩
   rw [IntKind.wrap_u8, Int.fdiv_eq_ediv_of_nonneg _ (Int.le_of_lt (Int.pow_pos (by omega))), Int.pow_mul, show ((2 : Int) ^ 8) = 256 from rfl]
   omega
  obtain ⟨q, e1, q0, q1, q2⟩ := hb
  simp only [be, acS, e1]
  rw [aaQ x q q0 q1, Zx k _ v (by omega) (by omega) (by omega)]
  rw [q2] at *
  have hk' : k = 0 ∨ k = 1 ∨ k = 2 ∨ k = 3 ∨ k = 4 ∨ k = 5 ∨ k = 6 ∨ k = 7 := by omega
  rcases hk' with rfl | rfl | rfl | rfl | rfl | rfl | rfl | rfl <;> simp only [Int.reducePow, Nat.reduceAdd] at * <;> omega
theorem acT (n : Nat) (b : List Int) (a k : Nat) (hk : k ≤ 8) (hab : a + k ≤ 1000000000) : ∀ (r : List Int) (q : List Int) (i m : Nat) (x : Int), i + r.length = k → b.drop (a + i) = r ++ q → r.length < m → dE n m b (a : Int) (k : Int) x (i : Int) = some (acS x r)
 | [], q, i, m + 1, x, hi, _, _ => by
  simp only [List.length_nil] at hi
  simp only [dE, jk]
  rw [af (by omega)]
  rfl
 | c :: r, q, i, m + 1, x, hi, hd, hm => by
  simp only [List.length_cons] at hi hm
  obtain ⟨k1, k2, k3⟩ := dV (show b.drop (a + i) = c :: (r ++ q) from hd)
  simp only [dE, jk]
  have ea : IntKind.i64.wrap ((a : Int) + (i : Int)) = ((a + i : Nat) : Int) := by rw [wi _ (by omega) (by omega)]; omega
  rw [aa (by omega), ea, aa (by omega), Int.toNat_natCast, k1, pK _ (by omega)]
  simp only [Option.bind_some]
  exact acT n b a k hk hab r q (i + 1) m _ (by omega) (by rw [← k2]; rfl) (by omega)
theorem VL (n : Nat) (hn : 9 ≤ n) (b : List Int) (a k : Nat) (hk : k ≤ 8) (hab : a + k ≤ 1000000000) (v : Int) (q : List Int) (hd : b.drop a = be k v ++ q) : aT n b (a : Int) (k : Int) = some (v % 256 ^ k) := by
 unfold aT rM
 have := acT n b a k hk hab (be k v) q 0 n 0 (by rw [vL]; omega) (by simpa using hd) (by rw [vL]; omega)
 simp only [Int.natCast_zero] at this
 rw [this, Zx k 0 v hk (by omega) (by omega)]
 simp only [Option.bind_some, Int.zero_mul, Int.zero_add]
 congr 1
 have hk' : k = 0 ∨ k = 1 ∨ k = 2 ∨ k = 3 ∨ k = 4 ∨ k = 5 ∨ k = 6 ∨ k = 7 ∨ k = 8 := by omega
 rcases hk' with rfl | rfl | rfl | rfl | rfl | rfl | rfl | rfl | rfl <;> simp only [Int.reducePow] <;> omega
theorem Zy (n : Nat) (hn : 9 ≤ n) (b : List Int) (a : Nat) (hab : a + 4 ≤ 1000000000) (v : Int) (h1 : -2147483648 ≤ v) (h2 : v ≤ 2147483647) (q : List Int) (hd : b.drop a = be 4 v ++ q) : bJ n b (a : Int) 4 = some v := by
 unfold bJ jm
 have hg : aT n b (a : Int) (4 : Int) = some (v % 256 ^ 4) := VL n hn b a 4 (by omega) hab v q hd
 rw [hg, show ((256 : Int) ^ 4) = 4294967296 from rfl]
 simp only [Option.bind_some]
 rw [show ((4 : Int) == 4) = true by decide, cond_true, wi (v % 4294967296) (by omega) (by omega)]
 by_cases c : v % 4294967296 ≥ 2147483648
 ·rw [aa c, wi _ (by omega) (by omega)]; congr 1; omega
 ·rw [af c]; congr 1; omega
theorem adX (n : Nat) (hn : 9 ≤ n) (b : List Int) (a : Nat) (hab : a + 8 ≤ 1000000000) (v : Int) (h1 : -9223372036854775808 ≤ v) (h2 : v ≤ 9223372036854775807) (q : List Int) (hd : b.drop a = be 8 v ++ q) : bJ n b (a : Int) 8 = some v := by
 unfold bJ jm
 have hg : aT n b (a : Int) (8 : Int) = some (v % 256 ^ 8) := VL n hn b a 8 (by omega) hab v q hd
 rw [hg, show ((256 : Int) ^ 8) = 18446744073709551616 from rfl]
 simp only [Option.bind_some]
 rw [show ((8 : Int) == 4) = false by decide, cond_false]
 congr 1
 rw [IntKind.wrap_i64]; omega
theorem Dy (n : Nat) {w u s l T K N : Nat} (hw : w = 4 ∨ w = 8) (hu : u < 4294967296) (hs : s < 4294967296) (hl : l < 4294967296) (hT : T < 4294967296) (hK : K < 4294967296) (hN : N < 4294967296) :
 aZ n (u : Int) (s : Int) (l : Int) (T : Int) (K : Int) (N : Int) (w : Int) = some (jb w u s l T K N : Int) := by
 unfold aZ qm
 rw [aee hw hu hs hl hT hK hN]
def zC (m4 s15 : List Int) (v : Int) (c1 c2 c3 c4 c5 c6 : Nat) (r : List Int) : List Int :=
 m4 ++ (be 1 v ++ (s15 ++ (be 4 (c1 : Int) ++ (be 4 (c2 : Int) ++ (be 4 (c3 : Int) ++ (be 4 (c4 : Int) ++ (be 4 (c5 : Int) ++ (be 4 (c6 : Int) ++ r))))))))
theorem adY {l : List Int} (h : l.length = 4) (hb : BY l) : ∃ v : Nat, v < 4294967296 ∧ l = be 4 (v : Int) := by
 obtain ⟨v, hv, e⟩ := Zv h hb
 exact ⟨v.toNat, by omega, by rw [e, Int.toNat_of_nonneg hv.1]⟩
theorem aaR {b : List Int} (hb : BY b) (hl : 4 ≤ b.length) : ∃ v : Nat, v < 4294967296 ∧ b = be 4 (v : Int) ++ b.drop 4 := by
 obtain ⟨v, hv, e⟩ := adY (l := b.take 4) (by rw [List.length_take]; omega) (hb.take 4)
 exact ⟨v, hv, by rw [← e, List.take_append_drop]⟩
theorem Zz {b : List Int} (hb : BY b) (hl : 44 ≤ b.length) : ∃ m4 s15 v c1 c2 c3 c4 c5 c6 r, b = zC m4 s15 v c1 c2 c3 c4 c5 c6 r ∧ m4.length = 4 ∧ s15.length = 15 ∧ (0 ≤ v ∧ v ≤ 255) ∧ c1 < 4294967296 ∧ c2 < 4294967296 ∧ c3 < 4294967296 ∧ c4 < 4294967296 ∧ c5 < 4294967296 ∧ c6 < 4294967296 ∧ r = b.drop 44 := by
 obtain ⟨v, hv, e1⟩ := VJ (l := (b.drop 4).take 1) (by rw [List.length_take, List.length_drop]; omega) ((hb.drop 4).take 1)
 obtain ⟨c1, h1, f1⟩ := aaR (hb.drop 20) (by rw [List.length_drop]; omega)
 obtain ⟨c2, h2, f2⟩ := aaR (hb.drop 24) (by rw [List.length_drop]; omega)
 obtain ⟨c3, h3, f3⟩ := aaR (hb.drop 28) (by rw [List.length_drop]; omega)
 obtain ⟨c4, h4, f4⟩ := aaR (hb.drop 32) (by rw [List.length_drop]; omega)
 obtain ⟨c5, h5, f5⟩ := aaR (hb.drop 36) (by rw [List.length_drop]; omega)
 obtain ⟨c6, h6, f6⟩ := aaR (hb.drop 40) (by rw [List.length_drop]; omega)
 simp only [List.drop_drop, Nat.reduceAdd] at f1 f2 f3 f4 f5 f6
 refine ⟨b.take 4, (b.drop 5).take 15, v, c1, c2, c3, c4, c5, c6, b.drop 44, ?_, by rw [List.length_take]; omega, by rw [List.length_take, List.length_drop]; omega, hv, h1, h2, h3, h4, h5, h6, rfl⟩
 unfold zC
 rw [← f6, ← f5, ← f4, ← f3, ← f2, ← f1, ← e1]
 have g1 : (b.drop 5).take 15 ++ b.drop 20 = b.drop 5 := by
  have := List.take_append_drop 15 (b.drop 5)
  rw [List.drop_drop] at this
  exact this
 have g2 : (b.drop 4).take 1 ++ b.drop 5 = b.drop 4 := by
  have := List.take_append_drop 1 (b.drop 4)
  rw [List.drop_drop] at this
  exact this
 rw [g1, g2, List.take_append_drop]
def isH (m4 : List Int) (v : Int) : Bool := (yN m4 == ([84, 90, 105, 102] : Str)) && !(v != 0 && (v != 50 && v != 51))
theorem Nj {m4 s15 : List Int} {v : Int} {c1 c2 c3 c4 c5 c6 : Nat} (hm : m4.length = 4) (hs : s15.length = 15) (hv : 0 ≤ v ∧ v ≤ 255) (h1 : c1 < 4294967296) (h2 : c2 < 4294967296) (h3 : c3 < 4294967296) (h4 : c4 < 4294967296) (h5 : c5 < 4294967296) (h6 : c6 < 4294967296) (r : List Int) :
 Cy (zC m4 s15 v c1 c2 c3 c4 c5 c6 r) false = (v, (c1 : Int), (c2 : Int), (c3 : Int), (c4 : Int), (c5 : Int), (c6 : Int), r, !isH m4 v) := by
 have t1 : ∀ r' bad, eX 4 (m4 ++ r') bad = (m4, r', bad) := fun r' bad => by
  have := Dz m4 r' bad
  rw [hm] at this; exact this
 have hv8 : IntKind.u8.wrap v = v := by rw [IntKind.wrap_u8]; omega
 have t2 : ∀ r' bad, eZ 1 (be 1 v ++ r') bad = (v, r', bad) := fun r' bad => by
  have this : eZ (1 : Int) (be 1 v ++ r') bad = (IntKind.i64.wrap (v % 256 ^ 1), r', bad) := Km 1 (by omega) v r' bad
  rw [this, show ((256 : Int) ^ 1) = 256 from rfl, wi _ (by omega) (by omega)]
  congr 1 <;> omega
 have t3 : ∀ r' bad, eX 15 (s15 ++ r') bad = (s15, r', bad) := fun r' bad => by
  have := Dz s15 r' bad
  rw [hs] at this; exact this
 have t4 : ∀ (c : Nat), c < 4294967296 → ∀ r' bad, eZ 4 (be 4 (c : Int) ++ r') bad = ((c : Int), r', bad) := fun c hc r' bad => by
  have this : eZ (4 : Int) (be 4 (c : Int) ++ r') bad = (IntKind.i64.wrap ((c : Int) % 256 ^ 4), r', bad) := Km 4 (by omega) c r' bad
  rw [this, show ((256 : Int) ^ 4) = 4294967296 from rfl, wi _ (by omega) (by omega)]
  congr 1; omega
 unfold Cy zC isH
 simp only [t1, t2, t3, t4 c1 h1, t4 c2 h2, t4 c3 h3, t4 c4 h4, t4 c5 h5, t4 c6 h6, hv8, Bool.or_false]
 cases yN m4 == ([84, 90, 105, 102] : Str) <;> simp
theorem PP (n : Nat) (b : List Int) (a : Nat) (ha : a ≤ b.length) (hb : b.length ≤ 1000000) (hl : b.length < a + 44) : aS n b (a : Int) = some (0, 0, 0, 0, 0, 0, 0, false) := by
 unfold aS jl eT gq
 rw [wi ((b.length : Int) - (a : Int)) (by omega) (by omega), aa (by omega)]
 rfl
set_option maxRecDepth 4000 in
theorem Lb (n : Nat) (hn : 20 ≤ n) {b : List Int} {a : Nat} (hbl : b.length ≤ 1000000) {m4 s15 : List Int} {v : Int} {c1 c2 c3 c4 c5 c6 : Nat} {r : List Int} (hd : b.drop a = zC m4 s15 v c1 c2 c3 c4 c5 c6 r) (hal : a ≤ b.length) (hm : m4.length = 4) (hs : s15.length = 15) (hv : 0 ≤ v ∧ v ≤ 255) (h1 : c1 < 4294967296) (h2 : c2 < 4294967296) (h3 : c3 < 4294967296) (h4 : c4 < 4294967296) (h5 : c5 < 4294967296) (h6 : c6 < 4294967296) :
 aS n b (a : Int) = some (if isH m4 v then ((c1 : Int), (c2 : Int), (c3 : Int), (c4 : Int), (c5 : Int), (c6 : Int), v, true) else (0, 0, 0, 0, 0, 0, 0, false)) := by
 have hlen : b.length = a + (44 + r.length) := by
  have := congrArg List.length hd
  simp only [zC, List.length_drop, List.length_append, vL, hm, hs] at this
  omega
 have hv1 : be 1 v = [v] := by
  rw [YE, Int.pow_zero, fd0, IntKind.wrap_u8]
  rw [show v % 256 = v by omega]
 have w4 : IntKind.i64.wrap ((a : Int) + 4) = ((a + 4 : Nat) : Int) := by rw [wi _ (by omega) (by omega)]; omega
 have ht4 : (b.take (a + 4)).drop a = m4 := by
  rw [List.drop_take, hd, show a + 4 - a = 4 by omega]
  unfold zC
  rw [← hm, List.take_left']
  rfl
 have hb4 : b[a + 4]? = some v := by
  rw [← List.getElem?_drop, hd]
  unfold zC
  rw [List.getElem?_append_right (by omega), hm, hv1]
  rfl
 have hj : eT n b (a : Int) 0 0 0 0 0 0 0 0 0 0 0 0 = some (!isH m4 v, 0, 0, 0, 0, 0, 0, 0, 0, 0, 0, 0, 0) := by
  unfold eT gq isH
  rw [wi ((b.length : Int) - (a : Int)) (by omega) (by omega), af (by omega), w4, aa (by omega), aa (by omega), aa (by omega), aa (by omega), Int.toNat_natCast, Int.toNat_natCast, ht4]
  cases yN m4 == ([84, 90, 105, 102] : Str) with
  | false => rfl
  | true =>
   rw [Bool.not_true, cond_false, aa (by omega), hb4]
   simp only [Option.bind_some]
   cases v != 0 with
   | false => rfl
   | true =>
    rw [cond_true, aa (by omega)]
    cases v != 50 with
    | false => rfl
    | true =>
     rw [cond_true, aa (by omega)]
     simp
 unfold aS jl
 rw [hj]
 simp only [Option.bind_some]
 cases isH m4 v with
 | false => rfl
 | true =>
 have w20 : IntKind.i64.wrap ((a : Int) + 20) = ((a + 20 : Nat) : Int) := by rw [wi _ (by omega) (by omega)]; omega
 have gt : ∀ (i c : Nat), i ≤ 5 → c < 4294967296 → (∃ q, (b.drop a).drop (20 + 4 * i) = be 4 (c : Int) ++ q) → aT n b (IntKind.i64.wrap ((IntKind.i64.wrap ((a : Int) + (20 : Int))) + (IntKind.i64.wrap ((4 : Int) * (i : Int))))) (4 : Int) = some (c : Int) := fun i c hi hc ⟨q, hq⟩ => by
  rw [List.drop_drop] at hq
  have := VL n (by omega) b (a + (20 + 4 * i)) 4 (by omega) (by omega) (c : Int) q hq
  rw [w20, wi ((4 : Int) * (i : Int)) (by omega) (by omega), wi _ (by omega) (by omega)]
  rw [show (((a + 20 : Nat) : Int) + (4 : Int) * (i : Int)) = ((a + (20 + 4 * i) : Nat) : Int) by omega]
  refine Eq.trans this ?_
  rw [show ((256 : Int) ^ 4) = 4294967296 from rfl]
  congr 1; omega
 have step : ∀ {l : List Int} {c d : Nat} {k : Nat} {q : List Int}, l.drop k = be 4 (c : Int) ++ (be 4 (d : Int) ++ q) → l.drop (k + 4) = be 4 (d : Int) ++ q := fun h => by
  rw [← List.drop_drop, h, List.drop_left' (vL 4 _)]
 have hx0 : (zC m4 s15 v c1 c2 c3 c4 c5 c6 r).drop 20 = be 4 (c1 : Int) ++ (be 4 (c2 : Int) ++ (be 4 (c3 : Int) ++ (be 4 (c4 : Int) ++ (be 4 (c5 : Int) ++ (be 4 (c6 : Int) ++ r))))) := by
  unfold zC
  rw [show 20 = m4.length + (1 + 15) by omega, ← List.drop_drop, List.drop_left' rfl, ← List.drop_drop, List.drop_left' (vL 1 v), List.drop_left' hs]
 have hq0 : ∃ q, (zC m4 s15 v c1 c2 c3 c4 c5 c6 r).drop (20 + 4 * 0) = be 4 (c1 : Int) ++ q := ⟨_, hx0⟩
 have hq1 : ∃ q, (zC m4 s15 v c1 c2 c3 c4 c5 c6 r).drop (20 + 4 * 1) = be 4 (c2 : Int) ++ q := ⟨_, step hx0⟩
 have hq2 : ∃ q, (zC m4 s15 v c1 c2 c3 c4 c5 c6 r).drop (20 + 4 * 2) = be 4 (c3 : Int) ++ q := ⟨_, step (step hx0)⟩
 have hq3 : ∃ q, (zC m4 s15 v c1 c2 c3 c4 c5 c6 r).drop (20 + 4 * 3) = be 4 (c4 : Int) ++ q := ⟨_, step (step (step hx0))⟩
 have hq4 : ∃ q, (zC m4 s15 v c1 c2 c3 c4 c5 c6 r).drop (20 + 4 * 4) = be 4 (c5 : Int) ++ q := ⟨_, step (step (step (step hx0)))⟩
 have hq5 : ∃ q, (zC m4 s15 v c1 c2 c3 c4 c5 c6 r).drop (20 + 4 * 5) = be 4 (c6 : Int) ++ q := ⟨_, step (step (step (step (step hx0))))⟩
 have g0 : aT n b (IntKind.i64.wrap ((IntKind.i64.wrap ((a : Int) + (20 : Int))) + (IntKind.i64.wrap ((4 : Int) * (0 : Int))))) (4 : Int) = some (c1 : Int) := gt 0 c1 (by omega) (by omega) (by rw [hd]; exact hq0)
 have g1 : aT n b (IntKind.i64.wrap ((IntKind.i64.wrap ((a : Int) + (20 : Int))) + (IntKind.i64.wrap ((4 : Int) * (1 : Int))))) (4 : Int) = some (c2 : Int) := gt 1 c2 (by omega) (by omega) (by rw [hd]; exact hq1)
 have g2 : aT n b (IntKind.i64.wrap ((IntKind.i64.wrap ((a : Int) + (20 : Int))) + (IntKind.i64.wrap ((4 : Int) * (2 : Int))))) (4 : Int) = some (c3 : Int) := gt 2 c3 (by omega) (by omega) (by rw [hd]; exact hq2)
 have g3 : aT n b (IntKind.i64.wrap ((IntKind.i64.wrap ((a : Int) + (20 : Int))) + (IntKind.i64.wrap ((4 : Int) * (3 : Int))))) (4 : Int) = some (c4 : Int) := gt 3 c4 (by omega) (by omega) (by rw [hd]; exact hq3)
 have g4 : aT n b (IntKind.i64.wrap ((IntKind.i64.wrap ((a : Int) + (20 : Int))) + (IntKind.i64.wrap ((4 : Int) * (4 : Int))))) (4 : Int) = some (c5 : Int) := gt 4 c5 (by omega) (by omega) (by rw [hd]; exact hq4)
 have g5 : aT n b (IntKind.i64.wrap ((IntKind.i64.wrap ((a : Int) + (20 : Int))) + (IntKind.i64.wrap ((4 : Int) * (5 : Int))))) (4 : Int) = some (c6 : Int) := gt 5 c6 (by omega) (by omega) (by rw [hd]; exact hq5)
 have n05 : Nat.beq (Int.toNat (0 : Int)) 5 = false := by decide
 have n04 : Nat.beq (Int.toNat (0 : Int)) 4 = false := by decide
 have n03 : Nat.beq (Int.toNat (0 : Int)) 3 = false := by decide
 have n02 : Nat.beq (Int.toNat (0 : Int)) 2 = false := by decide
 have n01 : Nat.beq (Int.toNat (0 : Int)) 1 = false := by decide
 have n00 : Nat.beq (Int.toNat (0 : Int)) 0 = true := by decide
 have n15 : Nat.beq (Int.toNat (1 : Int)) 5 = false := by decide
 have n14 : Nat.beq (Int.toNat (1 : Int)) 4 = false := by decide
 have n13 : Nat.beq (Int.toNat (1 : Int)) 3 = false := by decide
 have n12 : Nat.beq (Int.toNat (1 : Int)) 2 = false := by decide
 have n11 : Nat.beq (Int.toNat (1 : Int)) 1 = true := by decide
 have n25 : Nat.beq (Int.toNat (2 : Int)) 5 = false := by decide
 have n24 : Nat.beq (Int.toNat (2 : Int)) 4 = false := by decide
 have n23 : Nat.beq (Int.toNat (2 : Int)) 3 = false := by decide
 have n22 : Nat.beq (Int.toNat (2 : Int)) 2 = true := by decide
 have n35 : Nat.beq (Int.toNat (3 : Int)) 5 = false := by decide
 have n34 : Nat.beq (Int.toNat (3 : Int)) 4 = false := by decide
 have n33 : Nat.beq (Int.toNat (3 : Int)) 3 = true := by decide
 have n45 : Nat.beq (Int.toNat (4 : Int)) 5 = false := by decide
 have n44 : Nat.beq (Int.toNat (4 : Int)) 4 = true := by decide
 have n55 : Nat.beq (Int.toNat (5 : Int)) 5 = true := by decide
 have w0 : IntKind.i64.wrap ((0 : Int) + 1) = 1 := by decide
 have w1 : IntKind.i64.wrap ((1 : Int) + 1) = 2 := by decide
 have w2 : IntKind.i64.wrap ((2 : Int) + 1) = 3 := by decide
 have w3 : IntKind.i64.wrap ((3 : Int) + 1) = 4 := by decide
 have w4 : IntKind.i64.wrap ((4 : Int) + 1) = 5 := by decide
 have w5 : IntKind.i64.wrap ((5 : Int) + 1) = 6 := by decide
 have q0 : decide ((0 : Int) < 6) = true := by decide
 have p0 : decide ((0 : Int) ≤ 0) = true := by decide
 have q1 : decide ((1 : Int) < 6) = true := by decide
 have p1 : decide ((0 : Int) ≤ 1) = true := by decide
 have q2 : decide ((2 : Int) < 6) = true := by decide
 have p2 : decide ((0 : Int) ≤ 2) = true := by decide
 have q3 : decide ((3 : Int) < 6) = true := by decide
 have p3 : decide ((0 : Int) ≤ 3) = true := by decide
 have q4 : decide ((4 : Int) < 6) = true := by decide
 have p4 : decide ((0 : Int) ≤ 4) = true := by decide
 have q5 : decide ((5 : Int) < 6) = true := by decide
 have p5 : decide ((0 : Int) ≤ 5) = true := by decide
 have q6 : decide ((6 : Int) < 6) = false := by decide
 have p6 : decide ((0 : Int) ≤ 6) = true := by decide
 obtain ⟨m, rfl⟩ : ∃ m, n = m + 7 := ⟨n - 7, by omega⟩
 have hl : ak (m + 7) (m + 7) b (a : Int) 0 0 0 0 0 0 0 0 0 0 0 0 0 = some (0, 0, 0, 0, 0, 0, (c1 : Int), (c2 : Int), (c3 : Int), (c4 : Int), (c5 : Int), (c6 : Int)) := by
  have wc : ∀ c : Nat, c < 4294967296 → IntKind.i64.wrap (c : Int) = (c : Int) := fun c hc => wi _ (by omega) (by omega)
  have s0 : ∀ (mm : Nat) (x0 x1 x2 x3 x4 x5 : Int), ak (m + 7) (mm + 1) b (a : Int) 0 0 0 0 0 0 0 x0 x1 x2 x3 x4 x5 = ak (m + 7) mm b (a : Int) 1 0 0 0 0 0 0 (c1 : Int) x1 x2 x3 x4 x5 := fun mm x0 x1 x2 x3 x4 x5 => by
   simp only [ak, aV, g0, w0, q0, p0, n05, n04, n03, n02, n01, n00, Option.bind_some, cond_true, cond_false, wc c1 h1]
  have s1 : ∀ (mm : Nat) (x0 x1 x2 x3 x4 x5 : Int), ak (m + 7) (mm + 1) b (a : Int) 1 0 0 0 0 0 0 x0 x1 x2 x3 x4 x5 = ak (m + 7) mm b (a : Int) 2 0 0 0 0 0 0 x0 (c2 : Int) x2 x3 x4 x5 := fun mm x0 x1 x2 x3 x4 x5 => by
   simp only [ak, aV, g1, w1, q1, p1, n15, n14, n13, n12, n11, Option.bind_some, cond_true, cond_false, wc c2 h2]
  have s2 : ∀ (mm : Nat) (x0 x1 x2 x3 x4 x5 : Int), ak (m + 7) (mm + 1) b (a : Int) 2 0 0 0 0 0 0 x0 x1 x2 x3 x4 x5 = ak (m + 7) mm b (a : Int) 3 0 0 0 0 0 0 x0 x1 (c3 : Int) x3 x4 x5 := fun mm x0 x1 x2 x3 x4 x5 => by
   simp only [ak, aV, g2, w2, q2, p2, n25, n24, n23, n22, Option.bind_some, cond_true, cond_false, wc c3 h3]
  have s3 : ∀ (mm : Nat) (x0 x1 x2 x3 x4 x5 : Int), ak (m + 7) (mm + 1) b (a : Int) 3 0 0 0 0 0 0 x0 x1 x2 x3 x4 x5 = ak (m + 7) mm b (a : Int) 4 0 0 0 0 0 0 x0 x1 x2 (c4 : Int) x4 x5 := fun mm x0 x1 x2 x3 x4 x5 => by
   simp only [ak, aV, g3, w3, q3, p3, n35, n34, n33, Option.bind_some, cond_true, cond_false, wc c4 h4]
  have s4 : ∀ (mm : Nat) (x0 x1 x2 x3 x4 x5 : Int), ak (m + 7) (mm + 1) b (a : Int) 4 0 0 0 0 0 0 x0 x1 x2 x3 x4 x5 = ak (m + 7) mm b (a : Int) 5 0 0 0 0 0 0 x0 x1 x2 x3 (c5 : Int) x5 := fun mm x0 x1 x2 x3 x4 x5 => by
   simp only [ak, aV, g4, w4, q4, p4, n45, n44, Option.bind_some, cond_true, cond_false, wc c5 h5]
  have s5 : ∀ (mm : Nat) (x0 x1 x2 x3 x4 x5 : Int), ak (m + 7) (mm + 1) b (a : Int) 5 0 0 0 0 0 0 x0 x1 x2 x3 x4 x5 = ak (m + 7) mm b (a : Int) 6 0 0 0 0 0 0 x0 x1 x2 x3 x4 (c6 : Int) := fun mm x0 x1 x2 x3 x4 x5 => by
   simp only [ak, aV, g5, w5, q5, p5, n55, Option.bind_some, cond_true, cond_false, wc c6 h6]
  rw [s0, s1, s2, s3, s4, s5]
  simp only [ak, aV, q6, cond_false]
 rw [Bool.not_true, cond_false, hl]
 simp only [Option.bind_some, if_true]
 have w4' : IntKind.i64.wrap ((a : Int) + 4) = ((a + 4 : Nat) : Int) := by rw [wi _ (by omega) (by omega)]; omega
 rw [w4', aa (by omega), Int.toNat_natCast, hb4]
 rfl
end Go.Proofs.YtiegmpnagcdgoaaGreatDoor.H.Z
namespace Go.Proofs.YtiegmpnagcdgoaaGreatDoor.H.Z
open Go.Sh Go.RowKit
set_option linter.unusedSimpArgs false
set_option linter.unusedVariables false
theorem Qz {α : Type} {f : α → List Int} {k : Nat} (hf : ∀ x, (f x).length = k) : ∀ (xs : List α) (i : Nat), (xs.flatMap f).drop (k * i) = (xs.drop i).flatMap f
 | xs, 0 => by simp
 | [], i + 1 => by simp
 | x :: xs, i + 1 => by
  rw [List.flatMap_cons, Nat.mul_add, Nat.mul_one, Nat.add_comm, ← List.drop_drop, List.drop_left' (hf x), Qz hf xs i, List.drop_succ_cons]
theorem acU : ∀ {ix : List Int}, (∀ x ∈ ix, 0 ≤ x ∧ x ≤ 255) → ix.flatMap (be 1) = ix
 | [], _ => rfl
 | x :: ix, h => by
  obtain ⟨h0, h1⟩ := h x (by simp)
  rw [List.flatMap_cons, acU (ix := ix) fun y hy => h y (by simp [hy]), YE, Int.pow_zero, fd0, IntKind.wrap_u8, show x % 256 = x by omega]
  rfl
section
variable {w : Nat} {ti ix : List Int} {ks : List Kd} {nm ex : List Int} {T K N : Nat}
theorem afv (h1 : ti.length = T) {i : Nat} {x : Int} {r : List Int} (hx : ti.drop i = x :: r) : ∃ q, (uD w ti ix ks nm ex).drop (w * i) = be w x ++ q := by
 obtain ⟨k1, k2, k3⟩ := dV hx
 unfold uD
 rw [List.drop_append_of_le_length (by rw [Cz (vL w)]; exact Nat.mul_le_mul_left _ (by omega)), Qz (vL w), hx, List.flatMap_cons]
 exact ⟨_, by rw [List.append_assoc]⟩
theorem aef (h1 : ti.length = T) : (uD w ti ix ks nm ex).drop (w * T) = ix.flatMap (be 1) ++ (ks.flatMap kb ++ (nm ++ ex)) := by
 unfold uD
 rw [← h1, ← Cz (vL w) ti, List.drop_left' rfl]
theorem afw (h1 : ti.length = T) (h2 : ix.length = T) (g2 : ∀ x ∈ ix, 0 ≤ x ∧ x ≤ 255) {i : Nat} (hi : i < T) : (uD w ti ix ks nm ex)[w * T + i]? = ix[i]? := by
 rw [← List.getElem?_drop, aef h1, acU g2, List.getElem?_append_left (by omega)]
theorem aeg (h1 : ti.length = T) (h2 : ix.length = T) : (uD w ti ix ks nm ex).drop (w * T + T) = ks.flatMap kb ++ (nm ++ ex) := by
 have e : (ix.flatMap (be 1)).length = T := by rw [Cz (vL 1)]; omega
 rw [← List.drop_drop, aef h1, List.drop_left' e]
theorem afx (h1 : ti.length = T) (h2 : ix.length = T) {i : Nat} {k : Kd} {r : List Kd} (hx : ks.drop i = k :: r) : ∃ q, (uD w ti ix ks nm ex).drop (w * T + T + 6 * i) = kb k ++ q := by
 obtain ⟨k1, k2, k3⟩ := dV hx
 rw [← List.drop_drop, aeg h1 h2, List.drop_append_of_le_length (by rw [Cz VK]; omega), Qz VK, hx, List.flatMap_cons]
 exact ⟨_, by rw [List.append_assoc]⟩
theorem afy (h1 : ti.length = T) (h2 : ix.length = T) (h3 : ks.length = K) (h4 : nm.length = N) : ((uD w ti ix ks nm ex).take (w * T + T + 6 * K + N)).drop (w * T + T + 6 * K) = nm := by
 have e : (ks.flatMap kb).length = 6 * K := by rw [Cz VK]; omega
 rw [List.drop_take, ← List.drop_drop, aeg h1 h2, List.drop_left' e, show w * T + T + 6 * K + N - (w * T + T + 6 * K) = nm.length by omega, List.take_left' rfl]
end
theorem VM : ∀ {l p : List Int}, upZ l = some p → l.take p.length = p ∧ p.length < l.length
 | [], p, h => by simp [upZ] at h
 | c :: r, p, h => by
  simp only [upZ] at h
  by_cases hc : c = 0
  ·rw [if_pos hc] at h; injection h with h; subst h; simp
  ·rw [if_neg hc] at h
   obtain ⟨q, h1, rfl⟩ := Option.map_eq_some_iff.1 h
   obtain ⟨k1, k2⟩ := VM h1
   simp [k1]; omega
theorem Ti (n : Nat) (nm : List Int) (hl : nm.length ≤ 100000) (a : Nat) : ∀ (r : List Int) (i m : Nat), nm.drop i = r → a ≤ i → r.length < m → bN n m nm (a : Int) (i : Int) = some (match upZ r with | some p => Sum.inl (yN ((nm.take (i + p.length)).drop a)) | none => Sum.inr ())
 | [], i, m + 1, hd, _, _ => by
  have hi := drop_nil hd
  simp only [bN, fC]
  rw [af (by omega)]
  rfl
 | c :: r, i, m + 1, hd, ha, hm => by
  obtain ⟨k1, k2, k3⟩ := dV hd
  simp only [List.length_cons] at hm
  simp only [bN, fC]
  rw [aa (by omega), aa (by omega), Int.toNat_natCast, k1]
  simp only [Option.bind_some]
  by_cases hc : c = 0
  ·subst hc
   rw [show ((0 : Int) == 0) = true by decide, cond_true, aa (by omega), aa (by omega), aa (by omega), aa (by omega), Int.toNat_natCast]
   simp [upZ]
  ·rw [show (c == 0) = false by simpa using hc, cond_false, pK _ (by omega), Ti n nm hl a r (i + 1) m k2 (by omega) (by omega)]
   simp only [upZ, if_neg hc]
   cases upZ r with
   | none => rfl
   | some p => simp only [Option.map_some, List.length_cons]; rw [show i + 1 + p.length = i + (p.length + 1) by omega]
theorem XD (n : Nat) (nm : List Int) (hl : nm.length ≤ 100000) (hn : nm.length < n) (a : Nat) : lZ n nm (a : Int) = some (match nameAt nm a with | some s => (s, true) | none => ([], false)) := by
 unfold lZ lY nameAt
 rw [Ti n nm hl a (nm.drop a) a n rfl (Nat.le_refl _) (by rw [List.length_drop]; omega)]
 cases hu : upZ (nm.drop a) with
 | none => rfl
 | some p =>
  have := (VM hu).1
  simp only [Option.bind_some, Sum.elim_inl, Option.map_some]
  rw [List.drop_take, show a + p.length - a = p.length by omega, this]
theorem rj1 (n : Nat) {w : Nat} (hw : w = 4 ∨ w = 8) (b : List Int) {u s l T K N : Nat} (hu : u < 4294967296) (hs : s < 4294967296) (hl : l < 4294967296) (hT : T < 4294967296) (hK : K < 4294967296) (hN : N < 4294967296) :
 jo n b (w : Int) (u : Int) (s : Int) (l : Int) (T : Int) (K : Int) (N : Int) [] [] [] [] [] [] [] [] = some (!(La u s l T K N && decide (jb w u s l T K N ≤ b.length)), (u : Int), (s : Int), (l : Int), (T : Int), (K : Int), (N : Int), [], [], [], [], [], [], [], []) := by
 unfold jo kT La
 have e0 : ∀ x : Nat, ((x : Int) != 0) = !Nat.beq x 0 := fun x => by
  cases h : Nat.beq x 0 with
  | true => have := Nat.eq_of_beq_eq_true h; subst this; rfl
  | false => have := Nat.ne_of_beq_eq_false h; simp; omega
 have e1 : ∀ x : Nat, ((x : Int) != (K : Int)) = !Nat.beq x K := fun x => by
  cases h : Nat.beq x K with
  | true => have := Nat.eq_of_beq_eq_true h; subst this; simp
  | false => have := Nat.ne_of_beq_eq_false h; simp; omega
 have e2 : decide ((b.length : Int) < (jb w u s l T K N : Int)) = !decide (jb w u s l T K N ≤ b.length) := by
  by_cases c : jb w u s l T K N ≤ b.length
  ·rw [decide_eq_true c, decide_eq_false (by omega)]; rfl
  ·rw [decide_eq_false c, decide_eq_true (by omega)]; rfl
 by_cases c1 : 1 ≤ K
 ·rw [af (by omega), decide_eq_true c1]
  by_cases c2 : K ≤ 255
  ·rw [af (by omega), decide_eq_true c2]
   by_cases c3 : T ≤ 4000
   ·rw [af (by omega), decide_eq_true c3]
    by_cases c4 : 1 ≤ N
    ·rw [af (by omega), decide_eq_true c4]
     by_cases c5 : N ≤ 4096
     ·rw [af (by omega), decide_eq_true c5]
      by_cases c6 : l ≤ 1000
      ·rw [af (by omega), decide_eq_true c6]
       simp only [e0, e1, Dy n hw hu hs hl hT hK hN, Option.bind_some, e2]
       cases Nat.beq s 0 <;> cases Nat.beq s K <;> cases Nat.beq u 0 <;> cases Nat.beq u K <;> rfl
      ·rw [aa (by omega), decide_eq_false c6]; rfl
     ·rw [aa (by omega), decide_eq_false c5]; rfl
    ·rw [aa (by omega), decide_eq_false c4]; rfl
   ·rw [aa (by omega), decide_eq_false c3]; rfl
  ·rw [aa (by omega), decide_eq_false c2]; rfl
 ·rw [aa (by omega), decide_eq_false c1]; rfl
theorem UZ (n : Nat) {w : Nat} (hw : w = 4 ∨ w = 8) (b : List Int) {u s l T K N : Nat} (hu : u < 4294967296) (hs : s < 4294967296) (hl : l < 4294967296) (hT : T < 4294967296) (hK : K < 4294967296) (hN : N < 4294967296) (h : (La u s l T K N && decide (jb w u s l T K N ≤ b.length)) = false) :
 aQ n b (u : Int) (s : Int) (l : Int) (T : Int) (K : Int) (N : Int) (w : Int) = some ([], [], [], [], false) := by
 unfold aQ ko
 have := rj1 n hw b hu hs hl hT hK hN
 rw [h] at this
 rw [this]
 rfl
theorem adZ (n : Nat) (hn : 9 ≤ n) {w : Nat} (hw : w = 4 ∨ w = 8) (b : List Int) (a : Nat) (hab : a + w ≤ 1000000000) (v : Int) (hv : Qu w v) (q : List Int) (hd : b.drop a = be w v ++ q) : bJ n b (a : Int) (w : Int) = some v := by
 rcases hw with rfl | rfl
 ·simp only [Qu, if_true] at hv
  exact Zy n hn b a hab v hv.1 hv.2 q hd
 ·simp only [Qu] at hv
  rw [if_neg (by decide)] at hv
  exact adX n hn b a hab v hv.1 hv.2 q hd
section
variable {w : Nat} {ti ix : List Int} {ks : List Kd} {nm ex : List Int} {T K N : Nat}
theorem acV (n : Nat) (hn : 9 ≤ n) (hw : w = 4 ∨ w = 8) (hT : T ≤ 4000) (h1 : ti.length = T) (h2 : ix.length = T) (g1 : ∀ x ∈ ti, Qu w x) (g2 : ∀ x ∈ ix, 0 ≤ x ∧ x ≤ 255) (u s l K N : Int) (y0 : List (List AV)) (y1 y2 : List Int) (y3 : Str) (z0 : List (List AV)) (z3 : Str) : ∀ (r r2 : List Int) (i m : Nat) (a1 a2 : List Int), ti.drop i = r → ix.drop i = r2 → r.length < m → a1.length = i → a2.length = i →
 cu n m (uD w ti ix ks nm ex) (w : Int) (i : Int) u s l (T : Int) K N y0 y1 y2 y3 z0 a1 a2 z3 = some (u, s, l, (T : Int), K, N, y0, y1, y2, y3, z0, a1 ++ r, a2 ++ r2, z3)
 | [], r2, i, m + 1, a1, a2, hd, hd2, _, _, _ => by
  have hi := drop_nil hd
  have : r2 = [] := by rw [← hd2]; exact List.drop_of_length_le (by omega)
  subst this
  simp only [cu, gX]
  rw [af (by omega)]
  simp
 | x :: r, r2, i, m + 1, a1, a2, hd, hd2, hm, ha1, ha2 => by
  obtain ⟨k1, k2, k3⟩ := dV hd
  simp only [List.length_cons] at hm
  obtain ⟨y, r3, rfl⟩ : ∃ y r3, r2 = y :: r3 := by
   cases r2 with
   | nil => have := drop_nil hd2; omega
   | cons y r3 => exact ⟨y, r3, rfl⟩
  obtain ⟨j1, j2, j3⟩ := dV hd2
  obtain ⟨q, hq⟩ := afv (w := w) (ix := ix) (ks := ks) (nm := nm) (ex := ex) h1 hd
  have hw8 : w ≤ 8 := by omega
  have hwi : w * i ≤ 8 * i := Nat.mul_le_mul_right _ hw8
  have hwT : w * T ≤ 8 * T := Nat.mul_le_mul_right _ hw8
  obtain ⟨y1', y2'⟩ := g2 y (List.mem_of_getElem? j1)
  have e1 : IntKind.i64.wrap ((w : Int) * (i : Int)) = ((w * i : Nat) : Int) := by rw [← Int.natCast_mul, wi _ (by omega) (by omega)]
  have e2 : IntKind.i64.wrap ((IntKind.i64.wrap ((w : Int) * (T : Int))) + (i : Int)) = ((w * T + i : Nat) : Int) := by rw [← Int.natCast_mul, wi ((w * T : Nat) : Int) (by omega) (by omega), wi _ (by omega) (by omega)]; omega
  simp only [cu, gX]
  rw [aa (by omega), e1, adZ n hn hw _ _ (by omega) x (g1 x (List.mem_of_getElem? k1)) q hq]
  simp only [Option.bind_some]
  rw [aa (by simp only [List.length_cons, List.length_nil]; omega), e2, aa (by omega), Int.toNat_natCast, afw h1 h2 g2 (by omega), j1]
  simp only [Option.bind_some]
  rw [aa (by simp only [List.length_cons, List.length_nil]; omega), pK _ (by omega), wi y (by omega) (by omega)]
  rw [acV n hn hw hT h1 h2 g1 g2 u s l K N y0 y1 y2 y3 z0 z3 r r3 (i + 1) m _ _ k2 j2 (by omega) (by simp; omega) (by simp; omega)]
  simp
theorem acW (n : Nat) (hn : 5001 ≤ n) (hw : w = 4 ∨ w = 8) (hT : T ≤ 4000) (hK : K ≤ 255) (hN : N ≤ 4096) (h1 : ti.length = T) (h2 : ix.length = T) (h3 : ks.length = K) (h4 : nm.length = N) (g3 : ∀ k ∈ ks, KOk k) (u s l TT NN : Int) (y0 : List (List AV)) (y1 y2 : List Int) (y3 : Str) (z1 z2 : List Int) (z3 : Str) : ∀ (r : List Kd) (i m : Nat) (acc : List (List AV)), ks.drop i = r → r.length < m → acc.length = i →
 (Ko nm r = none ∧ ∃ q1 q2 q3 q4, bK n m (uD w ti ix ks nm ex) ((w * T + T : Nat) : Int) nm (i : Int) u s l TT (K : Int) NN y0 y1 y2 y3 acc z1 z2 z3 = some (Sum.inl (u, s, l, TT, (K : Int), NN, [], [], [], q1, q2, q3, q4))) ∨
 (∃ ts, Ko nm r = some ts ∧ bK n m (uD w ti ix ks nm ex) ((w * T + T : Nat) : Int) nm (i : Int) u s l TT (K : Int) NN y0 y1 y2 y3 acc z1 z2 z3 = some (Sum.inr (u, s, l, TT, (K : Int), NN, y0, y1, y2, y3, acc ++ ts.map cT, z1, z2, z3)))
 | [], i, m + 1, acc, hd, _, _ => by
  have hi := drop_nil hd
  refine .inr ⟨[], rfl, ?_⟩
  simp only [bK, gY]
  rw [af (by omega)]
  simp
 | k :: r, i, m + 1, acc, hd, hm, ha => by
  obtain ⟨k1, k2, k3⟩ := dV hd
  simp only [List.length_cons] at hm
  obtain ⟨⟨a1, a2⟩, ⟨b1, b2⟩, c1, c2⟩ := g3 k (List.mem_of_getElem? k1)
  obtain ⟨q, hq⟩ := afx (w := w) (nm := nm) (ex := ex) h1 h2 hd
  have hwT : w * T ≤ 8 * T := Nat.mul_le_mul_right _ (by omega)
  generalize hB : uD w ti ix ks nm ex = B at hq
  have e6 : IntKind.i64.wrap (((w * T + T : Nat) : Int) + IntKind.i64.wrap ((6 : Int) * (i : Int))) = ((w * T + T + 6 * i : Nat) : Int) := by rw [wi ((6 : Int) * (i : Int)) (by omega) (by omega), wi _ (by omega) (by omega)]; omega
  generalize hP : w * T + T + 6 * i = P at hq e6
  have e5 : IntKind.i64.wrap ((P : Int) + 5) = ((P + 5 : Nat) : Int) := by rw [wi _ (by omega) (by omega)]; omega
  have e4 : IntKind.i64.wrap ((P : Int) + 4) = ((P + 4 : Nat) : Int) := by rw [wi _ (by omega) (by omega)]; omega
  have o1 : ∀ v : Int, 0 ≤ v → v ≤ 255 → be 1 v = [v] := fun v h0 h1 => by rw [YE, Int.pow_zero, fd0, IntKind.wrap_u8, show v % 256 = v by omega]
  have hk : kb k ++ q = be 4 k.1 ++ (k.2.1 :: k.2.2 :: q) := by simp [kb, o1 _ b1 b2, o1 _ c1 c2]
  rw [hk] at hq
  have p5 : B[P + 5]? = some k.2.2 := by rw [← List.getElem?_drop, hq, List.getElem?_append_right (by rw [vL]; omega), vL]; rfl
  have p4 : B[P + 4]? = some k.2.1 := by rw [← List.getElem?_drop, hq, List.getElem?_append_right (by rw [vL]; omega), vL]; rfl
  have hsg : bJ n B (P : Int) 4 = some k.1 := Zy n (by omega) B P (by omega) k.1 a1 a2 _ hq
  obtain ⟨t2, ht2⟩ : ∃ t2 : Nat, k.2.2 = (t2 : Int) := ⟨k.2.2.toNat, by omega⟩
  have hlt := XD n nm (by omega) (by omega) t2
  have hna : nameAt nm k.2.2.toNat = nameAt nm t2 := by rw [ht2, Int.toNat_natCast]
  simp only [bK, gY]
  rw [aa (by omega), e6, e5, aa (by omega), Int.toNat_natCast, p5]
  simp only [Option.bind_some]
  rw [wi k.2.2 (by omega) (by omega), ht2, hlt]
  simp only [Option.bind_some, nE, kU, Ko, mkT, hna]
  cases hnm : nameAt nm t2 with
  | none => exact .inl ⟨rfl, _, _, _, _, rfl⟩
  | some st =>
   simp only [Bool.not_true, cond_false]
   rw [e4, aa (by omega), Int.toNat_natCast, p4]
   simp only [Option.bind_some]
   by_cases hc : k.2.1 > 1
   ·rw [if_pos hc, decide_eq_true hc]
    exact .inl ⟨rfl, _, _, _, _, rfl⟩
   ·rw [if_neg hc, decide_eq_false hc, cond_false, hsg]
    simp only [Option.bind_some]
    rw [aa (by omega), aa (by simp only [List.length_cons, List.length_nil]; omega), pK _ (by omega)]
    have ih := acW n hn hw hT hK hN h1 h2 h3 h4 g3 u s l TT NN y0 y1 y2 y3 z1 z2 z3 r (i + 1) m (acc ++ [[.int .i64 k.1, .bool (k.2.1 == 1), .str st]]) k2 (by omega) (by simp; omega)
    rw [hB] at ih
    rcases ih with ⟨h5, q1, q2, q3, q4, h6⟩ | ⟨ts, h5, h6⟩
    ·exact .inl ⟨by rw [h5]; rfl, q1, q2, q3, q4, h6⟩
    ·refine .inr ⟨_, by rw [h5]; rfl, h6.trans ?_⟩
     simp [cT]
theorem Tj (n : Nat) (hn : 5001 ≤ n) (hw : w = 4 ∨ w = 8) {u s l : Nat} (hm : La u s l T K N = true) (h1 : ti.length = T) (h2 : ix.length = T) (h3 : ks.length = K) (h4 : nm.length = N) (h5 : ex.length = l * (w + 4) + s + u)
 (g1 : ∀ x ∈ ti, Qu w x) (g2 : ∀ x ∈ ix, 0 ≤ x ∧ x ≤ 255) (g3 : ∀ k ∈ ks, KOk k) :
 aQ n (uD w ti ix ks nm ex) (u : Int) (s : Int) (l : Int) (T : Int) (K : Int) (N : Int) (w : Int) = (match Ko nm ks with
  | none => some ([], [], [], [], false)
  | some ts => (bP n (ts.map cT) ti ix []).bind fun o => some (ts.map cT, ti, ix, [], o)) := by
 obtain ⟨m1, m2, m3, m4, m5, m6, m7, m8⟩ := Iy hm
 have hwT : w * T ≤ 8 * T := Nat.mul_le_mul_right _ (by omega)
 have hbl := Qv h1 h2 h3 h4 h5
 have hj := rj1 n hw (uD w ti ix ks nm ex) (u := u) (s := s) (l := l) (T := T) (K := K) (N := N) (by omega) (by omega) (by omega) (by omega) (by omega) (by omega)
 rw [hm, decide_eq_true (by rw [hbl]; exact Nat.le_refl _)] at hj
 unfold aQ ko
 rw [hj]
 simp only [Option.bind_some, Bool.and_self, Bool.not_true, cond_false]
 have e1 := acV (w := w) (ks := ks) (nm := nm) (ex := ex) n (by omega) hw m3 h1 h2 g1 g2 (u : Int) (s : Int) (l : Int) (K : Int) (N : Int) [] [] [] [] [] [] ti ix 0 n [] [] (by simp) (by simp) (by omega) rfl rfl
 simp only [Int.natCast_zero, List.nil_append] at e1
 simp only [e1, Option.bind_some]
 have hT1 : (w + 1) * T = w * T + T := by rw [Nat.add_mul, Nat.one_mul]
 have w1 : IntKind.i64.wrap ((w : Int) + 1) = ((w + 1 : Nat) : Int) := by rw [wi _ (by omega) (by omega)]; omega
 have w2 : IntKind.i64.wrap (((w + 1 : Nat) : Int) * (T : Int)) = ((w * T + T : Nat) : Int) := by rw [← Int.natCast_mul, hT1, wi _ (by omega) (by omega)]
 have w3 : IntKind.i64.wrap ((6 : Int) * (K : Int)) = ((6 * K : Nat) : Int) := by rw [wi _ (by omega) (by omega)]; omega
 have w4 : IntKind.i64.wrap (((w * T + T : Nat) : Int) + ((6 * K : Nat) : Int)) = ((w * T + T + 6 * K : Nat) : Int) := by rw [wi _ (by omega) (by omega)]; omega
 have w5 : IntKind.i64.wrap (((w * T + T + 6 * K : Nat) : Int) + (N : Int)) = ((w * T + T + 6 * K + N : Nat) : Int) := by rw [wi _ (by omega) (by omega)]; omega
 have hTw : T * (w + 1) = w * T + T := by rw [Nat.mul_comm, hT1]
 simp only [w1, w2, w3, w4, w5, Int.toNat_natCast]
 rw [aa (by omega), aa (by rw [hbl]; unfold jb; rw [hTw]; omega), aa (by omega), aa (by omega), afy h1 h2 h3 h4]
 have e2 := acW (w := w) (T := T) (K := K) (N := N) (ex := ex) n hn hw m3 m2 m5 h1 h2 h3 h4 g3 (u : Int) (s : Int) (l : Int) (T : Int) (N : Int) [] [] [] [] ti ix [] ks 0 n [] (by simp) (by omega) rfl
 simp only [Int.natCast_zero] at e2
 rcases e2 with ⟨e3, q1, q2, q3, q4, e4⟩ | ⟨ts, e3, e4⟩
 ·rw [e4, e3]; rfl
 ·rw [e4, e3]
  simp only [Option.bind_some, Sum.elim_inr, List.nil_append]
end
end Go.Proofs.YtiegmpnagcdgoaaGreatDoor.H.Z
namespace Go.Proofs.YtiegmpnagcdgoaaGreatDoor.H.Z
open Go.Sh Go.RowKit
set_option linter.unusedSimpArgs false
set_option linter.unusedVariables false
theorem Ag (n : Nat) (hn : 20 ≤ n) {b r r2 r3 r4 : List Int} {x : List Int} {bad1 bad2 bad3 bad4 : Bool} {v c1 c2 c3 c4 c5 c6 L v2 d1 d2 d3 d4 d5 d6 : Int} {z0 : List (List AV)} {z1 z2 : List Int} {z3 : Str} (ht : r4.length ≤ 100000) (hv : (v == 0) = false)
 (h1 : Cy b false = (v, c1, c2, c3, c4, c5, c6, r, bad1)) (hL : gM n v c1 c2 c3 c4 c5 c6 4 = some L) (h2 : eX L r bad1 = (x, r2, bad2)) (h3 : Cy r2 bad2 = (v2, d1, d2, d3, d4, d5, d6, r3, bad3)) (h4 : bL n v2 d1 d2 d3 d4 d5 d6 8 r3 bad3 = some (z0, z1, z2, z3, r4, bad4)) :
 bB n b false = some (if (bad4 || v2 != v || zR r4) = true then (z0, z1, z2, z3, r4, true) else (z0, z1, z2, yN ((r4.take (r4.length - 1)).drop 1), [], false)) := by
 unfold bB lG
 rw [Kn n hn, h1]
 simp only [Option.bind_some]
 rw [hv, cond_false, hL]
 simp only [Option.bind_some, Iw, h2, Kn n hn, h3, h4]
 have hj : ku n r4 bad4 [] [] [] [] v c1 c2 c3 c4 c5 c6 v2 d1 d2 d3 d4 d5 d6 z0 z1 z2 z3 = some (r4, bad4 || v2 != v || zR r4, [], [], [], [], v, c1, c2, c3, c4, c5, c6, v2, d1, d2, d3, d4, d5, d6, z0, z1, z2, z3) := by
  unfold ku ql zR
  cases bad4 with
  | true => rfl
  | false =>
   rw [cond_false]
   cases v2 != v with
   | true => rfl
   | false =>
    rw [cond_false]
    by_cases c1 : r4.length < 2
    ·rw [aa (by omega), decide_eq_true c1]; rfl
    ·rw [af (by omega), decide_eq_false c1, get_of (show 0 < r4.length by omega), Option.bind_some]
     cases c2 : r4.getD 0 0 != 10 with
     | true => rfl
     | false =>
      rw [cond_false, wi _ (by omega) (by omega), aa (by omega), show ((r4.length : Int) - 1).toNat = r4.length - 1 by omega, get_of (show r4.length - 1 < r4.length by omega)]
      rfl
 rw [hj]
 simp only [Option.bind_some]
 cases hb : bad4 || v2 != v || zR r4 with
 | true => rfl
 | false =>
  have c1 : ¬ r4.length < 2 := by
   intro h
   simp [zR, h] at hb
  rw [wi _ (by omega) (by omega), aa (by omega), aa (by omega), show ((r4.length : Int) - 1).toNat = r4.length - 1 by omega, aa (by omega)]
  rfl
theorem YF (n : Nat) (b : List Int) {z0 : List (List AV)} {z1 z2 : List Int} {z3 : Str} {r : List Int} (h : bB n b false = some (z0, z1, z2, z3, r, false)) (hr : 0 < r.length) : iZ n b = some ([], [], [], [], 60) := by
 unfold iZ vK
 rw [h]
 simp only [Option.bind_some, cond_false]
 rw [aa (by omega)]
theorem QA (n : Nat) (hn : 4001 ≤ n) (b : List Int) (ts : List Ty) (ti ix : List Int) (foot : Str) (h : bB n b false = some (ts.map cT, ti, ix, foot, [], false)) (hR : RightS ts ti ix foot = false) : iZ n b = some ([], [], [], [], 60) := by
 unfold iZ vK
 rw [h]
 simp only [Option.bind_some, cond_false, List.length_nil, Int.natCast_zero]
 rw [af (by omega), right_val n hn, hR]
 rfl
theorem Tk (n : Nat) (b : List Int) (h : aS n b ((0 : Nat) : Int) = some (0, 0, 0, 0, 0, 0, 0, false)) : aj n b = some ([], [], [], [], false) := by
 unfold aj bR
 have h' : aS n b (0 : Int) = some (0, 0, 0, 0, 0, 0, 0, false) := h
 rw [h']
 rfl
theorem U0 {nm : List Int} {ks : List Kd} : ∀ {ts : List Ty}, Ko nm ks = some ts → ∀ t ∈ ts, t.2.2.length ≤ nm.length := by
 induction ks with
 | nil => intro ts h t ht; simp only [Ko, Option.some.injEq] at h; subst h; simp at ht
 | cons k ks ih =>
  intro ts h t ht
  simp only [Ko, mkT, nameAt] at h
  cases hu : upZ (nm.drop k.2.2.toNat) with
  | none => rw [hu] at h; simp at h
  | some p =>
   rw [hu] at h
   simp only [Option.map_some] at h
   by_cases hc1 : k.2.1 > 1
   ·rw [if_pos hc1] at h; simp at h
   ·rw [if_neg hc1] at h
    simp only [Option.map_eq_some_iff] at h
    obtain ⟨ts', h4, rfl⟩ := h
    rcases List.mem_cons.1 ht with rfl | ht
    ·have := (VM hu).2
     rw [List.length_drop] at this
     simp only [yN, List.length_map]; omega
    ·exact ih h4 t ht
theorem aaS (l : List Int) : (yN l).length = l.length := by simp [yN]
theorem QB {m4 s15 : List Int} {v : Int} {c1 c2 c3 c4 c5 c6 : Nat} {r : List Int} (hm : m4.length = 4) (hs : s15.length = 15) : (zC m4 s15 v c1 c2 c3 c4 c5 c6 r).length = 44 + r.length := by
 simp only [zC, List.length_append, vL, hm, hs]; omega
def Both (n : Nat) (b : List Int) : Prop :=
 (∃ ts ti ix foot, (∀ t ∈ ts, t.2.2.length ≤ 4096) ∧ RightS ts ti ix foot = true ∧ iZ n b = some (List.map cT ts, ti, ix, foot, 0) ∧ aj n b = some (List.map cT ts, ti, ix, foot, true)) ∨
 (iZ n b = some ([], [], [], [], 60) ∧ ∃ z0 z1 z2 z3, aj n b = some (z0, z1, z2, z3, false) ∧ (b[4]? ≠ some 0 → z0 = [] ∧ z1 = [] ∧ z2 = [] ∧ z3 = []))
theorem w9 {n : Nat} {b : List Int} (h1 : ∃ x : Zo, bB n b false = some x ∧ x.2.2.2.2.2 = true) (h2 : aj n b = some ([], [], [], [], false)) : Both n b := .inr ⟨aaN n b h1, _, _, _, _, h2, fun _ => ⟨rfl, rfl, rfl, rfl⟩⟩
theorem XE (n : Nat) (hn : 5001 ≤ n) {b : List Int} (hb : BY b) (hbl : b.length ≤ 4000) {m4 s15 : List Int} {c1 c2 c3 c4 c5 c6 : Nat} {r : List Int} (he : b = zC m4 s15 0 c1 c2 c3 c4 c5 c6 r) (hm : m4.length = 4) (hs : s15.length = 15) (h1 : c1 < 4294967296) (h2 : c2 < 4294967296) (h3 : c3 < 4294967296) (h4 : c4 < 4294967296) (h5 : c5 < 4294967296) (h6 : c6 < 4294967296) (hr : r = b.drop 44) (hH : isH m4 0 = true) : Both n b := by
 have hlen : b.length = 44 + r.length := by rw [he]; exact QB hm hs
 have hhead := Nj hm hs (v := 0) (by omega) h1 h2 h3 h4 h5 h6 r
 rw [← he, hH] at hhead
 have hcnt := Lb n (by omega) (b := b) (a := 0) (by omega) (by rw [List.drop_zero]; exact he) (by omega) hm hs (v := 0) (by omega) h1 h2 h3 h4 h5 h6
 rw [hH, if_pos rfl] at hcnt
 have hcnt : aS n b (0 : Int) = some ((c1 : Int), (c2 : Int), (c3 : Int), (c4 : Int), (c5 : Int), (c6 : Int), 0, true) := hcnt
 have hL : aZ n (c1 : Int) (c2 : Int) (c3 : Int) (c4 : Int) (c5 : Int) (c6 : Int) (4 : Int) = some (jb 4 c1 c2 c3 c4 c5 c6 : Int) := Dy n (w := 4) (.inl rfl) h1 h2 h3 h4 h5 h6
 have hLb : jb 4 c1 c2 c3 c4 c5 c6 ≤ 1000000000000 := by unfold jb; omega
 have hfile : ∀ z0 z1 z2 z3 r4 bad4, dH n 0 (c1 : Int) (c2 : Int) (c3 : Int) (c4 : Int) (c5 : Int) (c6 : Int) 4 r false = some (z0, z1, z2, z3, r4, bad4) → bB n b false = some (z0, z1, z2, z3, r4, bad4) := fun z0 z1 z2 z3 r4 bad4 h => by
  unfold bB lG
  rw [Kn n (by omega), hhead]
  simp only [Option.bind_some, Bool.not_true]
  rw [show ((0 : Int) == 0) = true by decide, cond_true, h]
  rfl
 have href : aj n b = cond ((b.length : Int) != ((44 + jb 4 c1 c2 c3 c4 c5 c6 : Nat) : Int)) (some ([], [], [], [], false)) ((aQ n r (c1 : Int) (c2 : Int) (c3 : Int) (c4 : Int) (c5 : Int) (c6 : Int) (4 : Int)).bind fun o => some (o.1, o.2.1, o.2.2.1, o.2.2.2.1, o.2.2.2.2)) := by
  unfold aj bR
  rw [hcnt]
  simp only [Option.bind_some, Bool.not_true, cond_false]
  rw [hL]
  simp only [Option.bind_some]
  rw [show ((0 : Int) == 0) = true by decide, cond_true, wi ((44 : Int) + (jb 4 c1 c2 c3 c4 c5 c6 : Int)) (by omega) (by omega), ← hr, aa (by omega)]
  rfl
 by_cases hlr : b.length = 44 + jb 4 c1 c2 c3 c4 c5 c6
 ·have hne : ((b.length : Int) != ((44 + jb 4 c1 c2 c3 c4 c5 c6 : Nat) : Int)) = false := by rw [hlr]; simp
  rw [hne, cond_false] at href
  cases hma : La c1 c2 c3 c4 c5 c6 with
  | false =>
   have hno := XB n r 0 h1 h2 h3 h4 h5 h6 (by rw [hma]; rfl)
   have hno2 : aQ n r (c1 : Int) (c2 : Int) (c3 : Int) (c4 : Int) (c5 : Int) (c6 : Int) (4 : Int) = some ([], [], [], [], false) := UZ n (w := 4) (.inl rfl) r h1 h2 h3 h4 h5 h6 (by rw [hma]; rfl)
   rw [hno2] at href
   exact w9 ⟨_, hfile _ _ _ _ _ _ hno, rfl⟩ href
  | true =>
   obtain ⟨ti, ix, ks, nm, ex, e1, e2, e3, e4, e5, e6, g1, g2, g3, g4⟩ := PO (w := 4) (.inl rfl) (b := r) (by rw [hr]; exact hb.drop 44) (u := c1) (s := c2) (l := c3) (T := c4) (K := c5) (N := c6) (by omega)
   obtain ⟨z, bad, q1, q2, q3⟩ := UY n hn 0 hma e2 e3 e4 e5 e6 g1 g2 g3 g4 []
   rw [List.append_nil, ← e1] at q1
   have q4 := Tj n hn (w := 4) (.inl rfl) hma e2 e3 e4 e5 e6 g1 g2 g3
   rw [← e1] at q4
   have q4 : aQ n r (c1 : Int) (c2 : Int) (c3 : Int) (c4 : Int) (c5 : Int) (c6 : Int) (4 : Int) = _ := q4
   rw [q4] at href
   obtain ⟨m1, m2, m3, m4', m5, m6, m7, m8⟩ := Iy hma
   cases hmk : Ko nm ks with
   | none =>
    rw [hmk] at href
    have := q2 hmk
    subst this
    exact w9 ⟨_, hfile _ _ _ _ _ _ q1, rfl⟩ href
   | some ts =>
    obtain ⟨rfl, rfl⟩ := q3 ts hmk
    have hbd := U0 hmk
    rw [hmk] at href
    simp only at href
    rw [rright_val n (by omega) ts ti ix [] (fun t ht => by have := hbd t ht; omega) (by simp only [List.length_nil]; omega)] at href
    simp only [Option.bind_some] at href
    cases hR : RightS ts ti ix [] with
    | true =>
     rw [hR] at href
     exact .inl ⟨ts, ti, ix, [], fun t ht => by have := hbd t ht; omega, hR, Xz n (by omega) b ts ti ix [] (hfile _ _ _ _ _ _ q1) hR, href⟩
    | false =>
     rw [hR] at href
     refine .inr ⟨QA n (by omega) b ts ti ix [] (hfile _ _ _ _ _ _ q1) hR, _, _, _, _, href, fun h => absurd ?_ h⟩
     rw [he]
     unfold zC
     rw [List.getElem?_append_right (by omega), hm]
     rfl
 ·have hne : ((b.length : Int) != ((44 + jb 4 c1 c2 c3 c4 c5 c6 : Nat) : Int)) = true := by simp; omega
  rw [hne, cond_true] at href
  cases hma : La c1 c2 c3 c4 c5 c6 && decide (jb 4 c1 c2 c3 c4 c5 c6 ≤ r.length) with
  | false => exact w9 ⟨_, hfile _ _ _ _ _ _ (XB n r 0 h1 h2 h3 h4 h5 h6 hma), rfl⟩ href
  | true =>
   simp only [Bool.and_eq_true, decide_eq_true_eq] at hma
   obtain ⟨ti, ix, ks, nm, ex, e1, e2, e3, e4, e5, e6, g1, g2, g3, g4⟩ := PO (w := 4) (.inl rfl) (b := r.take (jb 4 c1 c2 c3 c4 c5 c6)) (by rw [hr]; exact (hb.drop 44).take _) (u := c1) (s := c2) (l := c3) (T := c4) (K := c5) (N := c6) (by rw [List.length_take]; omega)
   obtain ⟨z, bad, q1, q2, q3⟩ := UY n hn 0 hma.1 e2 e3 e4 e5 e6 g1 g2 g3 g4 (r.drop (jb 4 c1 c2 c3 c4 c5 c6))
   rw [← e1, List.take_append_drop] at q1
   have hf := hfile _ _ _ _ _ _ q1
   cases bad with
   | true => exact w9 ⟨_, hf, rfl⟩ href
   | false => exact .inr ⟨YF n b hf (by rw [List.length_drop]; omega), _, _, _, _, href, fun _ => ⟨rfl, rfl, rfl, rfl⟩⟩
end Go.Proofs.YtiegmpnagcdgoaaGreatDoor.H.Z
namespace Go.Proofs.YtiegmpnagcdgoaaGreatDoor.H.Z
open Go.Sh Go.RowKit
set_option linter.unusedSimpArgs false
set_option linter.unusedVariables false
theorem K7 {ts : List Ty} {ti ix : List Int} {foot : Str} (h : RightS ts ti ix [] = false) : RightS ts ti ix foot = false := by
 cases hR : RightS ts ti ix foot with
 | false => rfl
 | true =>
  obtain ⟨h1, h2, h3, h4, h5, h6, h7, h8⟩ := right_parts hR
  have : RightS ts ti ix [] = true := by
   simp only [RightS, Bool.and_eq_true, decide_eq_true_eq]
   exact ⟨⟨⟨⟨⟨⟨⟨h1, h2⟩, h3⟩, h4⟩, rfl⟩, h6⟩, h7⟩, h8⟩
  rw [this] at h; cases h
theorem XF (n : Nat) (hn : 5001 ≤ n) {b : List Int} (hb : BY b) (hbl : b.length ≤ 4000) {m4 s15 : List Int} {v : Int} {c1 c2 c3 c4 c5 c6 : Nat} {r : List Int} (he : b = zC m4 s15 v c1 c2 c3 c4 c5 c6 r) (hm : m4.length = 4) (hs : s15.length = 15) (hv : 0 ≤ v ∧ v ≤ 255) (hv0 : (v == 0) = false) (h1 : c1 < 4294967296) (h2 : c2 < 4294967296) (h3 : c3 < 4294967296) (h4 : c4 < 4294967296) (h5 : c5 < 4294967296) (h6 : c6 < 4294967296) (hr : r = b.drop 44) (hH : isH m4 v = true) : Both n b := by
 have hlen : b.length = 44 + r.length := by rw [he]; exact QB hm hs
 have hhead := Nj hm hs hv h1 h2 h3 h4 h5 h6 r
 rw [← he, hH, Bool.not_true] at hhead
 have hcnt := Lb n (by omega) (b := b) (a := 0) (by omega) (by rw [List.drop_zero]; exact he) (by omega) hm hs hv h1 h2 h3 h4 h5 h6
 rw [hH, if_pos rfl] at hcnt
 have hcnt : aS n b (0 : Int) = some ((c1 : Int), (c2 : Int), (c3 : Int), (c4 : Int), (c5 : Int), (c6 : Int), v, true) := hcnt
 generalize hLd : jb 4 c1 c2 c3 c4 c5 c6 = L
 have hL : aZ n (c1 : Int) (c2 : Int) (c3 : Int) (c4 : Int) (c5 : Int) (c6 : Int) (4 : Int) = some (L : Int) := by rw [← hLd]; exact Dy n (w := 4) (.inl rfl) h1 h2 h3 h4 h5 h6
 have hL2 : gM n v (c1 : Int) (c2 : Int) (c3 : Int) (c4 : Int) (c5 : Int) (c6 : Int) (4 : Int) = some (L : Int) := by rw [← hLd]; exact UX n v (w := 4) (.inl rfl) h1 h2 h3 h4 h5 h6
 have hLb : L ≤ 1000000000000 := by rw [← hLd]; unfold jb; omega
 have href0 : r.length < L → aj n b = some ([], [], [], [], false) := fun hlt => by
  unfold aj bR
  rw [hcnt]
  simp only [Option.bind_some, Bool.not_true, cond_false]
  rw [hL]
  simp only [Option.bind_some]
  rw [hv0, cond_false, wi ((b.length : Int) - 44) (by omega) (by omega), aa (by omega)]
 by_cases hrL : r.length < L
 ·have ht := Q8 (k := (L : Int)) (b := r) (bad := false) (by omega)
  obtain ⟨v2, d1, d2, d3, d4, d5, d6, r3, hh⟩ := Zu (UV [])
  have hf := Ag n (by omega) (r4 := r3) (by
   have : r3.length = 0 := by
    have h0 : Cy ([] : List Int) true = (0, 0, 0, 0, 0, 0, 0, [], true) := by kernel_rfl
    rw [h0] at hh; injection hh with _ hh; injection hh with _ hh; injection hh with _ hh; injection hh with _ hh; injection hh with _ hh; injection hh with _ hh; injection hh with _ hh; injection hh with hh _; subst hh; rfl
   omega) hv0 hhead hL2 ht hh (K9 n v2 d1 d2 d3 d4 d5 d6 8 r3)
  rw [Bool.true_or, Bool.true_or, if_pos rfl] at hf
  exact w9 ⟨_, hf, rfl⟩ (href0 hrL)
 have ht : eX (L : Int) r false = (r.take L, r.drop L, false) := by
  unfold eX
  rw [if_neg (by omega), Int.toNat_natCast]
 have hbL : b.drop (44 + L) = r.drop L := by rw [hr, List.drop_drop]
 have w44 : IntKind.i64.wrap ((44 : Int) + (L : Int)) = ((44 + L : Nat) : Int) := by rw [wi _ (by omega) (by omega)]; omega
 have w88 : IntKind.i64.wrap ((88 : Int) + (L : Int)) = ((88 + L : Nat) : Int) := by rw [wi _ (by omega) (by omega)]; omega
 have href1 : ∀ (e1 e2 e3 e4 e5 e6 v2 : Int) (ok : Bool), aS n b ((44 + L : Nat) : Int) = some (e1, e2, e3, e4, e5, e6, v2, ok) → (ok = false ∨ (v2 != v) = true) → aj n b = some ([], [], [], [], false) := fun e1 e2 e3 e4 e5 e6 v2 ok hc hb2 => by
  unfold aj bR
  rw [hcnt]
  simp only [Option.bind_some, Bool.not_true, cond_false]
  rw [hL]
  simp only [Option.bind_some]
  rw [hv0, cond_false, wi ((b.length : Int) - 44) (by omega) (by omega), af (by omega), w44, hc]
  simp only [Option.bind_some, fG, dU]
  rcases hb2 with rfl | hb2
  ·rfl
  ·rw [hb2]; cases ok <;> rfl
 by_cases hl2 : (r.drop L).length < 44
 ·have hc := PP n b (44 + L) (by omega) (by omega) (by rw [List.length_drop] at hl2; omega)
  obtain ⟨v2, d1, d2, d3, d4, d5, d6, r3, hh⟩ := Zu (Q9 (b := r.drop L) (bad := false) hl2)
  have hr3 : r3.length ≤ 4000 := by
   have q : (Cy (r.drop L) false).2.2.2.2.2.2.2.1.length ≤ (r.drop L).length := by
    simp only [Cy]
    have k4 : ∀ (l : List Int) (q : Bool), (eZ 4 l q).2.1.length = l.length - 4 := fun l q => K8 4 l q
    have k1 : ∀ (l : List Int) (q : Bool), (eZ 1 l q).2.1.length = l.length - 1 := fun l q => K8 1 l q
    have k15 : ∀ (l : List Int) (q : Bool), (eX 15 l q).2.1.length = l.length - 15 := fun l q => Kk 15 l q
    have kk : ∀ (l : List Int) (q : Bool), (eX 4 l q).2.1.length = l.length - 4 := fun l q => Kk 4 l q
    simp only [k4, k1, k15, kk]; omega
   rw [hh] at q
   simp only at q
   rw [List.length_drop] at q; omega
  have hf := Ag n (by omega) (r4 := r3) (by omega) hv0 hhead hL2 ht hh (K9 n v2 d1 d2 d3 d4 d5 d6 8 r3)
  rw [Bool.true_or, Bool.true_or, if_pos rfl] at hf
  exact w9 ⟨_, hf, rfl⟩ (href1 _ _ _ _ _ _ _ _ hc (.inl rfl))
 obtain ⟨m4', s15', v2, d1, d2, d3, d4, d5, d6, r3, he2, hm2, hs2, hv2, g1, g2, g3, g4, g5, g6, hr3⟩ := Zz (b := r.drop L) (by rw [hr]; exact (hb.drop 44).drop L) (by omega)
 have hlen2 : (r.drop L).length = 44 + r3.length := by rw [he2]; exact QB hm2 hs2
 have hhead2 := Nj hm2 hs2 hv2 g1 g2 g3 g4 g5 g6 r3
 rw [← he2] at hhead2
 have hc2 := Lb n (by omega) (b := b) (a := 44 + L) (by omega) (by rw [hbL]; exact he2) (by rw [List.length_drop] at hlen2; omega) hm2 hs2 hv2 g1 g2 g3 g4 g5 g6
 have hr3b : r3 = b.drop (88 + L) := by rw [hr3, hr, List.drop_drop, List.drop_drop]; congr 1; omega
 have hr3l : b.length = 88 + L + r3.length := by rw [List.length_drop] at hlen2; omega
 cases hH2 : isH m4' v2 with
 | false =>
  rw [hH2] at hc2 hhead2
  have hf := Ag n (by omega) (r4 := r3) (by omega) hv0 hhead hL2 ht hhead2 (K9 n v2 d1 d2 d3 d4 d5 d6 8 r3)
  rw [Bool.true_or, Bool.true_or, if_pos rfl] at hf
  exact w9 ⟨_, hf, rfl⟩ (href1 _ _ _ _ _ _ _ _ hc2 (.inl rfl))
 | true =>
 rw [hH2, if_pos rfl] at hc2
 rw [hH2, Bool.not_true] at hhead2
 generalize hMd : jb 8 d1 d2 d3 d4 d5 d6 = M
 have hMb : M ≤ 1000000000000 := by rw [← hMd]; unfold jb; omega
 have hblk : ∃ z0 z1 z2 z3 r4 bad4, bL n v2 (d1 : Int) (d2 : Int) (d3 : Int) (d4 : Int) (d5 : Int) (d6 : Int) 8 r3 false = some (z0, z1, z2, z3, r4, bad4) ∧ r4.length ≤ 4000 := by
  cases hma : La d1 d2 d3 d4 d5 d6 && decide (jb 8 d1 d2 d3 d4 d5 d6 ≤ r3.length) with
  | false => exact ⟨_, _, _, _, _, _, Qy n r3 v2 g1 g2 g3 g4 g5 g6 hma, by omega⟩
  | true =>
   simp only [Bool.and_eq_true, decide_eq_true_eq] at hma
   obtain ⟨ti, ix, ks, nm, ex, e1, e2, e3, e4, e5, e6, f1, f2, f3, f4⟩ := PO (w := 8) (.inr rfl) (b := r3.take (jb 8 d1 d2 d3 d4 d5 d6)) (by rw [hr3b]; exact (hb.drop _).take _) (u := d1) (s := d2) (l := d3) (T := d4) (K := d5) (N := d6) (by rw [List.length_take]; omega)
   obtain ⟨z, bad, q1, q2, q3⟩ := OA n hn v2 hma.1 e2 e3 e4 e5 e6 f1 f2 f3 f4 (r3.drop (jb 8 d1 d2 d3 d4 d5 d6))
   rw [← e1, List.take_append_drop] at q1
   exact ⟨_, _, _, _, _, _, q1, by rw [List.length_drop]; omega⟩
 cases hvv : v2 != v with
 | true =>
  obtain ⟨z0, z1, z2, z3, r4, bad4, hbk, hr4⟩ := hblk
  have hf := Ag n (by omega) (by omega) hv0 hhead hL2 ht hhead2 hbk
  rw [hvv, Bool.or_true, Bool.true_or, if_pos rfl] at hf
  exact w9 ⟨_, hf, rfl⟩ (href1 _ _ _ _ _ _ _ _ hc2 (.inr hvv))
 | false =>
 have hM : aZ n (d1 : Int) (d2 : Int) (d3 : Int) (d4 : Int) (d5 : Int) (d6 : Int) (8 : Int) = some (M : Int) := by rw [← hMd]; exact Dy n (w := 8) (.inr rfl) g1 g2 g3 g4 g5 g6
 have hM2 : IntKind.i64.wrap ((M : Int) + 2) = ((M + 2 : Nat) : Int) := by rw [wi _ (by omega) (by omega)]; omega
 have href2 : r3.length < M + 2 → aj n b = some ([], [], [], [], false) := fun hlt => by
  unfold aj bR
  rw [hcnt]
  simp only [Option.bind_some, Bool.not_true, cond_false]
  rw [hL]
  simp only [Option.bind_some]
  rw [hv0, cond_false, wi ((b.length : Int) - 44) (by omega) (by omega), af (by omega), w44, hc2]
  simp only [Option.bind_some, fG, dU, Bool.not_true, cond_false, hvv, w88]
  rw [decide_eq_false (show ¬((b.length : Int) < ((88 + L : Nat) : Int)) by omega), cond_false, aa (by omega), aa (by omega), hM]
  simp only [Option.bind_some]
  rw [Int.toNat_natCast, ← hr3b, hM2, aa (by omega)]
 by_cases hlt : r3.length < M + 2
 ·
  obtain ⟨z0, z1, z2, z3, r4, bad4, hbk, hr4⟩ := hblk
  have hf := Ag n (by omega) (by omega) hv0 hhead hL2 ht hhead2 hbk
  have hbad : (bad4 || v2 != v || zR r4) = true := by
   cases hma : La d1 d2 d3 d4 d5 d6 && decide (jb 8 d1 d2 d3 d4 d5 d6 ≤ r3.length) with
   | false =>
    rw [Qy n r3 v2 g1 g2 g3 g4 g5 g6 hma] at hbk
    injection hbk with hbk
    injection hbk with _ hbk; injection hbk with _ hbk; injection hbk with _ hbk; injection hbk with _ hbk; injection hbk with _ hbk
    subst hbk; rfl
   | true =>
    simp only [Bool.and_eq_true, decide_eq_true_eq] at hma
    obtain ⟨ti, ix, ks, nm, ex, e1, e2, e3, e4, e5, e6, f1, f2, f3, f4⟩ := PO (w := 8) (.inr rfl) (b := r3.take (jb 8 d1 d2 d3 d4 d5 d6)) (by rw [hr3b]; exact (hb.drop _).take _) (u := d1) (s := d2) (l := d3) (T := d4) (K := d5) (N := d6) (by rw [List.length_take]; omega)
    obtain ⟨z, bad, q1, q2, q3⟩ := OA n hn v2 hma.1 e2 e3 e4 e5 e6 f1 f2 f3 f4 (r3.drop (jb 8 d1 d2 d3 d4 d5 d6))
    rw [← e1, List.take_append_drop, hbk] at q1
    injection q1 with q1
    injection q1 with _ q1; injection q1 with _ q1; injection q1 with _ q1; injection q1 with _ q1; injection q1 with q1 _
    have hl : r4.length < 2 := by rw [q1, List.length_drop]; omega
    simp [zR, hl]
  rw [hbad, if_pos rfl] at hf
  exact w9 ⟨_, hf, rfl⟩ (href2 hlt)
 generalize htd : r3.drop M = t at *
 have htl : t.length = r3.length - M := by rw [← htd, List.length_drop]
 have href3 : ∀ (z0 : List (List AV)) (z1 z2 : List Int) (z3 : Str) (may : Bool), aQ n (r3.take M) (d1 : Int) (d2 : Int) (d3 : Int) (d4 : Int) (d5 : Int) (d6 : Int) (8 : Int) = some (z0, z1, z2, z3, may) →
  aj n b = cond (!may || zR t) (some ([], [], [], [], false)) ((bP n z0 z1 z2 (yN ((t.take (t.length - 1)).drop 1))).bind fun o => cond (!o) (some ([], [], [], [], false)) (some (z0, z1, z2, yN ((t.take (t.length - 1)).drop 1), true))) := fun z0 z1 z2 z3 may hbk => by
  unfold aj bR
  rw [hcnt]
  simp only [Option.bind_some, Bool.not_true, cond_false]
  rw [hL]
  simp only [Option.bind_some]
  rw [hv0, cond_false, wi ((b.length : Int) - 44) (by omega) (by omega), af (by omega), w44, hc2]
  simp only [Option.bind_some, fG, dU, Bool.not_true, cond_false, hvv, w88]
  rw [decide_eq_false (show ¬((b.length : Int) < ((88 + L : Nat) : Int)) by omega), cond_false, aa (by omega), aa (by omega), hM]
  simp only [Option.bind_some]
  rw [Int.toNat_natCast, ← hr3b, hM2, af (by omega), aa (by omega), aa (by omega), Int.toNat_natCast, List.drop_zero, hbk]
  simp only [Option.bind_some]
  rw [aa (by omega), aa (by omega), htd]
  have hj : jq n may t [] [] [] [] (c1 : Int) (c2 : Int) (c3 : Int) (c4 : Int) (c5 : Int) (c6 : Int) (d1 : Int) (d2 : Int) (d3 : Int) (d4 : Int) (d5 : Int) (d6 : Int) z0 z1 z2 z3 = some (!may || zR t, [], [], [], [], (c1 : Int), (c2 : Int), (c3 : Int), (c4 : Int), (c5 : Int), (c6 : Int), (d1 : Int), (d2 : Int), (d3 : Int), (d4 : Int), (d5 : Int), (d6 : Int), z0, z1, z2, z3) := by
   unfold jq kV zR
   cases may with
   | false => rfl
   | true =>
    rw [Bool.not_true, cond_false, get_of (show 0 < t.length by omega), decide_eq_false (show ¬(t.length < 2) by omega)]
    simp only [Option.bind_some]
    cases t.getD 0 0 != 10 with
    | true => rfl
    | false =>
     rw [cond_false, wi _ (by omega) (by omega), aa (by omega), show ((t.length : Int) - 1).toNat = t.length - 1 by omega, get_of (show t.length - 1 < t.length by omega)]
     rfl
  rw [hj]
  simp only [Option.bind_some]
  cases !may || zR t with
  | true => rfl
  | false =>
   rw [cond_false, cond_false, wi ((t.length : Int) - 1) (by omega) (by omega), aa (by omega), aa (by omega), show ((t.length : Int) - 1).toNat = t.length - 1 by omega, aa (by omega)]
 cases hma : La d1 d2 d3 d4 d5 d6 with
 | false =>
  have hno := Qy n r3 v2 g1 g2 g3 g4 g5 g6 (by rw [hma]; rfl)
  have hno2 : aQ n (r3.take M) (d1 : Int) (d2 : Int) (d3 : Int) (d4 : Int) (d5 : Int) (d6 : Int) (8 : Int) = some ([], [], [], [], false) := UZ n (w := 8) (.inr rfl) _ g1 g2 g3 g4 g5 g6 (by rw [hma]; rfl)
  have hf := Ag n (by omega) (by omega) hv0 hhead hL2 ht hhead2 hno
  rw [Bool.true_or, Bool.true_or, if_pos rfl] at hf
  exact w9 ⟨_, hf, rfl⟩ (href3 _ _ _ _ _ hno2)
 | true =>
  obtain ⟨ti, ix, ks, nm, ex, e1, e2, e3, e4, e5, e6, f1, f2, f3, f4⟩ := PO (w := 8) (.inr rfl) (b := r3.take M) (by rw [hr3b]; exact (hb.drop _).take _) (u := d1) (s := d2) (l := d3) (T := d4) (K := d5) (N := d6) (by rw [List.length_take]; omega)
  obtain ⟨z, bad, q1, q2, q3⟩ := OA n hn v2 hma e2 e3 e4 e5 e6 f1 f2 f3 f4 t
  rw [← e1, ← htd, List.take_append_drop, htd] at q1
  have q4 := Tj n hn (w := 8) (.inr rfl) hma e2 e3 e4 e5 e6 f1 f2 f3
  rw [← e1] at q4
  have q4 : aQ n (r3.take M) (d1 : Int) (d2 : Int) (d3 : Int) (d4 : Int) (d5 : Int) (d6 : Int) (8 : Int) = _ := q4
  obtain ⟨m1, m2, m3, m4'', m5, m6, m7, m8⟩ := Iy hma
  have hf := Ag n (by omega) (by omega) hv0 hhead hL2 ht hhead2 q1
  rw [hvv, Bool.or_false] at hf
  cases hmk : Ko nm ks with
  | none =>
   rw [hmk] at q4
   have := q2 hmk
   subst this
   rw [Bool.true_or, if_pos rfl] at hf
   exact w9 ⟨_, hf, rfl⟩ (href3 _ _ _ _ _ q4)
  | some ts =>
   obtain ⟨rfl, rfl⟩ := q3 ts hmk
   have hbd := U0 hmk
   rw [hmk] at q4
   simp only at q4
   rw [rright_val n (by omega) ts ti ix [] (fun t ht => by have := hbd t ht; omega) (by simp only [List.length_nil]; omega)] at q4
   simp only [Option.bind_some] at q4
   have hrf := href3 _ _ _ _ _ q4
   rw [Bool.false_or] at hf
   have hfl : (yN ((t.take (t.length - 1)).drop 1)).length ≤ 4000 := by rw [aaS, List.length_drop, List.length_take]; omega
   rw [rright_val n (by omega) ts ti ix _ (fun t ht => by have := hbd t ht; omega) (by omega)] at hrf
   simp only [Option.bind_some] at hrf
   cases htb : zR t with
   | true =>
    rw [htb, if_pos rfl] at hf
    rw [htb, Bool.or_true, cond_true] at hrf
    exact w9 ⟨_, hf, rfl⟩ hrf
   | false =>
    rw [htb] at hf
    rw [if_neg (by decide)] at hf
    rw [htb, Bool.or_false] at hrf
    cases hR0 : RightS ts ti ix [] with
    | false =>
     rw [hR0] at hrf
     exact .inr ⟨QA n (by omega) b ts ti ix _ hf (K7 hR0), _, _, _, _, hrf, fun _ => ⟨rfl, rfl, rfl, rfl⟩⟩
    | true =>
     rw [hR0, Bool.not_true, cond_false] at hrf
     cases hR : RightS ts ti ix (yN ((t.take (t.length - 1)).drop 1)) with
     | false =>
      rw [hR] at hrf
      exact .inr ⟨QA n (by omega) b ts ti ix _ hf hR, _, _, _, _, hrf, fun _ => ⟨rfl, rfl, rfl, rfl⟩⟩
     | true =>
      rw [hR] at hrf
      exact .inl ⟨ts, ti, ix, _, fun t ht => by have := hbd t ht; omega, hR, Xz n (by omega) b ts ti ix _ hf hR, hrf⟩
theorem parse_both (n : Nat) (hn : 5001 ≤ n) {b : List Int} (hb : BY b) (hbl : b.length ≤ 4000) : Both n b := by
 by_cases hl : b.length < 44
 ·exact w9 (Xy n (by omega) b (Q9 hl)) (Tk n b (PP n b 0 (by omega) (by omega) (by omega)))
 obtain ⟨m4, s15, v, c1, c2, c3, c4, c5, c6, r, he, hm, hs, hv, h1, h2, h3, h4, h5, h6, hr⟩ := Zz hb (by omega)
 cases hH : isH m4 v with
 | false =>
  have hhead := Nj hm hs hv h1 h2 h3 h4 h5 h6 r
  rw [← he, hH] at hhead
  have hcnt := Lb n (by omega) (b := b) (a := 0) (by omega) (by rw [List.drop_zero]; exact he) (by omega) hm hs hv h1 h2 h3 h4 h5 h6
  rw [hH] at hcnt
  exact w9 (Xy n (by omega) b (by rw [hhead]; rfl)) (Tk n b hcnt)
 | true =>
  by_cases hv0 : v = 0
  ·subst hv0
   exact XE n hn hb hbl he hm hs h1 h2 h3 h4 h5 h6 hr hH
  ·exact XF n hn hb hbl he hm hs hv (by simpa using hv0) h1 h2 h3 h4 h5 h6 hr hH
end Go.Proofs.YtiegmpnagcdgoaaGreatDoor.H.Z
namespace Go.Proofs.YtiegmpnagcdgoaaGreatDoor.H
open Go.Sh Go.RowKit
set_option linter.unusedSimpArgs false
set_option linter.unusedVariables false
def Tm (ts : List Z.Ty) (ti ix : List Int) (foot : Str) : Int := if Z.RightS ts ti ix foot = true then (if foot = [] then 0 else match LB foot with
 | some _ => 0
 | none => 70) else 2
theorem U1 (n : Nat) (hn : 4001 ≤ n) (ts : List Z.Ty) (ti ix : List Int) (foot : Str) :
 (Tm ts ti ix foot ≠ 0 ∧ sj n (ts.map Z.cT) ti ix foot = some (Sum.inl (Tm ts ti ix foot))) ∨ (Tm ts ti ix foot = 0 ∧ ((∃ x, sj n (ts.map Z.cT) ti ix foot = some (Sum.inr (Sum.inl x))) ∨ ∃ x, sj n (ts.map Z.cT) ti ix foot = some (Sum.inr (Sum.inr x)))) := by
 rw [Zr n hn]
 unfold Tm
 by_cases hR : Z.RightS ts ti ix foot = true
 ·rw [if_pos hR, if_pos hR]
  by_cases hf : foot = []
  ·rw [if_pos hf, if_pos hf]
   exact .inr ⟨rfl, .inr ⟨_, rfl⟩⟩
  ·rw [if_neg hf, if_neg hf]
   cases LB foot with
   | none => exact .inl ⟨by decide, rfl⟩
   | some r => exact .inr ⟨rfl, .inl ⟨_, rfl⟩⟩
 ·rw [if_neg hR, if_neg hR]
  exact .inl ⟨by decide, rfl⟩
theorem XG (n : Nat) (hn : 4001 ≤ n) (ts : List Z.Ty) (ti ix : List Int) (foot : Str) (hall : ∀ t ∈ ts, t.2.2.length ≤ 9223372036854775807 ∧ t.2.2.length < n) (hf : foot.length ≤ 9223372036854775807 ∧ foot.length < n) :
 ∃ o, aC n (ts.map Z.cT) ti ix foot = some o ∧ o.2.2.2.2.2.2.2.2.2.2.2.2.2.2.2.2.2.2.2 = Tm ts ti ix foot := by
 unfold Tm
 by_cases hR : Z.RightS ts ti ix foot = true
 ·refine ⟨_, acF n hn ts ti ix foot hall hf hR, ?_⟩
  rw [if_pos hR]
  by_cases hf : foot = []
  ·rw [if_pos hf, if_pos hf]
  ·rw [if_neg hf, if_neg hf]
   cases LB foot <;> rfl
 ·unfold aC mh
  rw [if_neg hR]
  rw [Bool.not_eq_true] at hR
  rw [Z.rright_val n hn ts ti ix foot hall hf, hR]
  exact ⟨_, rfl, rfl⟩
theorem YG (n : Nat) (hn : 20000 < n) {b : List Int} (hb : Z.BY b) (hbl : b.length ≤ 4000) :
 (∃ e, rJ n b = some (Sum.inl e) ∧ ((∃ o, aj n b = some o ∧ o.2.2.2.2 = false ∧ e = 60) ∨ (∃ y0 y1 y2 y3 o, aj n b = some (y0, y1, y2, y3, true) ∧ aC n y0 y1 y2 y3 = some o ∧ o.2.2.2.2.2.2.2.2.2.2.2.2.2.2.2.2.2.2.2 = e ∧ e ≠ 0))) ∨
 (∃ x, rJ n b = some (Sum.inr x) ∧ ∃ y0 y1 y2 y3 o, aj n b = some (y0, y1, y2, y3, true) ∧ aC n y0 y1 y2 y3 = some o ∧ o.2.2.2.2.2.2.2.2.2.2.2.2.2.2.2.2.2.2.2 = 0) := by
 rcases Z.parse_both n (by omega) hb hbl with ⟨ts, ti, ix, foot, hts, hR, h1, h2⟩ | ⟨h1, z0, z1, z2, z3, h2, _⟩
 ·have hf := K7 hR
  obtain ⟨o, e1, e2⟩ := XG n (by omega) ts ti ix foot (fun t ht => by have := hts t ht; omega) (by omega)
  unfold rJ EA
  rw [h1]
  simp only [Option.bind_some, bne_self_eq_false, cond_false]
  rcases U1 n (by omega) ts ti ix foot with ⟨k1, k2⟩ | ⟨k1, ⟨x, k2⟩ | ⟨x, k2⟩⟩
  ·rw [k2]
   exact .inl ⟨_, rfl, .inr ⟨_, _, _, _, o, h2, e1, e2, k1⟩⟩
  ·rw [k2]
   exact .inr ⟨_, rfl, _, _, _, _, o, h2, e1, by rw [e2, k1]⟩
  ·rw [k2]
   exact .inr ⟨_, rfl, _, _, _, _, o, h2, e1, by rw [e2, k1]⟩
 ·unfold rJ EA
  rw [h1]
  exact .inl ⟨60, rfl, .inl ⟨_, h2, rfl, rfl⟩⟩
def aeh (n : Nat) (b : List Int) : Option Bool := (rJ n b).bind fun o1049 => (Sum.elim (fun o1050 => (aj n b).bind fun o1124 => (cond (!o1124.2.2.2.2) ((cK n o1050).bind fun o1126 => (some o1126)) ((aC n o1124.1 o1124.2.1 o1124.2.2.1 o1124.2.2.2.1).bind fun o1127 => (cond (o1050 == o1127.2.2.2.2.2.2.2.2.2.2.2.2.2.2.2.2.2.2.2) (cond (false == (o1127.2.2.2.2.2.2.2.2.2.2.2.2.2.2.2.2.2.2.2 == (0 : Int))) ((aD n ).bind fun o1128 => (some o1128)) (some false)) (some false))))) (fun o1051 => Sum.elim (fun o1129 => (aj n b).bind fun o1131 => (cond (!o1131.2.2.2.2) ((aR n (0 : Int)).bind fun o1132 => (some false)) ((aC n o1131.1 o1131.2.1 o1131.2.2.1 o1131.2.2.2.1).bind fun o1133 => (cond ((0 : Int) == o1133.2.2.2.2.2.2.2.2.2.2.2.2.2.2.2.2.2.2.2) (cond (true == (o1133.2.2.2.2.2.2.2.2.2.2.2.2.2.2.2.2.2.2.2 == (0 : Int))) ((aD n ).bind fun o1134 => (some o1134)) (some false)) (some false))))) (fun o1130 => (aj n b).bind fun o1135 => (cond (!o1135.2.2.2.2) ((aR n (0 : Int)).bind fun o1136 => (some false)) ((aC n o1135.1 o1135.2.1 o1135.2.2.1 o1135.2.2.2.1).bind fun o1137 => (cond ((0 : Int) == o1137.2.2.2.2.2.2.2.2.2.2.2.2.2.2.2.2.2.2.2) (cond (true == (o1137.2.2.2.2.2.2.2.2.2.2.2.2.2.2.2.2.2.2.2 == (0 : Int))) ((aD n ).bind fun o1138 => (some o1138)) (some false)) (some false))))) o1051) o1049)
theorem acX (n : Nat) (hn : 20000 < n) (hw : aD n = some true) {b : List Int} (hb : Z.BY b) (hbl : b.length ≤ 4000) : aeh n b = some true := by
 unfold aeh
 rcases YG n hn hb hbl with ⟨e, k1, ⟨o, k2, k3, rfl⟩ | ⟨y0, y1, y2, y3, o, k2, k3, k4, k5⟩⟩ | ⟨x, k1, y0, y1, y2, y3, o, k2, k3, k4⟩
 ·rw [k1]
  simp only [Option.bind_some, Sum.elim_inl]
  rw [k2]
  simp only [Option.bind_some]
  rw [k3, Bool.not_false, cond_true, cK, jC, show ((60 : Int) == 60) = true from rfl, cond_true, hw]
  rfl
 ·rw [k1]
  simp only [Option.bind_some, Sum.elim_inl]
  rw [k2]
  simp only [Option.bind_some, Bool.not_true, cond_false]
  rw [k3]
  simp only [Option.bind_some]
  rw [k4, beq_self_eq_true, cond_true, show (e == 0) = false by simpa using k5, hw]
  rfl
 ·rw [k1]
  cases x with
  | inl x =>
   simp only [Option.bind_some, Sum.elim_inr, Sum.elim_inl]
   rw [k2]
   simp only [Option.bind_some, Bool.not_true, cond_false]
   rw [k3]
   simp only [Option.bind_some]
   rw [k4, hw]
   rfl
  | inr x =>
   simp only [Option.bind_some, Sum.elim_inr]
   rw [k2]
   simp only [Option.bind_some, Bool.not_true, cond_false]
   rw [k3]
   simp only [Option.bind_some]
   rw [k4, hw]
   rfl
theorem afm (n : Nat) (ts : List Z.Ty) (ti ix : List Int) (foot : Str) (b : List Int) : ∃ c, gZ n b (ts.map Z.cT) ti ix foot = some (c, ts.map Z.cT, ti, ix, foot) ∧ (c = false → b.length ≤ 3000 ∧ ts.length ≤ 40) := by
 unfold gZ jA
 by_cases c1 : ((ts.map Z.cT).length : Int) > 40
 ·rw [aa c1]; exact ⟨_, rfl, fun h => by cases h⟩
 rw [af c1]
 rw [List.length_map] at c1
 by_cases c2 : (ti.length : Int) > 300
 ·rw [aa c2]; exact ⟨_, rfl, fun h => by cases h⟩
 rw [af c2]
 by_cases c3 : (ix.length : Int) > 300
 ·rw [aa c3]; exact ⟨_, rfl, fun h => by cases h⟩
 rw [af c3]
 by_cases c4 : (foot.length : Int) > 200
 ·rw [aa c4]; exact ⟨_, rfl, fun h => by cases h⟩
 rw [af c4]
 exact ⟨_, rfl, fun h => by have := of_decide_eq_false h; omega⟩
theorem VN (n : Nat) (hn : 20000 < n) (hw : aD n = some true) (ts : List Z.Ty) (ti ix : List Int) (foot : Str) {b : List Int} (hb : Z.BY b) (hall : ∀ t ∈ ts, t.2.2.length ≤ 9223372036854775807 ∧ t.2.2.length < n) (hf : foot.length ≤ 9223372036854775807 ∧ foot.length < n) :
 iN n (ts.map Z.cT) ti ix foot b = some true := by
 unfold iN l5
 obtain ⟨c, e1, e2⟩ := afm n ts ti ix foot b
 rw [e1]
 cases c with
 | true =>
  simp only [Option.bind_some, cond_true]
  rw [hw]
  rfl
 | false =>
  obtain ⟨hbl, htl⟩ := e2 rfl
  simp only [Option.bind_some, cond_false]
  have hp := Z.plain_val n (by omega) ts ti ix foot (by omega)
  obtain ⟨o, g1, g2⟩ := XG n (by omega) ts ti ix foot hall hf
  have ht := acX n hn hw hb (by omega : b.length ≤ 4000)
  rcases U1 n (by omega) ts ti ix foot with ⟨k1, k2⟩ | ⟨k1, ⟨x, k2⟩ | ⟨x, k2⟩⟩
  ·rw [k2]
   simp only [Option.bind_some, Sum.elim_inl]
   rw [hp]
   simp only [Option.bind_some]
   rw [g1]
   simp only [Option.bind_some]
   rw [g2, kW, jB, bne_self_eq_false, cond_false, show (Tm ts ti ix foot == 0) = false by simpa using k1]
   exact ht
  ·rw [k2]
   simp only [Option.bind_some, Sum.elim_inr, Sum.elim_inl]
   rw [hp]
   simp only [Option.bind_some]
   rw [g1]
   simp only [Option.bind_some]
   rw [g2, k1]
   exact ht
  ·rw [k2]
   simp only [Option.bind_some, Sum.elim_inr]
   rw [hp]
   simp only [Option.bind_some]
   rw [g1]
   simp only [Option.bind_some]
   rw [g2, k1]
   exact ht
theorem XH {els : List (List AV)} {ti ix b : List Int} {foot : Str} (h0 : ∀ e ∈ els, LD.qR [.int .i64, .bool, .str] e) (h3 : foot.length ≤ 9223372036854775807) (hb : Z.BY b) : ∃ n, iN n els ti ix foot b = some true := by
 obtain ⟨ts, rfl, ht⟩ := Z.open_types h0
 obtain ⟨m, hm⟩ := Z.lens_bound ts
 refine ⟨20001 + m + foot.length, VN _ (by omega) (aaK _ (by omega)) ts ti ix foot hb (fun t h => ?_) ⟨h3, by omega⟩⟩
 have := hm t h
 have := (ht t h).2.2
 omega
end Go.Proofs.YtiegmpnagcdgoaaGreatDoor.H
namespace Go.Sh
open Go
theorem MQ {P : Program} {w : World} : ∀ {l : List (String × DataW Unit)} {ps : List MemPlace}, DataW.LaidVars P w l ps → ∀ {n : String} {d : DataW Unit}, (n, d) ∈ l →
 ∃ g t cs fuel p, P.globalNamed n = some g ∧ (P.globals[g]?).map (·.type) = some t ∧ w.var? P n = some cs ∧ DataW.trod (fun _ => ()) P w 0 (fun _ => true) false fuel t cs.toList = some (d, p)
 | [], _, _, n, d, hx => by cases hx
 | (m, e) :: r, _, h, n, d, hx => by
  obtain ⟨g, t, cs, fuel, p, q, h1, h2, h3, h4, h5, _⟩ := h
  rcases List.mem_cons.1 hx with hx | hx
  ·injection hx with hn hd
   subst hn hd
   exact ⟨g, t, cs, fuel, p, h1, h2, h3, h4⟩
  ·exact MQ h5 hx
theorem U2 {P : Program} {w : World} {n : String} {g : Nat} {cs : Array Value} (hg : P.globalNamed n = some g) (h : w.var? P n = some cs) : ∃ t f, w.heap[g]? = some (.cells cs t f) := by
 simp only [World.var?, hg, Option.bind_some] at h
 split at h
 ·rename_i cs' t f e
  injection h with h
  subst h
  exact ⟨t, f, e⟩
 ·cases h
theorem Tn {P : Program} {w : World} {l : List (String × DataW Unit)} (h : laidMet P l w) {n s : String} {d : DataW Unit} (hx : (n, DataW.iface s d) ∈ l) {g : Nat} {t : TypeId} {ms : Array (String × TypeId)}
 (hg : P.globalNamed n = some g) (hty : (P.globals[g]?).map (·.type) = some t) (ht : P.underlying t = some (.interface ms)) : ∃ u v t' f, w.heap[g]? = some (.cells #[.iface u v] t' f) := by
 obtain ⟨ps, hl, _⟩ := h
 obtain ⟨g', t', cs, fuel, p, h1, h2, h3, h4⟩ := MQ hl hx
 obtain rfl := Option.some.inj (hg.symm.trans h1)
 obtain rfl := Option.some.inj (hty.symm.trans h2)
 obtain ⟨u, f, hb⟩ := U2 hg h3
 obtain ⟨cs⟩ := cs
 cases fuel with
 | zero => simp [DataW.trod] at h4
 | succ fuel =>
  simp only [DataW.trod, ht] at h4
  match cs, h4, hb with
  | [.iface x v], _, hb => exact ⟨x, v, u, f, hb⟩
  | [.nilIface], h4, _ => simp at h4
  | [], h4, _ => simp at h4
  | a :: b :: r, h4, _ => simp at h4
  | [.bool _], h4, _ => simp at h4
  | [.int _ _], h4, _ => simp at h4
theorem YH {P : Program} {w : World} {l : List (String × DataW Unit)} (h : laidMet P l w) {n : String} {k : IntKind} {zs : List Int} (hx : (n, Lib.tabData k zs) ∈ l) {g m : Nat} {t e : TypeId}
 (hg : P.globalNamed n = some g) (hty : (P.globals[g]?).map (·.type) = some t) (ht : P.underlying t = some (.array m e)) (he : P.underlying e = some (.int k)) (hce : P.cellsOf e = 1) (hct : P.cellsOf t = m) :
 ∃ t' f, w.heap[g]? = some (.cells (zs.map fun z => Value.int k z).toArray t' f) := by
 obtain ⟨ps, hl, _⟩ := h
 obtain ⟨g', t', cs, fuel, p, h1, h2, h3, h4⟩ := MQ hl hx
 obtain rfl := Option.some.inj (hg.symm.trans h1)
 obtain rfl := Option.some.inj (hty.symm.trans h2)
 obtain ⟨u, f, hb⟩ := U2 hg h3
 have := Lib.cells_of_tab ht he hce hct h4
 refine ⟨u, f, ?_⟩
 rw [hb, ← this]
end Go.Sh
namespace Go.Proofs.YtiegmpnagcdgoaaGreatDoor.H
open Go.Sh Go
theorem aaT {W : World} (h : W.ShapedOpen Tryz.prog) : ∃ m t f, W.heap[0]? = some (.cells #[.int .i64 m] t f) := by
 have h0 : ((begin Tryz.prog (fun _ _ => 0) default).world.heap[0]?).bind Obj.row? = some (#[.int .i64 0], 3) := by kernel_rfl
 obtain ⟨m, hm⟩ := cell_of_shapedOpen_int (g := 0) (t := 3) (zero := #[.int .i64 0]) (k := .i64) h (of_decide_eq_true (by kernel_rfl)) h0 rfl (by kernel_rfl) (by kernel_rfl) (by kernel_rfl)
 obtain ⟨cs, h1, h2, _⟩ := h.1 0 _ _ (of_decide_eq_true (by kernel_rfl)) h0
 obtain ⟨c, rfl⟩ : ∃ c, cs = #[c] := by
  obtain ⟨l⟩ := cs
  match l, h2 with
  | [c], _ => exact ⟨c, rfl⟩
 have : c = .int .i64 m := by simpa [World.cell?, h1] using hm
 subst this
 exact ⟨m, _, _, h1⟩
theorem aaU {W : World} (hs : W.ShapedOpen Tryz.prog) (h : laidMetH Tryz.prog [("math/bits.deBruijn32tab", Rows.laid_math_bits_deBruijn32tab), ("math/bits.deBruijn64tab", Rows.laid_math_bits_deBruijn64tab), ("internal/strconv.uint64pow10", Rows.laid_internal_strconv_uint64pow10), ("strconv.ErrRange", Rows.laid_strconv_ErrRange), ("strconv.ErrSyntax", Rows.laid_strconv_ErrSyntax)] W) : GdH W.heap := by
 rw [MakeChecks.laidMetH_plain _ _ _ (by kernel_rfl)] at h
 refine ⟨aaT hs, ?_, ?_, ?_⟩
 ·exact Tn h (n := "strconv.ErrSyntax") (t := 207) (ms := #[("Error", 148)]) (List.mem_cons_of_mem _ (List.mem_cons_of_mem _ (List.mem_cons_of_mem _ (List.mem_cons_of_mem _ (List.mem_cons_self ..))))) (by kernel_rfl) (by kernel_rfl) (by kernel_rfl)
 ·exact Tn h (n := "strconv.ErrRange") (t := 207) (ms := #[("Error", 148)]) (List.mem_cons_of_mem _ (List.mem_cons_of_mem _ (List.mem_cons_of_mem _ (List.mem_cons_self ..)))) (by kernel_rfl) (by kernel_rfl) (by kernel_rfl)
 ·exact YH h (n := "internal/strconv.uint64pow10") (k := .u64) (zs := Lib.pow10Tab) (t := 257) (e := 133) (m := 20) (List.mem_cons_of_mem _ (List.mem_cons_of_mem _ (by rw [show (Lib.tabData .u64 Lib.pow10Tab : DataW Unit) = Rows.laid_internal_strconv_uint64pow10 by kernel_rfl]; exact List.mem_cons_self ..))) (by kernel_rfl) (by kernel_rfl) (by kernel_rfl) (by kernel_rfl) (by kernel_rfl) (by kernel_rfl)
end Go.Proofs.YtiegmpnagcdgoaaGreatDoor.H
namespace Go.Sh
open Go
variable {H : Type} {enc : TypeId × Value → H}
theorem Tz {a : Assume} {C : Checked} {os : Os} {f : FuncId} {fn : Func} {s : ChangeSpec} {conds : List PathCond} {apart fresh handsOn again : Bool} {X : World → Array Value → Prop}
 (hX : ∀ (w w' : World) (args : Array Value), w.heap = w'.heap → X w args → X w' args)
 (own : ownKnob C.prog.godebug = none) (started : os.Started) (noInit : C.prog.inits.idxOf? f = none) (hfn : C.prog.funcs[f]? = some fn)
 (witness : ∃ (w : World) (tape : Tape) (i : Input), w.os = os ∧ (w.forCall tape i).Shaped C.prog ∧ i.vars = [] ∧ Input.okWide C.prog (w.forCall tape i) .any w.heap.size f i ∧
  ((s.pre enc C.prog fn conds apart (w.forCall tape i).memory i.args ∧ X (w.forCall tape i).memory i.args) ∧ sizedMet enc C.prog fn (OpenSpec.ofChange s) apart (w.forCall tape i).memory i.args) ∧ a.holds C.prog (lone (Frame.enter C.prog f i.args .normal) [] (w.forCall tape i)))
 (contract : ∀ (W : World) (base : Nat) (args : Array Value) (ds gs : List (DataW H)) (before : List MemPlace),
  (∀ (j : Nat) t v, fn.params[j]? = some t → args[j]? = some v → Value.okWide C.prog W .any base t v) →
  DataW.Whole enc C.prog fn.params.toList s.vars apart W args.toList ds gs before →
  conds.all (PathCond.test C.prog ⟨fn.params.toList, ds, s.plain.varTypes C.prog, gs⟩) = true →
  (DataW.weightsEach C.prog (fn.params.toList ++ s.plain.varTypes C.prog) (ds ++ gs)).all (· ≤ reachBytes) = true → X W args →
  W.ShapedOpen C.prog →
  a.holds C.prog (lone (Frame.enter C.prog f args .normal) [] W) →
  Calls C.prog f args W fun e W' => ∃ v, e = .returned v ∧ s.post enc C.prog fn apart fresh handsOn again W args v W') :
 ReturnsInHanded a C os f .any (fun w args => (s.pre enc C.prog fn conds apart w args ∧ X w args) ∧ sizedMet enc C.prog fn (OpenSpec.ofChange s) apart w args) (s.post enc C.prog fn apart fresh handsOn again) := by
 refine returnsInHanded_of_calls own started noInit witness ?_
 intro w tape i _ hsh _ hok hpre hholds
 obtain ⟨_, _, _, fn', hfn', _, _, _, _, hval⟩ := hok
 have e : fn' = fn := Option.some.inj (hfn'.symm.trans hfn)
 subst e
 obtain ⟨⟨⟨ds, gs, before, hw, hc⟩, hx⟩, hz⟩ := hpre
 have hw' := DataW.Whole.of_heap (w' := w.forCall tape i) (by rfl) hw
 refine (contract (w.forCall tape i) w.heap.size i.args ds gs before hval hw' hc (hz.weights hw) (hX _ _ _ (by rfl) hx) hsh hholds).mono fun e W' ⟨v, he, hp⟩ => ?_
 subst he
 exact ChangeSpec.post_blind hp
end Go.Sh

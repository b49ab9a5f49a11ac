/- The law FooterAt holds of every input that its statement speaks of: it tells true, and leaves its arguments as they were. -/
import Derived.Test.YtpooncihlnllnaaDoorRows
import Derived.Test.YtpooncihlnllnaaDoorCards
import Derived.Test.YtpooncihlnllnaaDoorTie
import Derived.Test.YtpooncihlnllnaaDoorUG
import Derived.Test.YtpooncihlnllnaaDoorG1
import Derived.Test.YtpooncihlnllnaaDoorSY
import Derived.WalkKit
import Derived.ProofKit
import Derived.OpenShut
import Derived.ShutString
import Derived.ChangeOld
import Derived.Below
import Derived.Carry
import Derived.LaidMore
import Derived.LaidLaws
import Derived.Lay
import Derived.SevenTiedAt
import Derived.Stop.Joined
namespace Go.Proofs.YtpooncihlnllnaaDoor.footerAt
open Go.ChangeShapes Go.WideShapes Go.ChangeAt Go.RowKit Go.Sh Go.Proofs.YtpooncihlnllnaaDoor.H
set_option linter.unusedVariables false
theorem own : ownKnob Tryd.prog.godebug = none := by kernel_rfl
theorem laidOut : laidOutB Tryd.prog = true := by kernel_rfl
set_option maxRecDepth 100000 in
theorem lifted (os : Os) (started : os.Started) (H : Type) (enc : TypeId × Value → H) :
    ReturnsInHanded {} Tryd.checked os 7 .any (fun w args => (Rows.footerAtSpec.pre enc Tryd.prog Tryd.f7 Rows.footerAtRow.domain false w args ∧ laidMetH Tryd.prog [("math/bits.deBruijn32tab", Rows.laid_math_bits_deBruijn32tab), ("math/bits.deBruijn64tab", Rows.laid_math_bits_deBruijn64tab), ("internal/strconv.uint64pow10", Rows.laid_internal_strconv_uint64pow10), ("strconv.ErrRange", Rows.laid_strconv_ErrRange), ("strconv.ErrSyntax", Rows.laid_strconv_ErrSyntax)] w) ∧ sizedMet enc Tryd.prog Tryd.f7 (OpenSpec.ofChange Rows.footerAtSpec) false w args) (Rows.footerAtSpec.post enc Tryd.prog Tryd.f7 false true false false) := by
  refine returnsInHanded_of_change_and (C := Tryd.checked) (X := (fun w _ => laidMetH Tryd.prog [("math/bits.deBruijn32tab", Rows.laid_math_bits_deBruijn32tab), ("math/bits.deBruijn64tab", Rows.laid_math_bits_deBruijn64tab), ("internal/strconv.uint64pow10", Rows.laid_internal_strconv_uint64pow10), ("strconv.ErrRange", Rows.laid_strconv_ErrRange), ("strconv.ErrSyntax", Rows.laid_strconv_ErrSyntax)] w)) (fun _ _ _ hh h => h.of_heap hh) own started (by kernel_rfl) Tryd.func7
    (ChangeSpec.witness_shaped (enc := enc) (C := Tryd.checked) (os := os) (X := (fun w _ => laidMetH Tryd.prog [("math/bits.deBruijn32tab", Rows.laid_math_bits_deBruijn32tab), ("math/bits.deBruijn64tab", Rows.laid_math_bits_deBruijn64tab), ("internal/strconv.uint64pow10", Rows.laid_internal_strconv_uint64pow10), ("strconv.ErrRange", Rows.laid_strconv_ErrRange), ("strconv.ErrSyntax", Rows.laid_strconv_ErrSyntax)] w)) false (World.laidAll Tryd.prog os [("math/bits.deBruijn32tab", Rows.laid_math_bits_deBruijn32tab), ("math/bits.deBruijn64tab", Rows.laid_math_bits_deBruijn64tab), ("internal/strconv.uint64pow10", Rows.laid_internal_strconv_uint64pow10), ("strconv.ErrRange", Rows.laid_strconv_ErrRange), ("strconv.ErrSyntax", Rows.laid_strconv_ErrSyntax)]) #[.agg #[.string ByteArray.empty, .string ByteArray.empty, .int .i64 0, .int .i64 0, .int .u8 0, .int .i64 0, .int .i64 0, .int .i64 0, .int .i64 0, .int .u8 0, .int .i64 0, .int .i64 0, .int .i64 0, .int .i64 0], .int .i64 0, .agg #[.int .u8 0, .int .i64 0, .int .i64 0, .int .i64 0, .int .i64 0], .int .i64 0] 8 (World.laidAll_os _ _ _)
      (World.shaped_of_ZipB (by kernel_rfl) (by kernel_rfl)) (by kernel_rfl) (by kernel_rfl) (by kernel_rfl)
      (by rw [MakeChecks.laidMetH_plain _ _ _ (by kernel_rfl)]; exact laidMet_laidAll _ (by kernel_rfl) (by kernel_rfl))) ?_
  intro W base args ds gs before hval0 hW hcnd hsz hL _
  have hval : ∀ (j : Nat) t v, Tryd.f7.params[j]? = some t → args[j]? = some v → Value.okWide Tryd.prog W .any base t v := hval0
  have hW' := hW
  obtain ⟨p, q, hA0, hV, rfl, hfz, hnd⟩ := hW
  have hA : DataW.TrodAll enc Tryd.prog W 0 (fun _ => true) true Tryd.f7.params.toList args.toList ds p := hA0
  rw [Tryd.params7] at hA hval
  obtain ⟨v0, vs0, d0, ds0, p0, q0, hargs, rfl, rfl, h0, r0⟩ := trodAll_cons hA
  obtain ⟨v1, vs1, d1, ds1, p1, q1, rfl, rfl, rfl, h1, r1⟩ := trodAll_cons r0
  obtain ⟨v2, vs2, d2, ds2, p2, q2, rfl, rfl, rfl, h2, r2⟩ := trodAll_cons r1
  obtain ⟨v3, vs3, d3, ds3, p3, q3, rfl, rfl, rfl, h3, r3⟩ := trodAll_cons r2
  obtain ⟨rfl, rfl, rfl⟩ := trodAll_nil r3
  obtain rfl : args = #[v0, v1, v2, v3] := by cases args; simp_all
  obtain ⟨rfl, rfl⟩ := trodVars_none hV
  have lt0 : ∀ x ∈ p0, x.block < W.heap.size := by obtain ⟨m, hm⟩ := h0; exact DataW.trod_lt m _ _ _ hm
  obtain ⟨vv0, rfl, _⟩ := okWide_struct Tryd.underlying26 (hval 0 26 v0 rfl rfl)
  obtain ⟨as0, k0, s0⟩ := open_agg (n := 12) (ds := [.str, .str, .int .i64, .int .i64, .int .u8, .int .i64, .int .i64, .int .i64, .int .i64, .int .u8, .int .i64, .int .i64, .int .i64, .int .i64]) (by kernel_rfl) h0
  have ow0 := agg_owns (vs := vv0) s0
  simp only [LD.sats] at s0
  obtain ⟨_, _, rfl, t0_0, ⟨_, _, rfl, t0_1, ⟨_, _, rfl, t0_2, ⟨_, _, rfl, t0_3, ⟨_, _, rfl, t0_4, ⟨_, _, rfl, t0_5, ⟨_, _, rfl, t0_6, ⟨_, _, rfl, t0_7, ⟨_, _, rfl, t0_8, ⟨_, _, rfl, t0_9, ⟨_, _, rfl, t0_10, ⟨_, _, rfl, t0_11, ⟨_, _, rfl, t0_12, ⟨_, _, rfl, t0_13, rfl⟩⟩⟩⟩⟩⟩⟩⟩⟩⟩⟩⟩⟩⟩ := s0
  simp only [LD.sat] at t0_0
  obtain ⟨x0_0, rfl, wx0_0⟩ := t0_0
  simp only [LD.sat] at t0_1
  obtain ⟨x0_1, rfl, wx0_1⟩ := t0_1
  simp only [LD.sat] at t0_2
  obtain ⟨x0_2, rfl, wx0_2⟩ := t0_2
  simp only [LD.sat] at t0_3
  obtain ⟨x0_3, rfl, wx0_3⟩ := t0_3
  simp only [LD.sat] at t0_4
  obtain ⟨x0_4, rfl, wx0_4⟩ := t0_4
  simp only [LD.sat] at t0_5
  obtain ⟨x0_5, rfl, wx0_5⟩ := t0_5
  simp only [LD.sat] at t0_6
  obtain ⟨x0_6, rfl, wx0_6⟩ := t0_6
  simp only [LD.sat] at t0_7
  obtain ⟨x0_7, rfl, wx0_7⟩ := t0_7
  simp only [LD.sat] at t0_8
  obtain ⟨x0_8, rfl, wx0_8⟩ := t0_8
  simp only [LD.sat] at t0_9
  obtain ⟨x0_9, rfl, wx0_9⟩ := t0_9
  simp only [LD.sat] at t0_10
  obtain ⟨x0_10, rfl, wx0_10⟩ := t0_10
  simp only [LD.sat] at t0_11
  obtain ⟨x0_11, rfl, wx0_11⟩ := t0_11
  simp only [LD.sat] at t0_12
  obtain ⟨x0_12, rfl, wx0_12⟩ := t0_12
  simp only [LD.sat] at t0_13
  obtain ⟨x0_13, rfl, wx0_13⟩ := t0_13
  have lt1 : ∀ x ∈ p1, x.block < W.heap.size := by obtain ⟨m, hm⟩ := h1; exact DataW.trod_lt m _ _ _ hm
  have c1 : v1.cells = #[v1] := by obtain ⟨_, rfl⟩ := okWide_int Tryd.underlying2 (hval 1 2 v1 rfl rfl); rfl
  obtain ⟨a1, k1, s1⟩ := open_one (n := 12) (d := .int .i64) (by kernel_rfl) c1 h1
  have ow1 := sat_owns (v := v1) s1
  simp only [LD.sat] at s1
  obtain ⟨x1, rfl, wx1⟩ := s1
  have lt2 : ∀ x ∈ p2, x.block < W.heap.size := by obtain ⟨m, hm⟩ := h2; exact DataW.trod_lt m _ _ _ hm
  obtain ⟨vv2, rfl, _⟩ := okWide_struct Tryd.underlying24 (hval 2 24 v2 rfl rfl)
  obtain ⟨as2, k2, s2⟩ := open_agg (n := 12) (ds := [.int .u8, .int .i64, .int .i64, .int .i64, .int .i64]) (by kernel_rfl) h2
  have ow2 := agg_owns (vs := vv2) s2
  simp only [LD.sats] at s2
  obtain ⟨_, _, rfl, t2_0, ⟨_, _, rfl, t2_1, ⟨_, _, rfl, t2_2, ⟨_, _, rfl, t2_3, ⟨_, _, rfl, t2_4, rfl⟩⟩⟩⟩⟩ := s2
  simp only [LD.sat] at t2_0
  obtain ⟨x2_0, rfl, wx2_0⟩ := t2_0
  simp only [LD.sat] at t2_1
  obtain ⟨x2_1, rfl, wx2_1⟩ := t2_1
  simp only [LD.sat] at t2_2
  obtain ⟨x2_2, rfl, wx2_2⟩ := t2_2
  simp only [LD.sat] at t2_3
  obtain ⟨x2_3, rfl, wx2_3⟩ := t2_3
  simp only [LD.sat] at t2_4
  obtain ⟨x2_4, rfl, wx2_4⟩ := t2_4
  have lt3 : ∀ x ∈ p3, x.block < W.heap.size := by obtain ⟨m, hm⟩ := h3; exact DataW.trod_lt m _ _ _ hm
  have c3 : v3.cells = #[v3] := by obtain ⟨_, rfl⟩ := okWide_int Tryd.underlying3 (hval 3 3 v3 rfl rfl); rfl
  obtain ⟨a3, k3, s3⟩ := open_one (n := 12) (d := .int .i64) (by kernel_rfl) c3 h3
  have ow3 := sat_owns (v := v3) s3
  simp only [LD.sat] at s3
  obtain ⟨x3, rfl, wx3⟩ := s3
  obtain ⟨n, hn⟩ : ∃ n, clepsydralaw07_FooterAt_f n x0_0 x0_1 x0_2 x0_3 x0_4 x0_5 x0_6 x0_7 x0_8 x0_9 x0_10 x0_11 x0_12 x0_13 x1 x2_0 x2_1 x2_2 x2_3 x2_4 x3 = some true := ⟨20001 + x0_0.length + x0_1.length, footerAt_law _ ⟨x0_0, x0_1, x0_2, x0_3, ⟨x0_4, x0_5, x0_6, x0_7, x0_8⟩, ⟨x0_9, x0_10, x0_11, x0_12, x0_13⟩⟩ x1 ⟨x2_0, x2_1, x2_2, x2_3, x2_4⟩ x3 (by omega) (by dsimp only; omega) (by dsimp only; omega) (by dsimp only; omega) (by dsimp only; omega)⟩
  have hc : Calls Tryd.prog 7 #[(.agg vv0), v1, (.agg vv2), v3] W fun e W' => e = .returned (.bool true) ∧ Below W.heap.size W W' :=
    law_true (args := [.agg [.str x0_0, .str x0_1, .int .i64 x0_2, .int .i64 x0_3, .int .u8 x0_4, .int .i64 x0_5, .int .i64 x0_6, .int .i64 x0_7, .int .i64 x0_8, .int .u8 x0_9, .int .i64 x0_10, .int .i64 x0_11, .int .i64 x0_12, .int .i64 x0_13], .int .i64 x1, .agg [.int .u8 x2_0, .int .i64 x2_1, .int .i64 x2_2, .int .i64 x2_3, .int .i64 x2_4], .int .i64 x3]) (H0 := []) (clepsydralaw07_FooterAt_sound n) [(.agg vv0), v1, (.agg vv2), v3] (by simp only [VRs]; exact ⟨_, _, rfl, k0, ⟨_, _, rfl, k1, ⟨_, _, rfl, k2, ⟨_, _, rfl, k3, rfl⟩⟩⟩⟩) (by simp only [ownsL, ow0, ow1, ow2, ow3, List.append_nil]) (laid_good hL) (by simp only [clepsydralaw07_FooterAt_sp, spOf, clepsydralaw07_FooterAt_p, hn, Option.bind_some])
  refine hc.mono fun e W' ⟨he, bel⟩ => ?_
  subst he
  exact ⟨_, rfl, _, _, _, [], _, [], hW', trodAll_mk1 (shut_bool Tryd.underlying4 _), (trodAll_cons_mk (Below.trod laidOut (by kernel_rfl) (of_decide_eq_true (by kernel_rfl)) h0 bel lt0) (trodAll_cons_mk (Below.trod laidOut (by kernel_rfl) (of_decide_eq_true (by kernel_rfl)) h1 bel lt1) (trodAll_cons_mk (Below.trod laidOut (by kernel_rfl) (of_decide_eq_true (by kernel_rfl)) h2 bel lt2) (trodAll_cons_mk (Below.trod laidOut (by kernel_rfl) (of_decide_eq_true (by kernel_rfl)) h3 bel lt3) trodAll_mk0)))), rfl, bel.frame _, fun h => by cases h⟩
theorem over : Rows.footerAtRow.holds Tryd.pinned (OpenSpec.ofChange Rows.footerAtSpec) :=
  OpenClaim.holds_of_wide 7 Tryd.f7 rfl rfl rfl rfl rfl rfl rfl ⟨rfl, rfl, rfl, rfl, rfl⟩ rfl rfl rfl rfl rfl (by kernel_rfl) Tryd.func7 (by kernel_rfl)
    (of_decide_eq_true (by kernel_rfl)) (by unfold Func.isWrapper; first | (rw [if_pos (by decide +kernel)]; kernel_rfl) | (rw [if_neg (by decide +kernel)]; exact ⟨rfl, rfl⟩))
    (fun os started H enc _ => lifted os started H enc)
theorem proved : Rows.FooterAtSaid := over
theorem card : Rows.FooterAtCardSaid :=
  Claim7.holds_tied_plain_at .later [] [.data, .data, .data, .sentinel, .sentinel] true (true, "25c5c0fc3924d7f97a99ec0f09f51faeaab6cfa883b4f7ee9ace31fea44ed89b") true proved (fun _ h => by cases h) (by kernel_rfl) (fun _ h => by cases h) footerAt_row_tie rfl ⟨rfl, rfl⟩ (by kernel_rfl) rfl
    (fun f fn hf hfn => by
      obtain rfl : f = 7 := Option.some.inj ((show Tryd.prog.funcNamed "clepsydra/clepsydralaw07.FooterAt" = some 7 by kernel_rfl).symm.trans hf) |>.symm
      obtain rfl : fn = Tryd.f7 := (Option.some.inj (Tryd.func7.symm.trans hfn)).symm
      exact ⟨by kernel_rfl, fun j t ht => by
        rw [Tryd.params7] at ht
        have hm : t ∈ [26, 2, 24, 3] := by simpa using Array.mem_of_getElem? ht
        have hall : ([26, 2, 24, 3].all fun u => !Tryd.prog.wantsStandIn u) = true := by kernel_rfl
        exact (show Tryd.prog.wantsStandIn t = false by simpa using List.all_eq_true.1 hall t hm)⟩)
    (by kernel_rfl)
#print axioms card
end Go.Proofs.YtpooncihlnllnaaDoor.footerAt
namespace Go.Proofs.YtpooncihlnllnaaDoor
/-- The law's card, under a short name, for the claim. -/
theorem footerAt_holds : Rows.FooterAtCardSaid := footerAt.card
end Go.Proofs.YtpooncihlnllnaaDoor

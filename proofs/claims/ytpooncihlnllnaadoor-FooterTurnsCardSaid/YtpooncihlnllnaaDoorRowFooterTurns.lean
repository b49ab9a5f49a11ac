/- The law FooterTurns holds of every input that its statement speaks of: it tells true, and leaves its arguments as they were. -/
import Derived.Test.YtpooncihlnllnaaDoorRows
import Derived.Test.YtpooncihlnllnaaDoorCards
import Derived.Test.YtpooncihlnllnaaDoorTie
import Derived.Test.YtpooncihlnllnaaDoorUI
import Derived.Test.YtpooncihlnllnaaDoorG1
import Derived.Test.YtpooncihlnllnaaDoorSY
import Derived.WalkKit
import Derived.ProofKit
import Derived.OpenShut
import Derived.ShutString
import Derived.ChangeOld
import Derived.Below
import Derived.Carry
import Derived.LaidMore
import Derived.LaidLaws
import Derived.Lay
import Derived.SevenTiedAt
import Derived.Stop.Joined
namespace Go.Proofs.YtpooncihlnllnaaDoor.footerTurns
open Go.ChangeShapes Go.WideShapes Go.ChangeAt Go.RowKit Go.Sh Go.Proofs.YtpooncihlnllnaaDoor.H
set_option linter.unusedVariables false
theorem own : ownKnob Tryd.prog.godebug = none := by kernel_rfl
theorem laidOut : laidOutB Tryd.prog = true := by kernel_rfl
set_option maxRecDepth 100000 in
theorem lifted (os : Os) (started : os.Started) (H : Type) (enc : TypeId × Value → H) :
    ReturnsInHanded {} Tryd.checked os 8 .any (fun w args => (Rows.footerTurnsSpec.pre enc Tryd.prog Tryd.f8 Rows.footerTurnsRow.domain false w args ∧ laidMetH Tryd.prog [("math/bits.deBruijn32tab", Rows.laid_math_bits_deBruijn32tab), ("math/bits.deBruijn64tab", Rows.laid_math_bits_deBruijn64tab), ("internal/strconv.uint64pow10", Rows.laid_internal_strconv_uint64pow10), ("strconv.ErrRange", Rows.laid_strconv_ErrRange), ("strconv.ErrSyntax", Rows.laid_strconv_ErrSyntax)] w) ∧ sizedMet enc Tryd.prog Tryd.f8 (OpenSpec.ofChange Rows.footerTurnsSpec) false w args) (Rows.footerTurnsSpec.post enc Tryd.prog Tryd.f8 false true false false) := by
  refine returnsInHanded_of_change_and (C := Tryd.checked) (X := (fun w _ => laidMetH Tryd.prog [("math/bits.deBruijn32tab", Rows.laid_math_bits_deBruijn32tab), ("math/bits.deBruijn64tab", Rows.laid_math_bits_deBruijn64tab), ("internal/strconv.uint64pow10", Rows.laid_internal_strconv_uint64pow10), ("strconv.ErrRange", Rows.laid_strconv_ErrRange), ("strconv.ErrSyntax", Rows.laid_strconv_ErrSyntax)] w)) (fun _ _ _ hh h => h.of_heap hh) own started (by kernel_rfl) Tryd.func8
    (ChangeSpec.witness_shaped (enc := enc) (C := Tryd.checked) (os := os) (X := (fun w _ => laidMetH Tryd.prog [("math/bits.deBruijn32tab", Rows.laid_math_bits_deBruijn32tab), ("math/bits.deBruijn64tab", Rows.laid_math_bits_deBruijn64tab), ("internal/strconv.uint64pow10", Rows.laid_internal_strconv_uint64pow10), ("strconv.ErrRange", Rows.laid_strconv_ErrRange), ("strconv.ErrSyntax", Rows.laid_strconv_ErrSyntax)] w)) false (World.laidAll Tryd.prog os [("math/bits.deBruijn32tab", Rows.laid_math_bits_deBruijn32tab), ("math/bits.deBruijn64tab", Rows.laid_math_bits_deBruijn64tab), ("internal/strconv.uint64pow10", Rows.laid_internal_strconv_uint64pow10), ("strconv.ErrRange", Rows.laid_strconv_ErrRange), ("strconv.ErrSyntax", Rows.laid_strconv_ErrSyntax)]) #[.agg #[.string ByteArray.empty, .string ByteArray.empty, .int .i64 0, .int .i64 0, .int .u8 0, .int .i64 0, .int .i64 0, .int .i64 0, .int .i64 0, .int .u8 0, .int .i64 0, .int .i64 0, .int .i64 0, .int .i64 0], .int .u16 0, .int .u32 0] 8 (World.laidAll_os _ _ _)
      (World.shaped_of_ZipB (by kernel_rfl) (by kernel_rfl)) (by kernel_rfl) (by kernel_rfl) (by kernel_rfl)
      (by rw [MakeChecks.laidMetH_plain _ _ _ (by kernel_rfl)]; exact laidMet_laidAll _ (by kernel_rfl) (by kernel_rfl))) ?_
  intro W base args ds gs before hval0 hW hcnd hsz hL _
  have hval : ∀ (j : Nat) t v, Tryd.f8.params[j]? = some t → args[j]? = some v → Value.okWide Tryd.prog W .any base t v := hval0
  have hW' := hW
  obtain ⟨p, q, hA0, hV, rfl, hfz, hnd⟩ := hW
  have hA : DataW.TrodAll enc Tryd.prog W 0 (fun _ => true) true Tryd.f8.params.toList args.toList ds p := hA0
  rw [Tryd.params8] at hA hval
  obtain ⟨v0, vs0, d0, ds0, p0, q0, hargs, rfl, rfl, h0, r0⟩ := trodAll_cons hA
  obtain ⟨v1, vs1, d1, ds1, p1, q1, rfl, rfl, rfl, h1, r1⟩ := trodAll_cons r0
  obtain ⟨v2, vs2, d2, ds2, p2, q2, rfl, rfl, rfl, h2, r2⟩ := trodAll_cons r1
  obtain ⟨rfl, rfl, rfl⟩ := trodAll_nil r2
  obtain rfl : args = #[v0, v1, v2] := by cases args; simp_all
  obtain ⟨rfl, rfl⟩ := trodVars_none hV
  have lt0 : ∀ x ∈ p0, x.block < W.heap.size := by obtain ⟨m, hm⟩ := h0; exact DataW.trod_lt m _ _ _ hm
  obtain ⟨vv0, rfl, _⟩ := okWide_struct Tryd.underlying26 (hval 0 26 v0 rfl rfl)
  obtain ⟨as0, k0, s0⟩ := open_agg (n := 12) (ds := [.str, .str, .int .i64, .int .i64, .int .u8, .int .i64, .int .i64, .int .i64, .int .i64, .int .u8, .int .i64, .int .i64, .int .i64, .int .i64]) (by kernel_rfl) h0
  have ow0 := agg_owns (vs := vv0) s0
  simp only [LD.sats] at s0
  obtain ⟨_, _, rfl, t0_0, ⟨_, _, rfl, t0_1, ⟨_, _, rfl, t0_2, ⟨_, _, rfl, t0_3, ⟨_, _, rfl, t0_4, ⟨_, _, rfl, t0_5, ⟨_, _, rfl, t0_6, ⟨_, _, rfl, t0_7, ⟨_, _, rfl, t0_8, ⟨_, _, rfl, t0_9, ⟨_, _, rfl, t0_10, ⟨_, _, rfl, t0_11, ⟨_, _, rfl, t0_12, ⟨_, _, rfl, t0_13, rfl⟩⟩⟩⟩⟩⟩⟩⟩⟩⟩⟩⟩⟩⟩ := s0
  simp only [LD.sat] at t0_0
  obtain ⟨x0_0, rfl, wx0_0⟩ := t0_0
  simp only [LD.sat] at t0_1
  obtain ⟨x0_1, rfl, wx0_1⟩ := t0_1
  simp only [LD.sat] at t0_2
  obtain ⟨x0_2, rfl, wx0_2⟩ := t0_2
  simp only [LD.sat] at t0_3
  obtain ⟨x0_3, rfl, wx0_3⟩ := t0_3
  simp only [LD.sat] at t0_4
  obtain ⟨x0_4, rfl, wx0_4⟩ := t0_4
  simp only [LD.sat] at t0_5
  obtain ⟨x0_5, rfl, wx0_5⟩ := t0_5
  simp only [LD.sat] at t0_6
  obtain ⟨x0_6, rfl, wx0_6⟩ := t0_6
  simp only [LD.sat] at t0_7
  obtain ⟨x0_7, rfl, wx0_7⟩ := t0_7
  simp only [LD.sat] at t0_8
  obtain ⟨x0_8, rfl, wx0_8⟩ := t0_8
  simp only [LD.sat] at t0_9
  obtain ⟨x0_9, rfl, wx0_9⟩ := t0_9
  simp only [LD.sat] at t0_10
  obtain ⟨x0_10, rfl, wx0_10⟩ := t0_10
  simp only [LD.sat] at t0_11
  obtain ⟨x0_11, rfl, wx0_11⟩ := t0_11
  simp only [LD.sat] at t0_12
  obtain ⟨x0_12, rfl, wx0_12⟩ := t0_12
  simp only [LD.sat] at t0_13
  obtain ⟨x0_13, rfl, wx0_13⟩ := t0_13
  have lt1 : ∀ x ∈ p1, x.block < W.heap.size := by obtain ⟨m, hm⟩ := h1; exact DataW.trod_lt m _ _ _ hm
  have c1 : v1.cells = #[v1] := by obtain ⟨_, rfl⟩ := okWide_int Tryd.underlying37 (hval 1 37 v1 rfl rfl); rfl
  obtain ⟨a1, k1, s1⟩ := open_one (n := 12) (d := .int .u16) (by kernel_rfl) c1 h1
  have ow1 := sat_owns (v := v1) s1
  simp only [LD.sat] at s1
  obtain ⟨x1, rfl, wx1⟩ := s1
  have lt2 : ∀ x ∈ p2, x.block < W.heap.size := by obtain ⟨m, hm⟩ := h2; exact DataW.trod_lt m _ _ _ hm
  have c2 : v2.cells = #[v2] := by obtain ⟨_, rfl⟩ := okWide_int Tryd.underlying52 (hval 2 52 v2 rfl rfl); rfl
  obtain ⟨a2, k2, s2⟩ := open_one (n := 12) (d := .int .u32) (by kernel_rfl) c2 h2
  have ow2 := sat_owns (v := v2) s2
  simp only [LD.sat] at s2
  obtain ⟨x2, rfl, wx2⟩ := s2
  obtain ⟨n, hn⟩ : ∃ n, clepsydralaw07_FooterTurns_f n x0_0 x0_1 x0_2 x0_3 x0_4 x0_5 x0_6 x0_7 x0_8 x0_9 x0_10 x0_11 x0_12 x0_13 x1 x2 = some true := ⟨20001 + x0_0.length + x0_1.length, footerTurns_law _ ⟨x0_0, x0_1, x0_2, x0_3, ⟨x0_4, x0_5, x0_6, x0_7, x0_8⟩, ⟨x0_9, x0_10, x0_11, x0_12, x0_13⟩⟩ x1 x2 (by omega) (by dsimp only; omega) (by dsimp only; omega) (by dsimp only; omega) (by dsimp only; omega) (wfu16 wx1) (wfu32 wx2)⟩
  have hc : Calls Tryd.prog 8 #[(.agg vv0), v1, v2] W fun e W' => e = .returned (.bool true) ∧ Below W.heap.size W W' :=
    law_true (args := [.agg [.str x0_0, .str x0_1, .int .i64 x0_2, .int .i64 x0_3, .int .u8 x0_4, .int .i64 x0_5, .int .i64 x0_6, .int .i64 x0_7, .int .i64 x0_8, .int .u8 x0_9, .int .i64 x0_10, .int .i64 x0_11, .int .i64 x0_12, .int .i64 x0_13], .int .u16 x1, .int .u32 x2]) (H0 := []) (clepsydralaw07_FooterTurns_sound n) [(.agg vv0), v1, v2] (by simp only [VRs]; exact ⟨_, _, rfl, k0, ⟨_, _, rfl, k1, ⟨_, _, rfl, k2, rfl⟩⟩⟩) (by simp only [ownsL, ow0, ow1, ow2, List.append_nil]) (laid_good hL) (by simp only [clepsydralaw07_FooterTurns_sp, spOf, clepsydralaw07_FooterTurns_p, hn, Option.bind_some])
  refine hc.mono fun e W' ⟨he, bel⟩ => ?_
  subst he
  exact ⟨_, rfl, _, _, _, [], _, [], hW', trodAll_mk1 (shut_bool Tryd.underlying4 _), (trodAll_cons_mk (Below.trod laidOut (by kernel_rfl) (of_decide_eq_true (by kernel_rfl)) h0 bel lt0) (trodAll_cons_mk (Below.trod laidOut (by kernel_rfl) (of_decide_eq_true (by kernel_rfl)) h1 bel lt1) (trodAll_cons_mk (Below.trod laidOut (by kernel_rfl) (of_decide_eq_true (by kernel_rfl)) h2 bel lt2) trodAll_mk0))), rfl, bel.frame _, fun h => by cases h⟩
theorem over : Rows.footerTurnsRow.holds Tryd.pinned (OpenSpec.ofChange Rows.footerTurnsSpec) :=
  OpenClaim.holds_of_wide 8 Tryd.f8 rfl rfl rfl rfl rfl rfl rfl ⟨rfl, rfl, rfl, rfl, rfl⟩ rfl rfl rfl rfl rfl (by kernel_rfl) Tryd.func8 (by kernel_rfl)
    (of_decide_eq_true (by kernel_rfl)) (by unfold Func.isWrapper; first | (rw [if_pos (by decide +kernel)]; kernel_rfl) | (rw [if_neg (by decide +kernel)]; exact ⟨rfl, rfl⟩))
    (fun os started H enc _ => lifted os started H enc)
theorem proved : Rows.FooterTurnsSaid := over
theorem card : Rows.FooterTurnsCardSaid :=
  Claim7.holds_tied_plain_at .later [] [.data, .data, .data, .sentinel, .sentinel] true (true, "25c5c0fc3924d7f97a99ec0f09f51faeaab6cfa883b4f7ee9ace31fea44ed89b") true proved (fun _ h => by cases h) (by kernel_rfl) (fun _ h => by cases h) footerTurns_row_tie rfl ⟨rfl, rfl⟩ (by kernel_rfl) rfl
    (fun f fn hf hfn => by
      obtain rfl : f = 8 := Option.some.inj ((show Tryd.prog.funcNamed "clepsydra/clepsydralaw07.FooterTurns" = some 8 by kernel_rfl).symm.trans hf) |>.symm
      obtain rfl : fn = Tryd.f8 := (Option.some.inj (Tryd.func8.symm.trans hfn)).symm
      exact ⟨by kernel_rfl, fun j t ht => by
        rw [Tryd.params8] at ht
        have hm : t ∈ [26, 37, 52] := by simpa using Array.mem_of_getElem? ht
        have hall : ([26, 37, 52].all fun u => !Tryd.prog.wantsStandIn u) = true := by kernel_rfl
        exact (show Tryd.prog.wantsStandIn t = false by simpa using List.all_eq_true.1 hall t hm)⟩)
    (by kernel_rfl)
#print axioms card
end Go.Proofs.YtpooncihlnllnaaDoor.footerTurns
namespace Go.Proofs.YtpooncihlnllnaaDoor
/-- The law's card, under a short name, for the claim. -/
theorem footerTurns_holds : Rows.FooterTurnsCardSaid := footerTurns.card
end Go.Proofs.YtpooncihlnllnaaDoor

/- The law TzifOld holds of every input that its statement speaks of: it tells true, and leaves its arguments as they were. -/
import Derived.Test.YtcbgfjghebopoaaDoorRows
import Derived.Test.YtcbgfjghebopoaaDoorCards
import Derived.Test.YtcbgfjghebopoaaDoorTie
import Derived.Test.YtcbgfjghebopoaaDoorMD
import Derived.Test.YtcbgfjghebopoaaDoorG1
import Derived.Test.YtcbgfjghebopoaaDoorPH
import Derived.Test.YtcbgfjghebopoaaDoorSY
import Derived.WalkKit
import Derived.ProofKit
import Derived.OpenShut
import Derived.ShutString
import Derived.ChangeOld
import Derived.Below
import Derived.Carry
import Derived.LaidMore
import Derived.LaidLaws
import Derived.Lay
import Derived.SevenTiedAt
import Derived.Stop.Joined
namespace Go.Proofs.YtcbgfjghebopoaaDoor.tzifOld
open Go.ChangeShapes Go.WideShapes Go.ChangeAt Go.RowKit Go.Sh Go.Proofs.YtcbgfjghebopoaaDoor.H
set_option linter.unusedVariables false
theorem own : ownKnob Tryd.prog.godebug = none := by kernel_rfl
theorem laidOut : laidOutB Tryd.prog = true := by kernel_rfl
set_option maxRecDepth 100000 in
theorem lifted (os : Os) (started : os.Started) (H : Type) (enc : TypeId × Value → H) :
    ReturnsInHanded {} Tryd.checked os 6 .any (fun w args => (Rows.tzifOldSpec.pre enc Tryd.prog Tryd.f6 Rows.tzifOldRow.domain false w args ∧ laidMetH Tryd.prog [("bytes.ErrTooLarge", Rows.laid_bytes_ErrTooLarge)] w) ∧ sizedMet enc Tryd.prog Tryd.f6 (OpenSpec.ofChange Rows.tzifOldSpec) false w args) (Rows.tzifOldSpec.post enc Tryd.prog Tryd.f6 false true false false) := by
  refine handed_shaped (C := Tryd.checked) (X := (fun w _ => laidMetH Tryd.prog [("bytes.ErrTooLarge", Rows.laid_bytes_ErrTooLarge)] w)) (fun _ _ _ hh h => h.of_heap hh) own started (by kernel_rfl) Tryd.func6
    (ChangeSpec.witness_shaped (enc := enc) (C := Tryd.checked) (os := os) (X := (fun w _ => laidMetH Tryd.prog [("bytes.ErrTooLarge", Rows.laid_bytes_ErrTooLarge)] w)) false (World.laidAll Tryd.prog os [("bytes.ErrTooLarge", Rows.laid_bytes_ErrTooLarge)]) #[.agg #[.slice none 0 0, .slice none 0 0, .slice none 0 0, .string ByteArray.empty], .int .u16 0, .int .u8 0] 8 (World.laidAll_os _ _ _)
      (World.shaped_of_ZipB (by kernel_rfl) (by kernel_rfl)) (by kernel_rfl) (by kernel_rfl) (by kernel_rfl)
      (by rw [MakeChecks.laidMetH_plain _ _ _ (by kernel_rfl)]; exact laidMet_laidAll _ (by kernel_rfl) (by kernel_rfl))) ?_
  intro W base args ds gs before hval0 hW hcnd hsz hL hsh _
  have hval : ∀ (j : Nat) t v, Tryd.f6.params[j]? = some t → args[j]? = some v → Value.okWide Tryd.prog W .any base t v := hval0
  have hW' := hW
  obtain ⟨p, q, hA0, hV, rfl, hfz, hnd⟩ := hW
  have hA : DataW.TrodAll enc Tryd.prog W 0 (fun _ => true) true Tryd.f6.params.toList args.toList ds p := hA0
  rw [Tryd.params6] at hA hval
  obtain ⟨v0, vs0, d0, ds0, p0, q0, hargs, rfl, rfl, h0, r0⟩ := trodAll_cons hA
  obtain ⟨v1, vs1, d1, ds1, p1, q1, rfl, rfl, rfl, h1, r1⟩ := trodAll_cons r0
  obtain ⟨v2, vs2, d2, ds2, p2, q2, rfl, rfl, rfl, h2, r2⟩ := trodAll_cons r1
  obtain ⟨rfl, rfl, rfl⟩ := trodAll_nil r2
  obtain rfl : args = #[v0, v1, v2] := by cases args; simp_all
  obtain ⟨rfl, rfl⟩ := trodVars_none hV
  have lt0 : ∀ x ∈ p0, x.block < W.heap.size := by obtain ⟨m, hm⟩ := h0; exact DataW.trod_lt m _ _ _ hm
  obtain ⟨vv0, rfl, _⟩ := okWide_struct Tryd.underlying26 (hval 0 26 v0 rfl rfl)
  obtain ⟨as0, k0, s0⟩ := open_agg (n := 12) (ds := [.sl [.int .i64, .bool, .str], .ints .i64, .ints .i64, .str]) (by kernel_rfl) h0
  have ow0 := agg_owns (vs := vv0) s0
  simp only [LD.sats] at s0
  obtain ⟨_, _, rfl, t0_0, ⟨_, _, rfl, t0_1, ⟨_, _, rfl, t0_2, ⟨_, _, rfl, t0_3, rfl⟩⟩⟩⟩ := s0
  simp only [LD.sat] at t0_0
  obtain ⟨x0_0, rfl, wx0_0⟩ := t0_0
  simp only [LD.sat] at t0_1
  obtain ⟨x0_1, rfl, wx0_1⟩ := t0_1
  simp only [LD.sat] at t0_2
  obtain ⟨x0_2, rfl, wx0_2⟩ := t0_2
  simp only [LD.sat] at t0_3
  obtain ⟨x0_3, rfl, wx0_3⟩ := t0_3
  have lt1 : ∀ x ∈ p1, x.block < W.heap.size := by obtain ⟨m, hm⟩ := h1; exact DataW.trod_lt m _ _ _ hm
  have c1 : v1.cells = #[v1] := by obtain ⟨_, rfl⟩ := okWide_int Tryd.underlying47 (hval 1 47 v1 rfl rfl); rfl
  obtain ⟨a1, k1, s1⟩ := open_one (n := 12) (d := .int .u16) (by kernel_rfl) c1 h1
  have ow1 := sat_owns (v := v1) s1
  simp only [LD.sat] at s1
  obtain ⟨x1, rfl, wx1⟩ := s1
  have lt2 : ∀ x ∈ p2, x.block < W.heap.size := by obtain ⟨m, hm⟩ := h2; exact DataW.trod_lt m _ _ _ hm
  have c2 : v2.cells = #[v2] := by obtain ⟨_, rfl⟩ := okWide_int Tryd.underlying5 (hval 2 5 v2 rfl rfl); rfl
  obtain ⟨a2, k2, s2⟩ := open_one (n := 12) (d := .int .u8) (by kernel_rfl) c2 h2
  have ow2 := sat_owns (v := v2) s2
  simp only [LD.sat] at s2
  obtain ⟨x2, rfl, wx2⟩ := s2
  obtain ⟨n, hn⟩ : ∃ n, clepsydralaw06_TzifOld_f n x0_0 x0_1 x0_2 x0_3 x1 x2 = some true := TzifOld_row wx0_0 wx0_1 wx1
  have ow0 : owns (.agg [.sl false 3 x0_0, .ints false .i64 x0_1, .ints false .i64 x0_2, .str x0_3]) (.agg vv0) = [] := ow0
  have hc : Calls Tryd.prog 6 #[(.agg vv0), v1, v2] W fun e W' => e = .returned (.bool true) ∧ Below W.heap.size W W' :=
    law_true (args := [.agg [.sl false 3 x0_0, .ints false .i64 x0_1, .ints false .i64 x0_2, .str x0_3], .int .u16 x1, .int .u8 x2]) (H0 := []) (clepsydralaw06_TzifOld_sound n) [(.agg vv0), v1, v2] (by simp only [VRs]; exact ⟨_, _, rfl, k0, ⟨_, _, rfl, k1, ⟨_, _, rfl, k2, rfl⟩⟩⟩) (by simp only [ownsL, ow0, ow1, ow2, List.append_nil]) (shape_good hsh) (by simp only [clepsydralaw06_TzifOld_sp, spOf, clepsydralaw06_TzifOld_p, hn, Option.bind_some])
  refine hc.mono fun e W' ⟨he, bel⟩ => ?_
  subst he
  exact ⟨_, rfl, _, _, _, [], _, [], hW', trodAll_mk1 (shut_bool Tryd.underlying4 _), (trodAll_cons_mk (Below.trod laidOut (by kernel_rfl) (of_decide_eq_true (by kernel_rfl)) h0 bel lt0) (trodAll_cons_mk (Below.trod laidOut (by kernel_rfl) (of_decide_eq_true (by kernel_rfl)) h1 bel lt1) (trodAll_cons_mk (Below.trod laidOut (by kernel_rfl) (of_decide_eq_true (by kernel_rfl)) h2 bel lt2) trodAll_mk0))), rfl, bel.frame _, fun h => by cases h⟩
theorem over : Rows.tzifOldRow.holds Tryd.pinned (OpenSpec.ofChange Rows.tzifOldSpec) :=
  OpenClaim.holds_of_wide 6 Tryd.f6 rfl rfl rfl rfl rfl rfl rfl ⟨rfl, rfl, rfl, rfl, rfl⟩ rfl rfl rfl rfl rfl (by kernel_rfl) Tryd.func6 (by kernel_rfl)
    (of_decide_eq_true (by kernel_rfl)) (by unfold Func.isWrapper; first | (rw [if_pos (by decide +kernel)]; kernel_rfl) | (rw [if_neg (by decide +kernel)]; exact ⟨rfl, rfl⟩))
    (fun os started H enc _ => lifted os started H enc)
theorem proved : Rows.TzifOldSaid := over
theorem card : Rows.TzifOldCardSaid :=
  Claim7.holds_tied_plain_at .later [] [.sentinel] true (true, "b3e90dac38678314f1a833b6699d59e507d40143017c13edda2e5f4355dc4dac") false proved (fun _ h => by cases h) (by kernel_rfl) (fun _ h => by cases h) tzifOld_row_tie rfl ⟨rfl, rfl⟩ (by kernel_rfl) rfl
    (fun f fn hf hfn => by
      obtain rfl : f = 6 := Option.some.inj ((show Tryd.prog.funcNamed "clepsydra/clepsydralaw06.TzifOld" = some 6 by kernel_rfl).symm.trans hf) |>.symm
      obtain rfl : fn = Tryd.f6 := (Option.some.inj (Tryd.func6.symm.trans hfn)).symm
      exact ⟨by kernel_rfl, fun j t ht => by
        rw [Tryd.params6] at ht
        have hm : t ∈ [26, 47, 5] := by simpa using Array.mem_of_getElem? ht
        have hall : ([26, 47, 5].all fun u => !Tryd.prog.wantsStandIn u) = true := by kernel_rfl
        exact (show Tryd.prog.wantsStandIn t = false by simpa using List.all_eq_true.1 hall t hm)⟩)
    (by kernel_rfl)
#print axioms card
end Go.Proofs.YtcbgfjghebopoaaDoor.tzifOld
namespace Go.Proofs.YtcbgfjghebopoaaDoor
/-- The law's card, under a short name, for the claim. -/
theorem tzifOld_holds : Rows.TzifOldCardSaid := tzifOld.card
end Go.Proofs.YtcbgfjghebopoaaDoor

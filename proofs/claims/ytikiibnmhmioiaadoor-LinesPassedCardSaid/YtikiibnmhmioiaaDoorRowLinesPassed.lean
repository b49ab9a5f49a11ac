/- The law LinesPassed holds of every input that its statement speaks of: it tells true, and leaves its arguments as they were. -/
import Derived.Test.YtikiibnmhmioiaaDoorRows
import Derived.Test.YtikiibnmhmioiaaDoorCards
import Derived.Test.YtikiibnmhmioiaaDoorTie
import Derived.Test.YtikiibnmhmioiaaDoorU7
import Derived.Test.YtikiibnmhmioiaaDoorG1
import Derived.Test.YtikiibnmhmioiaaDoorPH
import Derived.Test.YtikiibnmhmioiaaDoorSY
import Derived.WalkKit
import Derived.ProofKit
import Derived.OpenShut
import Derived.ShutString
import Derived.ChangeOld
import Derived.Below
import Derived.Carry
import Derived.LaidMore
import Derived.LaidLaws
import Derived.Lay
import Derived.SevenTiedAt
import Derived.Stop.Joined
namespace Go.Proofs.YtikiibnmhmioiaaDoor.linesPassed
open Go.ChangeShapes Go.WideShapes Go.ChangeAt Go.RowKit Go.Sh Go.Proofs.YtikiibnmhmioiaaDoor.H
set_option linter.unusedVariables false
theorem own : ownKnob Tryd.prog.godebug = none := by kernel_rfl
theorem laidOut : laidOutB Tryd.prog = true := by kernel_rfl
set_option maxRecDepth 100000 in
theorem lifted (os : Os) (started : os.Started) (H : Type) (enc : TypeId × Value → H) :
    ReturnsInHanded {} Tryd.checked os 5 .any (fun w args => (Rows.linesPassedSpec.pre enc Tryd.prog Tryd.f5 Rows.linesPassedRow.domain false w args ∧ laidMetH Tryd.prog [("unicode/utf8.acceptRanges", Rows.laid_unicode_utf8_acceptRanges), ("unicode/utf8.first", Rows.laid_unicode_utf8_first)] w) ∧ sizedMet enc Tryd.prog Tryd.f5 (OpenSpec.ofChange Rows.linesPassedSpec) false w args) (Rows.linesPassedSpec.post enc Tryd.prog Tryd.f5 false true false false) := by
  refine handed_shaped (C := Tryd.checked) (X := (fun w _ => laidMetH Tryd.prog [("unicode/utf8.acceptRanges", Rows.laid_unicode_utf8_acceptRanges), ("unicode/utf8.first", Rows.laid_unicode_utf8_first)] w)) (fun _ _ _ hh h => h.of_heap hh) own started (by kernel_rfl) Tryd.func5
    (ChangeSpec.witness_shaped (enc := enc) (C := Tryd.checked) (os := os) (X := (fun w _ => laidMetH Tryd.prog [("unicode/utf8.acceptRanges", Rows.laid_unicode_utf8_acceptRanges), ("unicode/utf8.first", Rows.laid_unicode_utf8_first)] w)) false (World.laidAll Tryd.prog os [("unicode/utf8.acceptRanges", Rows.laid_unicode_utf8_acceptRanges), ("unicode/utf8.first", Rows.laid_unicode_utf8_first)]) #[.slice none 0 0, .slice none 0 0] 8 (World.laidAll_os _ _ _)
      (World.shaped_of_ZipB (by kernel_rfl) (by kernel_rfl)) (by kernel_rfl) (by kernel_rfl) (by kernel_rfl)
      (by rw [MakeChecks.laidMetH_plain _ _ _ (by kernel_rfl)]; exact laidMet_laidAll _ (by kernel_rfl) (by kernel_rfl))) ?_
  intro W base args ds gs before hval0 hW hcnd hsz hL hsh _
  have hval : ∀ (j : Nat) t v, Tryd.f5.params[j]? = some t → args[j]? = some v → Value.okWide Tryd.prog W .any base t v := hval0
  have hW' := hW
  obtain ⟨p, q, hA0, hV, rfl, hfz, hnd⟩ := hW
  have hA : DataW.TrodAll enc Tryd.prog W 0 (fun _ => true) true Tryd.f5.params.toList args.toList ds p := hA0
  rw [Tryd.params5] at hA hval
  obtain ⟨v0, vs0, d0, ds0, p0, q0, hargs, rfl, rfl, h0, r0⟩ := trodAll_cons hA
  obtain ⟨v1, vs1, d1, ds1, p1, q1, rfl, rfl, rfl, h1, r1⟩ := trodAll_cons r0
  obtain ⟨rfl, rfl, rfl⟩ := trodAll_nil r1
  obtain rfl : args = #[v0, v1] := by cases args; simp_all
  obtain ⟨rfl, rfl⟩ := trodVars_none hV
  have lt0 : ∀ x ∈ p0, x.block < W.heap.size := by obtain ⟨m, hm⟩ := h0; exact DataW.trod_lt m _ _ _ hm
  have c0 : v0.cells = #[v0] := by obtain ⟨_, _, _, rfl⟩ := okWide_slice Tryd.underlying22 (hval 0 22 v0 rfl rfl); rfl
  obtain ⟨a0, k0, s0⟩ := open_one (n := 12) (d := .ints .u8) (by kernel_rfl) c0 h0
  have ow0 := sat_owns (v := v0) s0
  simp only [LD.sat] at s0
  obtain ⟨x0, rfl, wx0⟩ := s0
  have lt1 : ∀ x ∈ p1, x.block < W.heap.size := by obtain ⟨m, hm⟩ := h1; exact DataW.trod_lt m _ _ _ hm
  have c1 : v1.cells = #[v1] := by obtain ⟨_, _, _, rfl⟩ := okWide_slice Tryd.underlying41 (hval 1 41 v1 rfl rfl); rfl
  obtain ⟨a1, k1, s1⟩ := open_one (n := 12) (d := .strs) (by kernel_rfl) c1 h1
  have ow1 := sat_owns (v := v1) s1
  simp only [LD.sat] at s1
  obtain ⟨x1, rfl⟩ := s1
  obtain ⟨n, hn⟩ : ∃ n, clepsydralaw11_LinesPassed_f n x0 x1 = some true := ⟨131072, LinesPassed_law 131072 (by omega) x0 x1⟩
  have hc : Calls Tryd.prog 5 #[v0, v1] W fun e W' => e = .returned (.bool true) ∧ Below W.heap.size W W' :=
    law_true (args := [.ints false .u8 x0, .strs false x1]) (H0 := []) (clepsydralaw11_LinesPassed_sound n) [v0, v1] (by simp only [VRs]; exact ⟨_, _, rfl, k0, ⟨_, _, rfl, k1, rfl⟩⟩) (by simp only [ownsL, ow0, ow1, List.append_nil]) (shape_good hsh) (by simp only [clepsydralaw11_LinesPassed_sp, spOf, clepsydralaw11_LinesPassed_p, hn, Option.bind_some])
  refine hc.mono fun e W' ⟨he, bel⟩ => ?_
  subst he
  exact ⟨_, rfl, _, _, _, [], _, [], hW', trodAll_mk1 (shut_bool Tryd.underlying4 _), (trodAll_cons_mk (Below.trod laidOut (by kernel_rfl) (of_decide_eq_true (by kernel_rfl)) h0 bel lt0) (trodAll_cons_mk (Below.trod laidOut (by kernel_rfl) (of_decide_eq_true (by kernel_rfl)) h1 bel lt1) trodAll_mk0)), rfl, bel.frame _, fun h => by cases h⟩
theorem over : Rows.linesPassedRow.holds Tryd.pinned (OpenSpec.ofChange Rows.linesPassedSpec) :=
  OpenClaim.holds_of_wide 5 Tryd.f5 rfl rfl rfl rfl rfl rfl rfl ⟨rfl, rfl, rfl, rfl, rfl⟩ rfl rfl rfl rfl rfl (by kernel_rfl) Tryd.func5 (by kernel_rfl)
    (of_decide_eq_true (by kernel_rfl)) (by unfold Func.isWrapper; first | (rw [if_pos (by decide +kernel)]; kernel_rfl) | (rw [if_neg (by decide +kernel)]; exact ⟨rfl, rfl⟩))
    (fun os started H enc _ => lifted os started H enc)
theorem proved : Rows.LinesPassedSaid := over
theorem card : Rows.LinesPassedCardSaid :=
  Claim7.holds_tied_plain_at .later [] [.data, .pinned] true (true, "56b408dcc90eb31babc69260d039786020b093dbf92fd2281bc2fe00045ffbc1") false proved (fun _ h => by cases h) (by kernel_rfl) (fun _ h => by cases h) linesPassed_row_tie rfl ⟨rfl, rfl⟩ (by kernel_rfl) rfl
    (fun f fn hf hfn => by
      obtain rfl : f = 5 := Option.some.inj ((show Tryd.prog.funcNamed "clepsydra/clepsydralaw11.LinesPassed" = some 5 by kernel_rfl).symm.trans hf) |>.symm
      obtain rfl : fn = Tryd.f5 := (Option.some.inj (Tryd.func5.symm.trans hfn)).symm
      exact ⟨by kernel_rfl, fun j t ht => by
        rw [Tryd.params5] at ht
        have hm : t ∈ [22, 41] := by simpa using Array.mem_of_getElem? ht
        have hall : ([22, 41].all fun u => !Tryd.prog.wantsStandIn u) = true := by kernel_rfl
        exact (show Tryd.prog.wantsStandIn t = false by simpa using List.all_eq_true.1 hall t hm)⟩)
    (by kernel_rfl)
#print axioms card
end Go.Proofs.YtikiibnmhmioiaaDoor.linesPassed
namespace Go.Proofs.YtikiibnmhmioiaaDoor
/-- The law's card, under a short name, for the claim. -/
theorem linesPassed_holds : Rows.LinesPassedCardSaid := linesPassed.card
end Go.Proofs.YtikiibnmhmioiaaDoor

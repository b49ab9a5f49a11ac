/- The law ZoneNew holds of every input that its statement speaks of: it tells true, and leaves its arguments as they were. -/
import Derived.Test.YtiegmpnagcdgoaaGreatDoorH5
import Derived.Test.YtiegmpnagcdgoaaGreatDoorRows
import Derived.Test.YtiegmpnagcdgoaaGreatDoorCards
import Derived.Test.YtiegmpnagcdgoaaGreatDoorTie
import Derived.WalkKit
import Derived.ProofKit
import Derived.OpenShut
import Derived.ShutString
import Derived.ChangeOld
import Derived.Below
import Derived.Carry
import Derived.LaidMore
import Derived.LaidLaws
import Derived.Lay
import Derived.SevenTiedAt
import Derived.Stop.Joined
namespace Go.Proofs.YtiegmpnagcdgoaaGreatDoor.zoneNew
open Go.ChangeShapes Go.WideShapes Go.ChangeAt Go.RowKit Go.Sh Go.Proofs.YtiegmpnagcdgoaaGreatDoor.H
set_option linter.unusedVariables false
theorem own : ownKnob Tryz.prog.godebug = none := by kernel_rfl
theorem laidOut : laidOutB Tryz.prog = true := by kernel_rfl
set_option maxRecDepth 100000 in
theorem lifted (os : Os) (started : os.Started) (H : Type) (enc : TypeId × Value → H) :
    ReturnsInHanded {} Tryz.checked os 7 .any (fun w args => (Rows.zoneNewSpec.pre enc Tryz.prog Tryz.f7 Rows.zoneNewRow.domain false w args ∧ laidMetH Tryz.prog [("math/bits.deBruijn32tab", Rows.laid_math_bits_deBruijn32tab), ("math/bits.deBruijn64tab", Rows.laid_math_bits_deBruijn64tab), ("internal/strconv.uint64pow10", Rows.laid_internal_strconv_uint64pow10), ("strconv.ErrRange", Rows.laid_strconv_ErrRange), ("strconv.ErrSyntax", Rows.laid_strconv_ErrSyntax)] w) ∧ sizedMet enc Tryz.prog Tryz.f7 (OpenSpec.ofChange Rows.zoneNewSpec) false w args) (Rows.zoneNewSpec.post enc Tryz.prog Tryz.f7 false true false false) := by
  refine Tz (C := Tryz.checked) (X := (fun w _ => laidMetH Tryz.prog [("math/bits.deBruijn32tab", Rows.laid_math_bits_deBruijn32tab), ("math/bits.deBruijn64tab", Rows.laid_math_bits_deBruijn64tab), ("internal/strconv.uint64pow10", Rows.laid_internal_strconv_uint64pow10), ("strconv.ErrRange", Rows.laid_strconv_ErrRange), ("strconv.ErrSyntax", Rows.laid_strconv_ErrSyntax)] w)) (fun _ _ _ hh h => h.of_heap hh) own started (by kernel_rfl) Tryz.func7
    (ChangeSpec.witness_shaped (enc := enc) (C := Tryz.checked) (os := os) (X := (fun w _ => laidMetH Tryz.prog [("math/bits.deBruijn32tab", Rows.laid_math_bits_deBruijn32tab), ("math/bits.deBruijn64tab", Rows.laid_math_bits_deBruijn64tab), ("internal/strconv.uint64pow10", Rows.laid_internal_strconv_uint64pow10), ("strconv.ErrRange", Rows.laid_strconv_ErrRange), ("strconv.ErrSyntax", Rows.laid_strconv_ErrSyntax)] w)) false (World.laidAll Tryz.prog os [("math/bits.deBruijn32tab", Rows.laid_math_bits_deBruijn32tab), ("math/bits.deBruijn64tab", Rows.laid_math_bits_deBruijn64tab), ("internal/strconv.uint64pow10", Rows.laid_internal_strconv_uint64pow10), ("strconv.ErrRange", Rows.laid_strconv_ErrRange), ("strconv.ErrSyntax", Rows.laid_strconv_ErrSyntax)]) #[.agg #[.slice none 0 0, .slice none 0 0, .slice none 0 0, .string ByteArray.empty], .slice none 0 0] 8 (World.laidAll_os _ _ _)
      (World.shaped_of_ZipB (by kernel_rfl) (by kernel_rfl)) (by kernel_rfl) (by kernel_rfl) (by kernel_rfl)
      (by rw [MakeChecks.laidMetH_plain _ _ _ (by kernel_rfl)]; exact laidMet_laidAll _ (by kernel_rfl) (by kernel_rfl))) ?_
  intro W base args ds gs before hval0 hW hcnd hsz hL hsh _
  have hval : ∀ (j : Nat) t v, Tryz.f7.params[j]? = some t → args[j]? = some v → Value.okWide Tryz.prog W .any base t v := hval0
  have hW' := hW
  obtain ⟨p, q, hA0, hV, rfl, hfz, hnd⟩ := hW
  have hA : DataW.TrodAll enc Tryz.prog W 0 (fun _ => true) true Tryz.f7.params.toList args.toList ds p := hA0
  rw [Tryz.params7] at hA hval
  obtain ⟨v0, vs0, d0, ds0, p0, q0, hargs, rfl, rfl, h0, r0⟩ := trodAll_cons hA
  obtain ⟨v1, vs1, d1, ds1, p1, q1, rfl, rfl, rfl, h1, r1⟩ := trodAll_cons r0
  obtain ⟨rfl, rfl, rfl⟩ := trodAll_nil r1
  obtain rfl : args = #[v0, v1] := by cases args; simp_all
  obtain ⟨rfl, rfl⟩ := trodVars_none hV
  have lt0 : ∀ x ∈ p0, x.block < W.heap.size := by obtain ⟨m, hm⟩ := h0; exact DataW.trod_lt m _ _ _ hm
  obtain ⟨vv0, rfl, _⟩ := okWide_struct Tryz.underlying26 (hval 0 26 v0 rfl rfl)
  obtain ⟨as0, k0, s0⟩ := acx (n := 12) (ds := [.sl [.int .i64, .bool, .str], .ints .i64, .ints .i64, .str]) (by kernel_rfl) h0
  have ow0 := acy (vs := vv0) s0
  simp only [LD.qR] at s0
  obtain ⟨_, _, rfl, t0_0, ⟨_, _, rfl, t0_1, ⟨_, _, rfl, t0_2, ⟨_, _, rfl, t0_3, rfl⟩⟩⟩⟩ := s0
  simp only [LD.sat] at t0_0
  obtain ⟨x0_0, rfl, wx0_0⟩ := t0_0
  simp only [LD.sat] at t0_1
  obtain ⟨x0_1, rfl, wx0_1⟩ := t0_1
  simp only [LD.sat] at t0_2
  obtain ⟨x0_2, rfl, wx0_2⟩ := t0_2
  simp only [LD.sat] at t0_3
  obtain ⟨x0_3, rfl, wx0_3⟩ := t0_3
  have lt1 : ∀ x ∈ p1, x.block < W.heap.size := by obtain ⟨m, hm⟩ := h1; exact DataW.trod_lt m _ _ _ hm
  have c1 : v1.cells = #[v1] := by obtain ⟨_, _, _, rfl⟩ := okWide_slice Tryz.underlying65 (hval 1 65 v1 rfl rfl); rfl
  obtain ⟨a1, k1, s1⟩ := acw (n := 12) (d := .ints .u8) (by kernel_rfl) c1 h1
  have ow1 := Xi (v := v1) s1
  simp only [LD.sat] at s1
  obtain ⟨x1, rfl, wx1⟩ := s1
  obtain ⟨n, hn⟩ : ∃ n, iN n x0_0 x0_1 x0_2 x0_3 x1 = some true := XH wx0_0 wx0_3 (fun x hx => by have := wf_u8 (wx1 x hx); omega)
  have ow0 : owns (.agg [.sl false 3 x0_0, .ints false .i64 x0_1, .ints false .i64 x0_2, .str x0_3]) (.agg vv0) = [] := ow0
  have hc : Calls Tryz.prog 7 #[(.agg vv0), v1] W fun e W' => e = .returned (.bool true) ∧ Below W.heap.size W W' :=
    acz (args := [.agg [.sl false 3 x0_0, .ints false .i64 x0_1, .ints false .i64 x0_2, .str x0_3], .ints false .u8 x1]) (H0 := []) (Fa n) [(.agg vv0), v1] (by simp only [VRs]; exact ⟨_, _, rfl, k0, ⟨_, _, rfl, k1, rfl⟩⟩) (by simp only [aH, ow0, ow1, List.append_nil]) (aaU hsh hL) (congrArg (fun z : Option Bool => z.bind fun o => some (AV.bool o, ([] : List AObj))) hn)
  refine hc.mono fun e W' ⟨he, bel⟩ => ?_
  subst he
  exact ⟨_, rfl, _, _, _, [], _, [], hW', trodAll_mk1 (shut_bool Tryz.underlying4 _), (trodAll_cons_mk (Below.trod laidOut (by kernel_rfl) (of_decide_eq_true (by kernel_rfl)) h0 bel lt0) (trodAll_cons_mk (Below.trod laidOut (by kernel_rfl) (of_decide_eq_true (by kernel_rfl)) h1 bel lt1) trodAll_mk0)), rfl, bel.frame _, fun h => by cases h⟩
theorem over : Rows.zoneNewRow.holds Tryz.pinned (OpenSpec.ofChange Rows.zoneNewSpec) :=
  OpenClaim.holds_of_wide 7 Tryz.f7 rfl rfl rfl rfl rfl rfl rfl ⟨rfl, rfl, rfl, rfl, rfl⟩ rfl rfl rfl rfl rfl (by kernel_rfl) Tryz.func7 (by kernel_rfl)
    (of_decide_eq_true (by kernel_rfl)) (by unfold Func.isWrapper; first | (rw [if_pos (by decide +kernel)]; kernel_rfl) | (rw [if_neg (by decide +kernel)]; exact ⟨rfl, rfl⟩))
    (fun os started H enc _ => lifted os started H enc)
theorem proved : Rows.ZoneNewSaid := over
theorem card : Rows.ZoneNewCardSaid :=
  Claim7.holds_tied_plain_at .later [] [.data, .data, .data, .sentinel, .sentinel] true (true, "c2ce07131f658996ff9c9a8923c48a8c048cd5758d082637264aea011cea3b75") true proved (fun _ h => by cases h) (by kernel_rfl) (fun _ h => by cases h) zoneNew_row_tie rfl ⟨rfl, rfl⟩ (by kernel_rfl) rfl
    (fun f fn hf hfn => by
      obtain rfl : f = 7 := Option.some.inj ((show Tryz.prog.funcNamed "clepsydra/clepsydralaw08.ZoneNew" = some 7 by kernel_rfl).symm.trans hf) |>.symm
      obtain rfl : fn = Tryz.f7 := (Option.some.inj (Tryz.func7.symm.trans hfn)).symm
      exact ⟨by kernel_rfl, fun j t ht => by
        rw [Tryz.params7] at ht
        have hm : t ∈ [26, 65] := by simpa using Array.mem_of_getElem? ht
        have hall : ([26, 65].all fun u => !Tryz.prog.wantsStandIn u) = true := by kernel_rfl
        exact (show Tryz.prog.wantsStandIn t = false by simpa using List.all_eq_true.1 hall t hm)⟩)
    (by kernel_rfl)
#print axioms card
end Go.Proofs.YtiegmpnagcdgoaaGreatDoor.zoneNew
namespace Go.Proofs.YtiegmpnagcdgoaaGreatDoor

theorem zoneNew_holds : Rows.ZoneNewCardSaid := zoneNew.card
end Go.Proofs.YtiegmpnagcdgoaaGreatDoor

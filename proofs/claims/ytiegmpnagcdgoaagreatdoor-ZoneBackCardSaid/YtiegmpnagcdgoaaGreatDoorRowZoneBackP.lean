/- The law ZoneBack holds of every input that its statement speaks of: it tells true, and leaves its arguments as they were. -/
import Derived.Test.YtiegmpnagcdgoaaGreatDoorL4
import Derived.Test.YtiegmpnagcdgoaaGreatDoorRows
import Derived.Test.YtiegmpnagcdgoaaGreatDoorCards
import Derived.Test.YtiegmpnagcdgoaaGreatDoorTie
import Derived.WalkKit
import Derived.ProofKit
import Derived.OpenShut
import Derived.ShutString
import Derived.ChangeOld
import Derived.Below
import Derived.Carry
import Derived.LaidMore
import Derived.LaidLaws
import Derived.Lay
import Derived.SevenTiedAt
import Derived.Stop.Joined
namespace Go.Proofs.YtiegmpnagcdgoaaGreatDoor.zoneBack
open Go.ChangeShapes Go.WideShapes Go.ChangeAt Go.RowKit Go.Sh Go.Proofs.YtiegmpnagcdgoaaGreatDoor.H
set_option linter.unusedVariables false
theorem own : ownKnob Tryz.prog.godebug = none := by kernel_rfl
theorem laidOut : laidOutB Tryz.prog = true := by kernel_rfl
set_option maxRecDepth 100000 in
theorem lifted (os : Os) (started : os.Started) (H : Type) (enc : TypeId × Value → H) :
    ReturnsInHanded {} Tryz.checked os 5 .any (fun w args => (Rows.zoneBackSpec.pre enc Tryz.prog Tryz.f5 Rows.zoneBackRow.domain false w args ∧ laidMetH Tryz.prog [("math/bits.deBruijn32tab", Rows.laid_math_bits_deBruijn32tab), ("math/bits.deBruijn64tab", Rows.laid_math_bits_deBruijn64tab), ("internal/strconv.uint64pow10", Rows.laid_internal_strconv_uint64pow10), ("strconv.ErrRange", Rows.laid_strconv_ErrRange), ("strconv.ErrSyntax", Rows.laid_strconv_ErrSyntax)] w) ∧ sizedMet enc Tryz.prog Tryz.f5 (OpenSpec.ofChange Rows.zoneBackSpec) false w args) (Rows.zoneBackSpec.post enc Tryz.prog Tryz.f5 false true false false) := by
  refine Pw (C := Tryz.checked) (X := (fun w _ => laidMetH Tryz.prog [("math/bits.deBruijn32tab", Rows.laid_math_bits_deBruijn32tab), ("math/bits.deBruijn64tab", Rows.laid_math_bits_deBruijn64tab), ("internal/strconv.uint64pow10", Rows.laid_internal_strconv_uint64pow10), ("strconv.ErrRange", Rows.laid_strconv_ErrRange), ("strconv.ErrSyntax", Rows.laid_strconv_ErrSyntax)] w)) (fun _ _ _ hh h => h.of_heap hh) own started (by kernel_rfl) Tryz.func5
    (ChangeSpec.witness_shaped (enc := enc) (C := Tryz.checked) (os := os) (X := (fun w _ => laidMetH Tryz.prog [("math/bits.deBruijn32tab", Rows.laid_math_bits_deBruijn32tab), ("math/bits.deBruijn64tab", Rows.laid_math_bits_deBruijn64tab), ("internal/strconv.uint64pow10", Rows.laid_internal_strconv_uint64pow10), ("strconv.ErrRange", Rows.laid_strconv_ErrRange), ("strconv.ErrSyntax", Rows.laid_strconv_ErrSyntax)] w)) false (World.laidAll Tryz.prog os [("math/bits.deBruijn32tab", Rows.laid_math_bits_deBruijn32tab), ("math/bits.deBruijn64tab", Rows.laid_math_bits_deBruijn64tab), ("internal/strconv.uint64pow10", Rows.laid_internal_strconv_uint64pow10), ("strconv.ErrRange", Rows.laid_strconv_ErrRange), ("strconv.ErrSyntax", Rows.laid_strconv_ErrSyntax)]) #[.agg #[.slice none 0 0, .slice none 0 0, .slice none 0 0, .string ByteArray.empty], .bool false, .int .i64 0, .int .u32 0] 8 (World.laidAll_os _ _ _)
      (World.shaped_of_ZipB (by kernel_rfl) (by kernel_rfl)) (by kernel_rfl) (by kernel_rfl) (by kernel_rfl)
      (by rw [MakeChecks.laidMetH_plain _ _ _ (by kernel_rfl)]; exact laidMet_laidAll _ (by kernel_rfl) (by kernel_rfl))) ?_
  intro W base args ds gs before hval0 hW hcnd hsz hL hsh _
  have hval : ∀ (j : Nat) t v, Tryz.f5.params[j]? = some t → args[j]? = some v → Value.okWide Tryz.prog W .any base t v := hval0
  have hW' := hW
  obtain ⟨p, q, hA0, hV, rfl, hfz, hnd⟩ := hW
  have hA : DataW.TrodAll enc Tryz.prog W 0 (fun _ => true) true Tryz.f5.params.toList args.toList ds p := hA0
  rw [Tryz.params5] at hA hval
  obtain ⟨v0, vs0, d0, ds0, p0, q0, hargs, rfl, rfl, h0, r0⟩ := trodAll_cons hA
  obtain ⟨v1, vs1, d1, ds1, p1, q1, rfl, rfl, rfl, h1, r1⟩ := trodAll_cons r0
  obtain ⟨v2, vs2, d2, ds2, p2, q2, rfl, rfl, rfl, h2, r2⟩ := trodAll_cons r1
  obtain ⟨v3, vs3, d3, ds3, p3, q3, rfl, rfl, rfl, h3, r3⟩ := trodAll_cons r2
  obtain ⟨rfl, rfl, rfl⟩ := trodAll_nil r3
  obtain rfl : args = #[v0, v1, v2, v3] := by cases args; simp_all
  obtain ⟨rfl, rfl⟩ := trodVars_none hV
  have lt0 : ∀ x ∈ p0, x.block < W.heap.size := by obtain ⟨m, hm⟩ := h0; exact DataW.trod_lt m _ _ _ hm
  obtain ⟨vv0, rfl, _⟩ := okWide_struct Tryz.underlying26 (hval 0 26 v0 rfl rfl)
  obtain ⟨as0, k0, s0⟩ := YC (n := 12) (ds := [.sl [.int .i64, .bool, .str], .ints .i64, .ints .i64, .str]) (by kernel_rfl) h0
  have ow0 := YD (vs := vv0) s0
  simp only [LD.qy] at s0
  obtain ⟨_, _, rfl, t0_0, ⟨_, _, rfl, t0_1, ⟨_, _, rfl, t0_2, ⟨_, _, rfl, t0_3, rfl⟩⟩⟩⟩ := s0
  simp only [LD.sat] at t0_0
  obtain ⟨x0_0, rfl, wx0_0⟩ := t0_0
  simp only [LD.sat] at t0_1
  obtain ⟨x0_1, rfl, wx0_1⟩ := t0_1
  simp only [LD.sat] at t0_2
  obtain ⟨x0_2, rfl, wx0_2⟩ := t0_2
  simp only [LD.sat] at t0_3
  obtain ⟨x0_3, rfl, wx0_3⟩ := t0_3
  have lt1 : ∀ x ∈ p1, x.block < W.heap.size := by obtain ⟨m, hm⟩ := h1; exact DataW.trod_lt m _ _ _ hm
  have c1 : v1.cells = #[v1] := by obtain ⟨_, rfl⟩ := okWide_bool Tryz.underlying4 (hval 1 4 v1 rfl rfl); rfl
  obtain ⟨a1, k1, s1⟩ := O9 (n := 12) (d := .bool) (by kernel_rfl) c1 h1
  have ow1 := Mf (v := v1) s1
  simp only [LD.sat] at s1
  obtain ⟨x1, rfl⟩ := s1
  have lt2 : ∀ x ∈ p2, x.block < W.heap.size := by obtain ⟨m, hm⟩ := h2; exact DataW.trod_lt m _ _ _ hm
  have c2 : v2.cells = #[v2] := by obtain ⟨_, rfl⟩ := okWide_int Tryz.underlying2 (hval 2 2 v2 rfl rfl); rfl
  obtain ⟨a2, k2, s2⟩ := O9 (n := 12) (d := .int .i64) (by kernel_rfl) c2 h2
  have ow2 := Mf (v := v2) s2
  simp only [LD.sat] at s2
  obtain ⟨x2, rfl, wx2⟩ := s2
  have lt3 : ∀ x ∈ p3, x.block < W.heap.size := by obtain ⟨m, hm⟩ := h3; exact DataW.trod_lt m _ _ _ hm
  have c3 : v3.cells = #[v3] := by obtain ⟨_, rfl⟩ := okWide_int Tryz.underlying60 (hval 3 60 v3 rfl rfl); rfl
  obtain ⟨a3, k3, s3⟩ := O9 (n := 12) (d := .int .u32) (by kernel_rfl) c3 h3
  have ow3 := Mf (v := v3) s3
  simp only [LD.sat] at s3
  obtain ⟨x3, rfl, wx3⟩ := s3
  obtain ⟨n, hn⟩ : ∃ n, iy n x0_0 x0_1 x0_2 x0_3 x1 x2 x3 = some true := Rw wx0_0 wx0_3 (wf_u32 wx3)
  have ow0 : owns (.agg [.sl false 3 x0_0, .ints false .i64 x0_1, .ints false .i64 x0_2, .str x0_3]) (.agg vv0) = [] := ow0
  have hc : Calls Tryz.prog 5 #[(.agg vv0), v1, v2, v3] W fun e W' => e = .returned (.bool true) ∧ Below W.heap.size W W' :=
    YE (args := [.agg [.sl false 3 x0_0, .ints false .i64 x0_1, .ints false .i64 x0_2, .str x0_3], .bool x1, .int .i64 x2, .int .u32 x3]) (H0 := []) (Cz n) [(.agg vv0), v1, v2, v3] (by simp only [VRs]; exact ⟨_, _, rfl, k0, ⟨_, _, rfl, k1, ⟨_, _, rfl, k2, ⟨_, _, rfl, k3, rfl⟩⟩⟩⟩) (by simp only [aC, ow0, ow1, ow2, ow3, List.append_nil]) (WT hsh hL) (congrArg (fun z : Option Bool => z.bind fun o => some (AV.bool o, ([] : List AObj))) hn)
  refine hc.mono fun e W' ⟨he, bel⟩ => ?_
  subst he
  exact ⟨_, rfl, _, _, _, [], _, [], hW', trodAll_mk1 (shut_bool Tryz.underlying4 _), (trodAll_cons_mk (Below.trod laidOut (by kernel_rfl) (of_decide_eq_true (by kernel_rfl)) h0 bel lt0) (trodAll_cons_mk (Below.trod laidOut (by kernel_rfl) (of_decide_eq_true (by kernel_rfl)) h1 bel lt1) (trodAll_cons_mk (Below.trod laidOut (by kernel_rfl) (of_decide_eq_true (by kernel_rfl)) h2 bel lt2) (trodAll_cons_mk (Below.trod laidOut (by kernel_rfl) (of_decide_eq_true (by kernel_rfl)) h3 bel lt3) trodAll_mk0)))), rfl, bel.frame _, fun h => by cases h⟩
theorem over : Rows.zoneBackRow.holds Tryz.pinned (OpenSpec.ofChange Rows.zoneBackSpec) :=
  OpenClaim.holds_of_wide 5 Tryz.f5 rfl rfl rfl rfl rfl rfl rfl ⟨rfl, rfl, rfl, rfl, rfl⟩ rfl rfl rfl rfl rfl (by kernel_rfl) Tryz.func5 (by kernel_rfl)
    (of_decide_eq_true (by kernel_rfl)) (by unfold Func.isWrapper; first | (rw [if_pos (by decide +kernel)]; kernel_rfl) | (rw [if_neg (by decide +kernel)]; exact ⟨rfl, rfl⟩))
    (fun os started H enc _ => lifted os started H enc)
theorem proved : Rows.ZoneBackSaid := over
theorem card : Rows.ZoneBackCardSaid :=
  Claim7.holds_tied_plain_at .later [] [.data, .data, .data, .sentinel, .sentinel] true (true, "c2ce07131f658996ff9c9a8923c48a8c048cd5758d082637264aea011cea3b75") true proved (fun _ h => by cases h) (by kernel_rfl) (fun _ h => by cases h) zoneBack_row_tie rfl ⟨rfl, rfl⟩ (by kernel_rfl) rfl
    (fun f fn hf hfn => by
      obtain rfl : f = 5 := Option.some.inj ((show Tryz.prog.funcNamed "clepsydra/clepsydralaw08.ZoneBack" = some 5 by kernel_rfl).symm.trans hf) |>.symm
      obtain rfl : fn = Tryz.f5 := (Option.some.inj (Tryz.func5.symm.trans hfn)).symm
      exact ⟨by kernel_rfl, fun j t ht => by
        rw [Tryz.params5] at ht
        have hm : t ∈ [26, 4, 2, 60] := by simpa using Array.mem_of_getElem? ht
        have hall : ([26, 4, 2, 60].all fun u => !Tryz.prog.wantsStandIn u) = true := by kernel_rfl
        exact (show Tryz.prog.wantsStandIn t = false by simpa using List.all_eq_true.1 hall t hm)⟩)
    (by kernel_rfl)
#print axioms card
end Go.Proofs.YtiegmpnagcdgoaaGreatDoor.zoneBack
namespace Go.Proofs.YtiegmpnagcdgoaaGreatDoor

theorem zoneBack_holds : Rows.ZoneBackCardSaid := zoneBack.card
end Go.Proofs.YtiegmpnagcdgoaaGreatDoor

/- Shadows of the program's functions, with their proofs, printed by a program of this session (for the laws TimespanParse, TimespanBack, TimespanOrder, TimespanUnits, TimespanSums, TimespanKnown). -/
import Derived.Test.YtmdnbpndhnjiaaaDoorR2
import Derived.Test.YtmdnbpndhnjiaaaDoorSV
import Derived.Test.YtmdnbpndhnjiaaaDoorShel
import Derived.Test.YtmdnbpndhnjiaaaDoorProg
import Derived.KernelRfl
import Derived.Lib.AppendIntMem
import Derived.Lib.AtoiErrMem
import Derived.Shelf.Strings.SlTrimAscii
namespace Go.Proofs.YtmdnbpndhnjiaaaDoor.H
open Go.Sh Go.RowKit
set_option linter.unusedVariables false
set_option linter.unusedSimpArgs false
set_option maxHeartbeats 4000000

def strings_Trim_f (n : Nat) (a0 a1 : Str) : Option Str := cond (decide (a0.length ≤ 9223372036854775807) && decide (a1.length < 4294967281) && a1.all fun b => decide (b.toNat < 128)) (some (Lib.trimS a0 a1)) none
def strings_Trim_sp (n : Nat) : FSpec := fun vs hs R K => match vs with
  | [.str a0, .str a1] => (strings_Trim_f n a0 a1).bind fun o => K (.str o) hs
  | _ => none
theorem strings_Trim_sound (n : Nat) : FSound Tryd.prog 15 (strings_Trim_sp n) := fsound_below (enters_of Tryd.func15 (by kernel_rfl) rfl) fun args H R k r h => by
  unfold strings_Trim_sp at h
  split at h
  · rename_i a0 a1
    obtain ⟨o, h2, h⟩ := Option.bind_eq_some_iff.1 h
    unfold strings_Trim_f at h2
    obtain ⟨h3, h2⟩ | ⟨_, h2⟩ := cond_some h2
    · injection h2 with h2
      subst h2
      simp only [Bool.and_eq_true, decide_eq_true_eq] at h3
      refine ⟨_, h, fun g w vs hl hv => ?_⟩
      obtain ⟨v0, _, rfl, h0, hv⟩ := vrs_cons hv
      obtain ⟨v1, _, rfl, h1, hv⟩ := vrs_cons hv
      obtain rfl := vrs_nil hv
      obtain ⟨s, rfl, rfl⟩ := vr_str h0
      obtain ⟨u, rfl, rfl⟩ := vr_str h1
      exact ⟨_, (plain_str _).1, (plain_str _).2, Any.strings_Trim_laid Tryd.lays160 (by kernel_rfl) s u w (by rw [Array.length_toList] at h3; exact h3.1.1) (by have := h3.1.2; rw [Array.length_toList] at this; exact this) (ascii_of_all h3.2)⟩
    · cases h2
  · cases h

def timespan_digit_b (n : Nat) (a0 : Int) (R : Type) (K : Bool → Option R) : Option R := cond (decide (a0 ≥ (48 : Int))) (K (decide (a0 ≤ (57 : Int)))) (K false)
def timespan_digit_f (n : Nat) (a0 : Int) : Option (Bool) := timespan_digit_b n a0 _ some
def timespan_digit_p : List AV → List AObj → Option (Int)
  | [.int .u8 a0], [] => some a0
  | _, _ => none
def timespan_digit_sp (n : Nat) : FSpec := spOf timespan_digit_p (fun v => timespan_digit_f n v) (fun o => .bool o) (fun o => [])
theorem timespan_digit_sound (n : Nat) : FSound Tryd.prog 36 (timespan_digit_sp n) := fsound_R (t := fun v => ⟨[(0, .int .u8 v)], []⟩) (b := fun v R K => timespan_digit_b n v R K) (nt := 9) (n := some 0) (rs := [.tmp 2]) .a Tryd.func36 (by kernel_rfl) rfl rfl rfl (fun _ h => by injection h with h; exact h.symm) (by decide) (by kernel_rfl) (by intro s v w h; unfold timespan_digit_p at h; split at h <;> first | (cases h; exact ⟨Nat.le_of_ble_eq_true rfl, rfl, rfl⟩) | cases h) (fun _ _ _ => by kernel_rfl) (by intros; unfold timespan_digit_b; simp only [nats]) (fun _ => rfl) (by kernel_rfl) (by kernel_rfl) trivial

def timespan_text_run_j0_b (n : Nat) (x5 : Int) (h0_0 : Str) (R : Type) (K : (Bool × Str) → Option R) : Option R := cond (decide (x5 < (h0_0.length : Int))) (cond (decide (0 ≤ x5)) ((h0_0[x5.toNat]?).bind fun b2 => ((timespan_digit_f n (b2.toNat : Int)).bind fun o3 => (K (o3, h0_0)))) none) (K (false, h0_0))
def timespan_text_run_j0 (n : Nat) (x5 : Int) (h0_0 : Str) : Option ((Bool × Str)) := timespan_text_run_j0_b n x5 h0_0 _ some
def timespan_text_run_j0_d : St → Option ((Int × Str) × (Unit))
  | ⟨[(0, .ptr (some (0, 0))), (1, .func (.func 36) [] []), (5, .int .i64 x5)], [.cells 39 [.str h0_0]]⟩ => some ((x5, h0_0), ())
  | _ => none
def timespan_text_run_j0_t (v : Int × Str) (w : Unit) : St := ⟨[(0, .ptr (some (0, 0))), (1, .func (.func 36) [] []), (5, .int .i64 v.1)], [.cells 39 [.str v.2]]⟩
def timespan_text_run_j0_k (v : Int × Str) (o : (Bool × Str)) (w : Unit) (R : Type) (K : AExit → St → Option R) : Option R := K .normal ⟨[(0, .ptr (some (0, 0))), (1, .func (.func 36) [] []), (5, .int .i64 v.1), (21, .bool o.1)], [.cells 39 [.str o.2]]⟩
def timespan_text_run_j0_x (n : Nat) : Ex := xOf timespan_text_run_j0_d (fun v => timespan_text_run_j0 n v.1 v.2) timespan_text_run_j0_k
def timespan_text_run_l0_b (n : Nat) (x5 : Int) (h0_0 : Str) (R : Type) (A_ : Int → Str → Option R) (K : (Int × Str) → Option R) : Option R := (timespan_text_run_j0 n x5 h0_0).bind fun o4 => (cond o4.1 (A_ (IntKind.i64.wrap (x5 + (1 : Int))) o4.2) (K (x5, o4.2)))
def timespan_text_run_l0 (n : Nat) : Nat → Int → Str → Option ((Int × Str))
  | 0, _, _ => none
  | m + 1, x5, h0_0 => timespan_text_run_l0_b n x5 h0_0 _ (timespan_text_run_l0 n m) some
def timespan_text_run_l0_d : St → Option ((Int × Str) × (Unit))
  | ⟨[(0, .ptr (some (0, 0))), (1, .func (.func 36) [] []), (5, .int .i64 x5)], [.cells 39 [.str h0_0]]⟩ => some ((x5, h0_0), ())
  | _ => none
def timespan_text_run_l0_t (v : Int × Str) (w : Unit) : St := ⟨[(0, .ptr (some (0, 0))), (1, .func (.func 36) [] []), (5, .int .i64 v.1)], [.cells 39 [.str v.2]]⟩
def timespan_text_run_l0_k (v : Int × Str) (o : (Int × Str)) (w : Unit) (R : Type) (K : AExit → St → Option R) : Option R := K (.exit 0) ⟨[(0, .ptr (some (0, 0))), (5, .int .i64 o.1)], [.cells 39 [.str o.2]]⟩
def timespan_text_run_l0_x (n : Nat) : Ex := xOf timespan_text_run_l0_d (fun v => timespan_text_run_l0 n n v.1 v.2) timespan_text_run_l0_k
theorem timespan_text_run_j0_snd (n : Nat) : Snd ⟨Tryd.prog, 1, 37⟩ (timespan_text_run_j0_x n) (Tryd.f16.body.getD .skip).a2.a2.a1.a1.a1.a1.a1 := snd_sub (t := timespan_text_run_j0_t) (b := fun v R K => timespan_text_run_j0_b n v.1 v.2 R K) (m := (fun e => match e with | .normal => ([0, 1, 5, 21], none) | _ => ([], none))) (.r [(13, .cl 36 (timespan_digit_sp n))]) (by intro s v w h; unfold timespan_text_run_j0_d at h; split at h <;> first | (cases h; rfl) | cases h) (fun _ _ _ _ => by kernel_rfl) (by intros; unfold timespan_text_run_j0_b; simp only [nats]) (fun _ => rfl) (by intro e n h; split at h <;> cases h) (by kernel_rfl) (by kernel_rfl) (ai (timespan_digit_sound n) trivial)
theorem timespan_text_run_l0_snd (n : Nat) : Snd ⟨Tryd.prog, 1, 37⟩ (timespan_text_run_l0_x n) (Tryd.f16.body.getD .skip).a2.a2.a1.a1 := snd_loop2 (t := timespan_text_run_l0_t) (b := fun v R A K => timespan_text_run_l0_b n v.1 v.2 R (fun z0 z1 => A (z0, z1)) K) (f := fun m v => timespan_text_run_l0 n m v.1 v.2) (m := (fun e => match e with | .exit 0 => ([0, 5], none) | .normal => ([0, 1, 5], none) | _ => ([], none))) n (.s (.s (.p (emaskIn ([0, 1, 5], none) (timespan_text_run_j0_x n))) .a) .a) (by intro s v w h; unfold timespan_text_run_l0_d at h; split at h <;> first | (cases h; rfl) | cases h) (fun _ _ _ _ => by kernel_rfl) (by intros; unfold timespan_text_run_l0_b; simp only [nats]) (fun _ => rfl) (fun _ _ => rfl) (fun _ => rfl) (fun _ _ _ _ _ _ => by kernel_rfl) (fun _ _ _ _ _ _ => by kernel_rfl) (by intro e n h; split at h <;> cases h) (by kernel_rfl) (by kernel_rfl) (ai (snd_in [0, 1, 5] (timespan_text_run_j0_snd n)) trivial)
def timespan_text_run_b (n : Nat) (h0 : Str) (R : Type) (K : (Str × Str) → Option R) : Option R := (timespan_text_run_l0 n n (0 : Int) h0).bind fun o5 => (cond (decide (0 ≤ o5.1)) (cond (decide (o5.1 ≤ (o5.2.length : Int))) (cond (decide (0 ≤ o5.1)) (cond (decide (o5.1 ≤ (o5.2.length : Int))) (K ((o5.2.take o5.1.toNat).drop 0, o5.2.drop o5.1.toNat)) none) none) none) none)
def timespan_text_run_f (n : Nat) (h0 : Str) : Option (Str × Str) := timespan_text_run_b n h0 _ some
def timespan_text_run_p : List AV → List AObj → Option (Str)
  | [.ptr (some (0, 0)), .func (.func 36) [] []], [.cells 39 [.str h0]] => some h0
  | _, _ => none
def timespan_text_run_sp (n : Nat) : FSpec := spOf timespan_text_run_p (fun v => timespan_text_run_f n v) (fun o => .str o.1) (fun o => [.cells 39 [.str o.2]])
theorem timespan_text_run_sound (n : Nat) : FSound Tryd.prog 16 (timespan_text_run_sp n) := fsound_R (t := fun v => ⟨[(0, .ptr (some (0, 0))), (1, .func (.func 36) [] [])], [.cells 39 [.str v]]⟩) (b := fun v R K => timespan_text_run_b n v R K) (nt := 37) (n := some 1) (rs := [.tmp 4]) (.s .a (.s .a (.s (.u (.p (emaskIn ([0, 1, 5], none) (timespan_text_run_l0_x n)))) .a))) Tryd.func16 (by kernel_rfl) rfl rfl rfl (fun _ h => by injection h with h; exact h.symm) (by decide) (by kernel_rfl) (by intro s v w h; unfold timespan_text_run_p at h; split at h <;> first | (cases h; exact ⟨Nat.le_of_ble_eq_true rfl, rfl, rfl⟩) | cases h) (fun _ _ _ => by kernel_rfl) (by intros; unfold timespan_text_run_b; simp only [nats]) (fun _ => rfl) (by kernel_rfl) (by kernel_rfl) (ai (snd_in [0, 1, 5] (timespan_text_run_l0_snd n)) trivial)

def strings_HasPrefix_f (n : Nat) (a0 a1 : Str) : Option Bool := some (Lib.hasPrefix a0 a1)
def strings_HasPrefix_sp (n : Nat) : FSpec := fun vs hs R K => match vs with
  | [.str a0, .str a1] => (strings_HasPrefix_f n a0 a1).bind fun o => K (.bool o) hs
  | _ => none
theorem strings_HasPrefix_sound (n : Nat) : FSound Tryd.prog 37 (strings_HasPrefix_sp n) := fsound_below (enters_of Tryd.func37 (by kernel_rfl) rfl) fun args H R k r h => by
  unfold strings_HasPrefix_sp at h
  split at h
  · rename_i a0 a1
    refine ⟨_, h, fun g w vs hl hv => ?_⟩
    obtain ⟨v0, _, rfl, h0, hv⟩ := vrs_cons hv
    obtain ⟨v1, _, rfl, h1, hv⟩ := vrs_cons hv
    obtain rfl := vrs_nil hv
    obtain ⟨s, rfl, rfl⟩ := vr_str h0
    obtain ⟨u, rfl, rfl⟩ := vr_str h1
    refine ⟨.bool (Lib.hasPrefix s.data.toList u.data.toList), rfl, fun g w => by simp only [VR], (Tryd.strings_HasPrefix s u w).mono ?_⟩
    rintro e w' ⟨rfl, rfl⟩
    exact ⟨rfl, Below.refl _ _⟩
  · cases h

def strings_Repeat_f (n : Nat) (a0 : Str) (a1 : Int) : Option Str := cond (decide (0 ≤ a1) && decide (a1 ≤ 9223372036854775807) && decide (a0.length * a1.toNat ≤ 140737488355328)) (some (Lib.repeatL a0 a1.toNat)) none
def strings_Repeat_sp (n : Nat) : FSpec := fun vs hs R K => match vs with
  | [.str a0, .int .i64 a1] => (strings_Repeat_f n a0 a1).bind fun o => K (.str o) hs
  | _ => none
theorem strings_Repeat_sound (n : Nat) : FSound Tryd.prog 39 (strings_Repeat_sp n) := fsound_below (enters_of Tryd.func39 (by kernel_rfl) rfl) fun args H R k r h => by
  unfold strings_Repeat_sp at h
  split at h
  · rename_i a0 a1
    obtain ⟨o, h2, h⟩ := Option.bind_eq_some_iff.1 h
    unfold strings_Repeat_f at h2
    obtain ⟨h3, h2⟩ | ⟨_, h2⟩ := cond_some h2
    · injection h2 with h2
      subst h2
      simp only [Bool.and_eq_true, decide_eq_true_eq] at h3
      obtain ⟨⟨h4, h5⟩, h6⟩ := h3
      obtain ⟨c, rfl⟩ : ∃ c : Nat, a1 = (c : Int) := ⟨a1.toNat, by omega⟩
      rw [Int.toNat_natCast] at *
      refine ⟨_, h, fun g w vs hl hv => ?_⟩
      obtain ⟨v0, _, rfl, h0, hv⟩ := vrs_cons hv
      obtain ⟨v1, _, rfl, h1, hv⟩ := vrs_cons hv
      obtain rfl := vrs_nil hv
      obtain ⟨s, rfl, rfl⟩ := vr_str h0
      obtain rfl := vr_int h1
      refine ⟨_, (plain_str _).1, (plain_str _).2, Tryd.strings_Repeat s c w (by omega) (by rw [Array.length_toList] at h6; exact h6)⟩
    · cases h2
  · cases h

def strconv_ParseInt_f (n : Nat) (a0 : Str) (a1 a2 : Int) : Option (Int × Bool) := cond (decide (a1 = 10) && decide (a2 = 64) && decide (a0.length ≤ 281474976710656)) (some (match Lib.parseIntB 64 a0 with
  | .ok v => (v, true)
  | .range => (Lib.intSat 64 a0, false)
  | _ => (0, false))) none
def strconv_ParseInt_sp (n : Nat) : FSpec := fun vs hs R K => match vs with
  | [.str a0, .int .i64 a1, .int .i64 a2] => (strconv_ParseInt_f n a0 a1 a2).bind fun o => cond o.2 (K (.tuple [.int .i64 o.1, .nilIface]) hs) (K (.tuple [.int .i64 o.1, .iface 101 (.undef)]) hs)
  | _ => none
theorem strconv_ParseInt_sound (n : Nat) : FSound Tryd.prog 38 (strconv_ParseInt_sp n) := fsound_belowG (enters_of Tryd.func38 (by kernel_rfl) rfl) fun args H R k r h => by
  unfold strconv_ParseInt_sp at h
  split at h
  · rename_i a0 a1 a2
    obtain ⟨o, h2, h9⟩ := Option.bind_eq_some_iff.1 h
    unfold strconv_ParseInt_f at h2
    obtain ⟨h3, h8⟩ | ⟨_, h8⟩ := cond_some h2
    · injection h8 with h8
      clear h h2
      simp only [Bool.and_eq_true, decide_eq_true_eq] at h3
      obtain ⟨⟨h4, h5⟩, h6⟩ := h3
      subst h4 h5
      have plain1 : ∀ (n : Int), owns (.tuple [.int .i64 n, .nilIface]) (.tuple #[.int .i64 n, .nilIface]) = [] ∧ ∀ (g : Gh) (w : World), VR g w (.tuple [.int .i64 n, .nilIface]) (.tuple #[.int .i64 n, .nilIface]) := fun n => ⟨rfl, fun g w => by simp only [VR]; exact ⟨_, rfl, by simp only [VRs, VR]; exact ⟨_, _, rfl, rfl, _, _, rfl, rfl, rfl⟩⟩⟩
      have plain2 : ∀ (n : Int) (t : TypeId) (x : Value), owns (.tuple [.int .i64 n, .iface t .undef]) (.tuple #[.int .i64 n, .iface t x]) = [] ∧ ∀ (g : Gh) (w : World), VR g w (.tuple [.int .i64 n, .iface t .undef]) (.tuple #[.int .i64 n, .iface t x]) := fun n t x => ⟨by cases x <;> rfl, fun g w => by simp only [VR]; exact ⟨_, rfl, by simp only [VRs, VR]; exact ⟨_, _, rfl, rfl, _, _, rfl, ⟨_, rfl, trivial⟩, rfl⟩⟩⟩
      cases hx : Lib.parseIntB 64 a0 with
      | ok v =>
        rw [hx] at h8
        subst h8
        simp only [cond_true] at h9
        refine ⟨_, h9, fun g w vs hg hl hv => ?_⟩
        obtain ⟨v0, _, rfl, h0, hv⟩ := vrs_cons hv
        obtain ⟨v1, _, rfl, h1, hv⟩ := vrs_cons hv
        obtain ⟨v2, _, rfl, h7, hv⟩ := vrs_cons hv
        obtain rfl := vrs_nil hv
        obtain ⟨s, rfl, rfl⟩ := vr_str h0
        obtain rfl := vr_int h1
        obtain rfl := vr_int h7
        rw [Array.length_toList] at h6
        have h6' : s.size ≤ 281474976710656 := h6
        refine (Tryd.strconv_ParseInt_10_at64_ok s (by omega) v hx w).mono ?_
        rintro e w' ⟨rfl, hw⟩
        refine ⟨_, rfl, (plain1 _).1, (plain1 _).2, ?_⟩
        rcases hw with rfl | ⟨t, rfl⟩
        · exact Below.refl _ _
        · exact Lib.bytesWorld_below _ _ _
      | range =>
        rw [hx] at h8
        subst h8
        simp only [cond_false] at h9
        refine ⟨_, h9, fun g w vs hg hl hv => ?_⟩
        obtain ⟨v0, _, rfl, h0, hv⟩ := vrs_cons hv
        obtain ⟨v1, _, rfl, h1, hv⟩ := vrs_cons hv
        obtain ⟨v2, _, rfl, h7, hv⟩ := vrs_cons hv
        obtain rfl := vrs_nil hv
        obtain ⟨s, rfl, rfl⟩ := vr_str h0
        obtain rfl := vr_int h1
        obtain rfl := vr_int h7
        rw [Array.length_toList] at h6
        have h6' : s.size ≤ 281474976710656 := h6
        obtain ⟨u, x, hc⟩ := good_range hg
        refine (Tryd.strconv_ParseInt_10_at64_range s h6' hx _ w hc (.inr ⟨_, _, rfl⟩)).mono ?_
        rintro e w' ⟨N, rfl, _, _, hb⟩
        exact ⟨_, rfl, (plain2 _ _ _).1, (plain2 _ _ _).2, hb⟩
      | _ =>
        rw [hx] at h8
        subst h8
        simp only [cond_false] at h9
        refine ⟨_, h9, fun g w vs hg hl hv => ?_⟩
        obtain ⟨v0, _, rfl, h0, hv⟩ := vrs_cons hv
        obtain ⟨v1, _, rfl, h1, hv⟩ := vrs_cons hv
        obtain ⟨v2, _, rfl, h7, hv⟩ := vrs_cons hv
        obtain rfl := vrs_nil hv
        obtain ⟨s, rfl, rfl⟩ := vr_str h0
        obtain rfl := vr_int h1
        obtain rfl := vr_int h7
        rw [Array.length_toList] at h6
        have h6' : s.size ≤ 281474976710656 := h6
        obtain ⟨u, x, hc⟩ := good_syntax hg
        refine (Any.strconv_ParseInt_10_at64_syntax Tryd.laysC174 s h6' hx _ w hc (.inr ⟨_, _, rfl⟩)).mono ?_
        rintro e w' ⟨N, rfl, _, _, hb⟩
        exact ⟨_, rfl, (plain2 _ _ _).1, (plain2 _ _ _).2, hb⟩
    · cases h8
  · cases h

def strings_IndexByte_f (n : Nat) (a0 : Str) (a1 : Int) : Option Int := some (Lib.indexByte a0 a1.toNat.toUInt8)
def strings_IndexByte_sp (n : Nat) : FSpec := fun vs hs R K => match vs with
  | [.str a0, .int .u8 a1] => (strings_IndexByte_f n a0 a1).bind fun o => K (.int .i64 o) hs
  | _ => none
theorem strings_IndexByte_sound (n : Nat) : FSound Tryd.prog 35 (strings_IndexByte_sp n) := fsound_below (enters_of Tryd.func35 (by kernel_rfl) rfl) fun args H R k r h => by
  unfold strings_IndexByte_sp at h
  split at h
  · rename_i a0 a1
    refine ⟨_, h, fun g w vs hl hv => ?_⟩
    obtain ⟨v0, _, rfl, h0, hv⟩ := vrs_cons hv
    obtain ⟨v1, _, rfl, h1, hv⟩ := vrs_cons hv
    obtain rfl := vrs_nil hv
    obtain ⟨s, rfl, rfl⟩ := vr_str h0
    obtain rfl := vr_int h1
    refine ⟨_, (plain_int _ _).1, (plain_int _ _).2, (Tryd.strings_IndexByte s a1 w).mono ?_⟩
    rintro e w' ⟨rfl, rfl⟩
    exact ⟨rfl, Below.refl _ _⟩
  · cases h

def timespan_blank_b (n : Nat) (a0 : Int) (R : Type) (K : Bool → Option R) : Option R := (strings_IndexByte_f n ([32, 9] : Str) a0).bind fun o16 => (K (decide (o16 ≥ (0 : Int))))
def timespan_blank_f (n : Nat) (a0 : Int) : Option (Bool) := timespan_blank_b n a0 _ some
def timespan_blank_p : List AV → List AObj → Option (Int)
  | [.int .u8 a0], [] => some a0
  | _, _ => none
def timespan_blank_sp (n : Nat) : FSpec := spOf timespan_blank_p (fun v => timespan_blank_f n v) (fun o => .bool o) (fun o => [])
theorem timespan_blank_sound (n : Nat) : FSound Tryd.prog 17 (timespan_blank_sp n) := fsound_R (t := fun v => ⟨[(0, .int .u8 v)], []⟩) (b := fun v R K => timespan_blank_b n v R K) (nt := 6) (n := some 0) (rs := [.tmp 2]) (.s .a (.s (.r [(1, .cl 35 (strings_IndexByte_sp n))]) .a)) Tryd.func17 (by kernel_rfl) rfl rfl rfl (fun _ h => by injection h with h; exact h.symm) (by decide) (by kernel_rfl) (by intro s v w h; unfold timespan_blank_p at h; split at h <;> first | (cases h; exact ⟨Nat.le_of_ble_eq_true rfl, rfl, rfl⟩) | cases h) (fun _ _ _ => by kernel_rfl) (by intros; unfold timespan_blank_b; simp only [nats]) (fun _ => rfl) (by kernel_rfl) (by kernel_rfl) (ai (strings_IndexByte_sound n) trivial)

def timespan_text_run_1_j0_b (n : Nat) (x5 : Int) (h0_0 : Str) (R : Type) (K : (Bool × Str) → Option R) : Option R := cond (decide (x5 < (h0_0.length : Int))) (cond (decide (0 ≤ x5)) ((h0_0[x5.toNat]?).bind fun b15 => ((timespan_blank_f n (b15.toNat : Int)).bind fun o17 => (K (o17, h0_0)))) none) (K (false, h0_0))
def timespan_text_run_1_j0 (n : Nat) (x5 : Int) (h0_0 : Str) : Option ((Bool × Str)) := timespan_text_run_1_j0_b n x5 h0_0 _ some
def timespan_text_run_1_j0_d : St → Option ((Int × Str) × (Unit))
  | ⟨[(0, .ptr (some (0, 0))), (1, .func (.func 17) [] []), (5, .int .i64 x5)], [.cells 39 [.str h0_0]]⟩ => some ((x5, h0_0), ())
  | _ => none
def timespan_text_run_1_j0_t (v : Int × Str) (w : Unit) : St := ⟨[(0, .ptr (some (0, 0))), (1, .func (.func 17) [] []), (5, .int .i64 v.1)], [.cells 39 [.str v.2]]⟩
def timespan_text_run_1_j0_k (v : Int × Str) (o : (Bool × Str)) (w : Unit) (R : Type) (K : AExit → St → Option R) : Option R := K .normal ⟨[(0, .ptr (some (0, 0))), (1, .func (.func 17) [] []), (5, .int .i64 v.1), (21, .bool o.1)], [.cells 39 [.str o.2]]⟩
def timespan_text_run_1_j0_x (n : Nat) : Ex := xOf timespan_text_run_1_j0_d (fun v => timespan_text_run_1_j0 n v.1 v.2) timespan_text_run_1_j0_k
def timespan_text_run_1_l0_b (n : Nat) (x5 : Int) (h0_0 : Str) (R : Type) (A_ : Int → Str → Option R) (K : (Int × Str) → Option R) : Option R := (timespan_text_run_1_j0 n x5 h0_0).bind fun o18 => (cond o18.1 (A_ (IntKind.i64.wrap (x5 + (1 : Int))) o18.2) (K (x5, o18.2)))
def timespan_text_run_1_l0 (n : Nat) : Nat → Int → Str → Option ((Int × Str))
  | 0, _, _ => none
  | m + 1, x5, h0_0 => timespan_text_run_1_l0_b n x5 h0_0 _ (timespan_text_run_1_l0 n m) some
def timespan_text_run_1_l0_d : St → Option ((Int × Str) × (Unit))
  | ⟨[(0, .ptr (some (0, 0))), (1, .func (.func 17) [] []), (5, .int .i64 x5)], [.cells 39 [.str h0_0]]⟩ => some ((x5, h0_0), ())
  | _ => none
def timespan_text_run_1_l0_t (v : Int × Str) (w : Unit) : St := ⟨[(0, .ptr (some (0, 0))), (1, .func (.func 17) [] []), (5, .int .i64 v.1)], [.cells 39 [.str v.2]]⟩
def timespan_text_run_1_l0_k (v : Int × Str) (o : (Int × Str)) (w : Unit) (R : Type) (K : AExit → St → Option R) : Option R := K (.exit 0) ⟨[(0, .ptr (some (0, 0))), (5, .int .i64 o.1)], [.cells 39 [.str o.2]]⟩
def timespan_text_run_1_l0_x (n : Nat) : Ex := xOf timespan_text_run_1_l0_d (fun v => timespan_text_run_1_l0 n n v.1 v.2) timespan_text_run_1_l0_k
theorem timespan_text_run_1_j0_snd (n : Nat) : Snd ⟨Tryd.prog, 1, 37⟩ (timespan_text_run_1_j0_x n) (Tryd.f16.body.getD .skip).a2.a2.a1.a1.a1.a1.a1 := snd_sub (t := timespan_text_run_1_j0_t) (b := fun v R K => timespan_text_run_1_j0_b n v.1 v.2 R K) (m := (fun e => match e with | .normal => ([0, 1, 5, 21], none) | _ => ([], none))) (.r [(13, .cl 17 (timespan_blank_sp n))]) (by intro s v w h; unfold timespan_text_run_1_j0_d at h; split at h <;> first | (cases h; rfl) | cases h) (fun _ _ _ _ => by kernel_rfl) (by intros; unfold timespan_text_run_1_j0_b; simp only [nats]) (fun _ => rfl) (by intro e n h; split at h <;> cases h) (by kernel_rfl) (by kernel_rfl) (ai (timespan_blank_sound n) trivial)
theorem timespan_text_run_1_l0_snd (n : Nat) : Snd ⟨Tryd.prog, 1, 37⟩ (timespan_text_run_1_l0_x n) (Tryd.f16.body.getD .skip).a2.a2.a1.a1 := snd_loop2 (t := timespan_text_run_1_l0_t) (b := fun v R A K => timespan_text_run_1_l0_b n v.1 v.2 R (fun z0 z1 => A (z0, z1)) K) (f := fun m v => timespan_text_run_1_l0 n m v.1 v.2) (m := (fun e => match e with | .exit 0 => ([0, 5], none) | .normal => ([0, 1, 5], none) | _ => ([], none))) n (.s (.s (.p (emaskIn ([0, 1, 5], none) (timespan_text_run_1_j0_x n))) .a) .a) (by intro s v w h; unfold timespan_text_run_1_l0_d at h; split at h <;> first | (cases h; rfl) | cases h) (fun _ _ _ _ => by kernel_rfl) (by intros; unfold timespan_text_run_1_l0_b; simp only [nats]) (fun _ => rfl) (fun _ _ => rfl) (fun _ => rfl) (fun _ _ _ _ _ _ => by kernel_rfl) (fun _ _ _ _ _ _ => by kernel_rfl) (by intro e n h; split at h <;> cases h) (by kernel_rfl) (by kernel_rfl) (ai (snd_in [0, 1, 5] (timespan_text_run_1_j0_snd n)) trivial)
def timespan_text_run_1_b (n : Nat) (h0 : Str) (R : Type) (K : (Str × Str) → Option R) : Option R := (timespan_text_run_1_l0 n n (0 : Int) h0).bind fun o19 => (cond (decide (0 ≤ o19.1)) (cond (decide (o19.1 ≤ (o19.2.length : Int))) (cond (decide (0 ≤ o19.1)) (cond (decide (o19.1 ≤ (o19.2.length : Int))) (K ((o19.2.take o19.1.toNat).drop 0, o19.2.drop o19.1.toNat)) none) none) none) none)
def timespan_text_run_1_f (n : Nat) (h0 : Str) : Option (Str × Str) := timespan_text_run_1_b n h0 _ some
def timespan_text_run_1_p : List AV → List AObj → Option (Str)
  | [.ptr (some (0, 0)), .func (.func 17) [] []], [.cells 39 [.str h0]] => some h0
  | _, _ => none
def timespan_text_run_1_sp (n : Nat) : FSpec := spOf timespan_text_run_1_p (fun v => timespan_text_run_1_f n v) (fun o => .str o.1) (fun o => [.cells 39 [.str o.2]])
theorem timespan_text_run_1_sound (n : Nat) : FSound Tryd.prog 16 (timespan_text_run_1_sp n) := fsound_R (t := fun v => ⟨[(0, .ptr (some (0, 0))), (1, .func (.func 17) [] [])], [.cells 39 [.str v]]⟩) (b := fun v R K => timespan_text_run_1_b n v R K) (nt := 37) (n := some 1) (rs := [.tmp 4]) (.s .a (.s .a (.s (.u (.p (emaskIn ([0, 1, 5], none) (timespan_text_run_1_l0_x n)))) .a))) Tryd.func16 (by kernel_rfl) rfl rfl rfl (fun _ h => by injection h with h; exact h.symm) (by decide) (by kernel_rfl) (by intro s v w h; unfold timespan_text_run_1_p at h; split at h <;> first | (cases h; exact ⟨Nat.le_of_ble_eq_true rfl, rfl, rfl⟩) | cases h) (fun _ _ _ => by kernel_rfl) (by intros; unfold timespan_text_run_1_b; simp only [nats]) (fun _ => rfl) (by kernel_rfl) (by kernel_rfl) (ai (snd_in [0, 1, 5] (timespan_text_run_1_l0_snd n)) trivial)

def timespan_letter_b (n : Nat) (a0 : Int) (R : Type) (K : Bool → Option R) : Option R := cond (decide ((IntKind.u8.wrap ((BitVec.ofInt 8 a0 ||| BitVec.ofInt 8 (32 : Int)).toNat : Int)) ≥ (97 : Int))) (K (decide ((IntKind.u8.wrap ((BitVec.ofInt 8 a0 ||| BitVec.ofInt 8 (32 : Int)).toNat : Int)) ≤ (122 : Int)))) (K false)
def timespan_letter_f (n : Nat) (a0 : Int) : Option (Bool) := timespan_letter_b n a0 _ some
def timespan_letter_p : List AV → List AObj → Option (Int)
  | [.int .u8 a0], [] => some a0
  | _, _ => none
def timespan_letter_sp (n : Nat) : FSpec := spOf timespan_letter_p (fun v => timespan_letter_f n v) (fun o => .bool o) (fun o => [])
theorem timespan_letter_sound (n : Nat) : FSound Tryd.prog 40 (timespan_letter_sp n) := fsound_R (t := fun v => ⟨[(0, .int .u8 v)], []⟩) (b := fun v R K => timespan_letter_b n v R K) (nt := 11) (n := some 0) (rs := [.tmp 2]) .a Tryd.func40 (by kernel_rfl) rfl rfl rfl (fun _ h => by injection h with h; exact h.symm) (by decide) (by kernel_rfl) (by intro s v w h; unfold timespan_letter_p at h; split at h <;> first | (cases h; exact ⟨Nat.le_of_ble_eq_true rfl, rfl, rfl⟩) | cases h) (fun _ _ _ => by kernel_rfl) (by intros; unfold timespan_letter_b; simp only [nats]) (fun _ => rfl) (by kernel_rfl) (by kernel_rfl) trivial

def timespan_text_run_2_j0_b (n : Nat) (x5 : Int) (h0_0 : Str) (R : Type) (K : (Bool × Str) → Option R) : Option R := cond (decide (x5 < (h0_0.length : Int))) (cond (decide (0 ≤ x5)) ((h0_0[x5.toNat]?).bind fun b21 => ((timespan_letter_f n (b21.toNat : Int)).bind fun o22 => (K (o22, h0_0)))) none) (K (false, h0_0))
def timespan_text_run_2_j0 (n : Nat) (x5 : Int) (h0_0 : Str) : Option ((Bool × Str)) := timespan_text_run_2_j0_b n x5 h0_0 _ some
def timespan_text_run_2_j0_d : St → Option ((Int × Str) × (Unit))
  | ⟨[(0, .ptr (some (0, 0))), (1, .func (.func 40) [] []), (5, .int .i64 x5)], [.cells 39 [.str h0_0]]⟩ => some ((x5, h0_0), ())
  | _ => none
def timespan_text_run_2_j0_t (v : Int × Str) (w : Unit) : St := ⟨[(0, .ptr (some (0, 0))), (1, .func (.func 40) [] []), (5, .int .i64 v.1)], [.cells 39 [.str v.2]]⟩
def timespan_text_run_2_j0_k (v : Int × Str) (o : (Bool × Str)) (w : Unit) (R : Type) (K : AExit → St → Option R) : Option R := K .normal ⟨[(0, .ptr (some (0, 0))), (1, .func (.func 40) [] []), (5, .int .i64 v.1), (21, .bool o.1)], [.cells 39 [.str o.2]]⟩
def timespan_text_run_2_j0_x (n : Nat) : Ex := xOf timespan_text_run_2_j0_d (fun v => timespan_text_run_2_j0 n v.1 v.2) timespan_text_run_2_j0_k
def timespan_text_run_2_l0_b (n : Nat) (x5 : Int) (h0_0 : Str) (R : Type) (A_ : Int → Str → Option R) (K : (Int × Str) → Option R) : Option R := (timespan_text_run_2_j0 n x5 h0_0).bind fun o23 => (cond o23.1 (A_ (IntKind.i64.wrap (x5 + (1 : Int))) o23.2) (K (x5, o23.2)))
def timespan_text_run_2_l0 (n : Nat) : Nat → Int → Str → Option ((Int × Str))
  | 0, _, _ => none
  | m + 1, x5, h0_0 => timespan_text_run_2_l0_b n x5 h0_0 _ (timespan_text_run_2_l0 n m) some
def timespan_text_run_2_l0_d : St → Option ((Int × Str) × (Unit))
  | ⟨[(0, .ptr (some (0, 0))), (1, .func (.func 40) [] []), (5, .int .i64 x5)], [.cells 39 [.str h0_0]]⟩ => some ((x5, h0_0), ())
  | _ => none
def timespan_text_run_2_l0_t (v : Int × Str) (w : Unit) : St := ⟨[(0, .ptr (some (0, 0))), (1, .func (.func 40) [] []), (5, .int .i64 v.1)], [.cells 39 [.str v.2]]⟩
def timespan_text_run_2_l0_k (v : Int × Str) (o : (Int × Str)) (w : Unit) (R : Type) (K : AExit → St → Option R) : Option R := K (.exit 0) ⟨[(0, .ptr (some (0, 0))), (5, .int .i64 o.1)], [.cells 39 [.str o.2]]⟩
def timespan_text_run_2_l0_x (n : Nat) : Ex := xOf timespan_text_run_2_l0_d (fun v => timespan_text_run_2_l0 n n v.1 v.2) timespan_text_run_2_l0_k
theorem timespan_text_run_2_j0_snd (n : Nat) : Snd ⟨Tryd.prog, 1, 37⟩ (timespan_text_run_2_j0_x n) (Tryd.f16.body.getD .skip).a2.a2.a1.a1.a1.a1.a1 := snd_sub (t := timespan_text_run_2_j0_t) (b := fun v R K => timespan_text_run_2_j0_b n v.1 v.2 R K) (m := (fun e => match e with | .normal => ([0, 1, 5, 21], none) | _ => ([], none))) (.r [(13, .cl 40 (timespan_letter_sp n))]) (by intro s v w h; unfold timespan_text_run_2_j0_d at h; split at h <;> first | (cases h; rfl) | cases h) (fun _ _ _ _ => by kernel_rfl) (by intros; unfold timespan_text_run_2_j0_b; simp only [nats]) (fun _ => rfl) (by intro e n h; split at h <;> cases h) (by kernel_rfl) (by kernel_rfl) (ai (timespan_letter_sound n) trivial)
theorem timespan_text_run_2_l0_snd (n : Nat) : Snd ⟨Tryd.prog, 1, 37⟩ (timespan_text_run_2_l0_x n) (Tryd.f16.body.getD .skip).a2.a2.a1.a1 := snd_loop2 (t := timespan_text_run_2_l0_t) (b := fun v R A K => timespan_text_run_2_l0_b n v.1 v.2 R (fun z0 z1 => A (z0, z1)) K) (f := fun m v => timespan_text_run_2_l0 n m v.1 v.2) (m := (fun e => match e with | .exit 0 => ([0, 5], none) | .normal => ([0, 1, 5], none) | _ => ([], none))) n (.s (.s (.p (emaskIn ([0, 1, 5], none) (timespan_text_run_2_j0_x n))) .a) .a) (by intro s v w h; unfold timespan_text_run_2_l0_d at h; split at h <;> first | (cases h; rfl) | cases h) (fun _ _ _ _ => by kernel_rfl) (by intros; unfold timespan_text_run_2_l0_b; simp only [nats]) (fun _ => rfl) (fun _ _ => rfl) (fun _ => rfl) (fun _ _ _ _ _ _ => by kernel_rfl) (fun _ _ _ _ _ _ => by kernel_rfl) (by intro e n h; split at h <;> cases h) (by kernel_rfl) (by kernel_rfl) (ai (snd_in [0, 1, 5] (timespan_text_run_2_j0_snd n)) trivial)
def timespan_text_run_2_b (n : Nat) (h0 : Str) (R : Type) (K : (Str × Str) → Option R) : Option R := (timespan_text_run_2_l0 n n (0 : Int) h0).bind fun o24 => (cond (decide (0 ≤ o24.1)) (cond (decide (o24.1 ≤ (o24.2.length : Int))) (cond (decide (0 ≤ o24.1)) (cond (decide (o24.1 ≤ (o24.2.length : Int))) (K ((o24.2.take o24.1.toNat).drop 0, o24.2.drop o24.1.toNat)) none) none) none) none)
def timespan_text_run_2_f (n : Nat) (h0 : Str) : Option (Str × Str) := timespan_text_run_2_b n h0 _ some
def timespan_text_run_2_p : List AV → List AObj → Option (Str)
  | [.ptr (some (0, 0)), .func (.func 40) [] []], [.cells 39 [.str h0]] => some h0
  | _, _ => none
def timespan_text_run_2_sp (n : Nat) : FSpec := spOf timespan_text_run_2_p (fun v => timespan_text_run_2_f n v) (fun o => .str o.1) (fun o => [.cells 39 [.str o.2]])
theorem timespan_text_run_2_sound (n : Nat) : FSound Tryd.prog 16 (timespan_text_run_2_sp n) := fsound_R (t := fun v => ⟨[(0, .ptr (some (0, 0))), (1, .func (.func 40) [] [])], [.cells 39 [.str v]]⟩) (b := fun v R K => timespan_text_run_2_b n v R K) (nt := 37) (n := some 1) (rs := [.tmp 4]) (.s .a (.s .a (.s (.u (.p (emaskIn ([0, 1, 5], none) (timespan_text_run_2_l0_x n)))) .a))) Tryd.func16 (by kernel_rfl) rfl rfl rfl (fun _ h => by injection h with h; exact h.symm) (by decide) (by kernel_rfl) (by intro s v w h; unfold timespan_text_run_2_p at h; split at h <;> first | (cases h; exact ⟨Nat.le_of_ble_eq_true rfl, rfl, rfl⟩) | cases h) (fun _ _ _ => by kernel_rfl) (by intros; unfold timespan_text_run_2_b; simp only [nats]) (fun _ => rfl) (by kernel_rfl) (by kernel_rfl) (ai (snd_in [0, 1, 5] (timespan_text_run_2_l0_snd n)) trivial)

def timespan_unit_j7_b (n : Nat) (x3 : Str) (R : Type) (K : (Bool) → Option R) : Option R := cond (x3 == ([117, 115] : Str)) (K true) (K (x3 == ([117, 115, 101, 99] : Str)))
def timespan_unit_j7 (n : Nat) (x3 : Str) : Option ((Bool)) := timespan_unit_j7_b n x3 _ some
def timespan_unit_j7_d : St → Option ((Str) × ((List AObj)))
  | ⟨[(3, .str x3)], H⟩ => some (x3, H)
  | _ => none
def timespan_unit_j7_t (v : Str) (w : (List AObj)) : St := ⟨[(3, .str v)], w⟩
def timespan_unit_j7_k (v : Str) (o : (Bool)) (w : (List AObj)) (R : Type) (K : AExit → St → Option R) : Option R := K .normal ⟨[(3, .str v), (4, .bool o)], w⟩
def timespan_unit_j7_x (n : Nat) : Ex := xOf timespan_unit_j7_d (fun v => timespan_unit_j7 n v) timespan_unit_j7_k
def timespan_unit_j6_b (n : Nat) (x3 : Str) (R : Type) (K : (Bool) → Option R) : Option R := cond (x3 == ([109, 115] : Str)) (K true) (K (x3 == ([109, 115, 101, 99] : Str)))
def timespan_unit_j6 (n : Nat) (x3 : Str) : Option ((Bool)) := timespan_unit_j6_b n x3 _ some
def timespan_unit_j6_d : St → Option ((Str) × ((List AObj)))
  | ⟨[(3, .str x3)], H⟩ => some (x3, H)
  | _ => none
def timespan_unit_j6_t (v : Str) (w : (List AObj)) : St := ⟨[(3, .str v)], w⟩
def timespan_unit_j6_k (v : Str) (o : (Bool)) (w : (List AObj)) (R : Type) (K : AExit → St → Option R) : Option R := K .normal ⟨[(3, .str v), (7, .bool o)], w⟩
def timespan_unit_j6_x (n : Nat) : Ex := xOf timespan_unit_j6_d (fun v => timespan_unit_j6 n v) timespan_unit_j6_k
def timespan_unit_j5_b (n : Nat) (x3 : Str) (R : Type) (K : (Bool) → Option R) : Option R := cond (x3 == ([] : Str)) (K true) (cond (x3 == ([115] : Str)) (K true) (cond (x3 == ([115, 101, 99] : Str)) (K true) (cond (x3 == ([115, 101, 99, 111, 110, 100] : Str)) (K true) (K (x3 == ([115, 101, 99, 111, 110, 100, 115] : Str))))))
def timespan_unit_j5 (n : Nat) (x3 : Str) : Option ((Bool)) := timespan_unit_j5_b n x3 _ some
def timespan_unit_j5_d : St → Option ((Str) × ((List AObj)))
  | ⟨[(3, .str x3)], H⟩ => some (x3, H)
  | _ => none
def timespan_unit_j5_t (v : Str) (w : (List AObj)) : St := ⟨[(3, .str v)], w⟩
def timespan_unit_j5_k (v : Str) (o : (Bool)) (w : (List AObj)) (R : Type) (K : AExit → St → Option R) : Option R := K .normal ⟨[(3, .str v), (10, .bool o)], w⟩
def timespan_unit_j5_x (n : Nat) : Ex := xOf timespan_unit_j5_d (fun v => timespan_unit_j5 n v) timespan_unit_j5_k
def timespan_unit_j4_b (n : Nat) (x3 : Str) (R : Type) (K : (Bool) → Option R) : Option R := cond (x3 == ([109] : Str)) (K true) (cond (x3 == ([109, 105, 110] : Str)) (K true) (cond (x3 == ([109, 105, 110, 117, 116, 101] : Str)) (K true) (K (x3 == ([109, 105, 110, 117, 116, 101, 115] : Str)))))
def timespan_unit_j4 (n : Nat) (x3 : Str) : Option ((Bool)) := timespan_unit_j4_b n x3 _ some
def timespan_unit_j4_d : St → Option ((Str) × ((List AObj)))
  | ⟨[(3, .str x3)], H⟩ => some (x3, H)
  | _ => none
def timespan_unit_j4_t (v : Str) (w : (List AObj)) : St := ⟨[(3, .str v)], w⟩
def timespan_unit_j4_k (v : Str) (o : (Bool)) (w : (List AObj)) (R : Type) (K : AExit → St → Option R) : Option R := K .normal ⟨[(3, .str v), (16, .bool o)], w⟩
def timespan_unit_j4_x (n : Nat) : Ex := xOf timespan_unit_j4_d (fun v => timespan_unit_j4 n v) timespan_unit_j4_k
def timespan_unit_j3_b (n : Nat) (x3 : Str) (R : Type) (K : (Bool) → Option R) : Option R := cond (x3 == ([104] : Str)) (K true) (cond (x3 == ([104, 114] : Str)) (K true) (cond (x3 == ([104, 111, 117, 114] : Str)) (K true) (K (x3 == ([104, 111, 117, 114, 115] : Str)))))
def timespan_unit_j3 (n : Nat) (x3 : Str) : Option ((Bool)) := timespan_unit_j3_b n x3 _ some
def timespan_unit_j3_d : St → Option ((Str) × ((List AObj)))
  | ⟨[(3, .str x3)], H⟩ => some (x3, H)
  | _ => none
def timespan_unit_j3_t (v : Str) (w : (List AObj)) : St := ⟨[(3, .str v)], w⟩
def timespan_unit_j3_k (v : Str) (o : (Bool)) (w : (List AObj)) (R : Type) (K : AExit → St → Option R) : Option R := K .normal ⟨[(3, .str v), (21, .bool o)], w⟩
def timespan_unit_j3_x (n : Nat) : Ex := xOf timespan_unit_j3_d (fun v => timespan_unit_j3 n v) timespan_unit_j3_k
def timespan_unit_j2_b (n : Nat) (x3 : Str) (R : Type) (K : (Bool) → Option R) : Option R := cond (x3 == ([100] : Str)) (K true) (cond (x3 == ([100, 97, 121] : Str)) (K true) (K (x3 == ([100, 97, 121, 115] : Str))))
def timespan_unit_j2 (n : Nat) (x3 : Str) : Option ((Bool)) := timespan_unit_j2_b n x3 _ some
def timespan_unit_j2_d : St → Option ((Str) × ((List AObj)))
  | ⟨[(3, .str x3)], H⟩ => some (x3, H)
  | _ => none
def timespan_unit_j2_t (v : Str) (w : (List AObj)) : St := ⟨[(3, .str v)], w⟩
def timespan_unit_j2_k (v : Str) (o : (Bool)) (w : (List AObj)) (R : Type) (K : AExit → St → Option R) : Option R := K .normal ⟨[(3, .str v), (26, .bool o)], w⟩
def timespan_unit_j2_x (n : Nat) : Ex := xOf timespan_unit_j2_d (fun v => timespan_unit_j2 n v) timespan_unit_j2_k
def timespan_unit_j1_b (n : Nat) (x3 : Str) (R : Type) (K : (Bool) → Option R) : Option R := cond (x3 == ([119] : Str)) (K true) (cond (x3 == ([119, 101, 101, 107] : Str)) (K true) (K (x3 == ([119, 101, 101, 107, 115] : Str))))
def timespan_unit_j1 (n : Nat) (x3 : Str) : Option ((Bool)) := timespan_unit_j1_b n x3 _ some
def timespan_unit_j1_d : St → Option ((Str) × ((List AObj)))
  | ⟨[(3, .str x3)], H⟩ => some (x3, H)
  | _ => none
def timespan_unit_j1_t (v : Str) (w : (List AObj)) : St := ⟨[(3, .str v)], w⟩
def timespan_unit_j1_k (v : Str) (o : (Bool)) (w : (List AObj)) (R : Type) (K : AExit → St → Option R) : Option R := K .normal ⟨[(3, .str v), (30, .bool o)], w⟩
def timespan_unit_j1_x (n : Nat) : Ex := xOf timespan_unit_j1_d (fun v => timespan_unit_j1 n v) timespan_unit_j1_k
def timespan_unit_j0_b (n : Nat) (x3 : Str) (R : Type) (K : (Bool) → Option R) : Option R := cond (x3 == ([77] : Str)) (K true) (cond (x3 == ([109, 111, 110, 116, 104] : Str)) (K true) (K (x3 == ([109, 111, 110, 116, 104, 115] : Str))))
def timespan_unit_j0 (n : Nat) (x3 : Str) : Option ((Bool)) := timespan_unit_j0_b n x3 _ some
def timespan_unit_j0_d : St → Option ((Str) × ((List AObj)))
  | ⟨[(3, .str x3)], H⟩ => some (x3, H)
  | _ => none
def timespan_unit_j0_t (v : Str) (w : (List AObj)) : St := ⟨[(3, .str v)], w⟩
def timespan_unit_j0_k (v : Str) (o : (Bool)) (w : (List AObj)) (R : Type) (K : AExit → St → Option R) : Option R := K .normal ⟨[(3, .str v), (34, .bool o)], w⟩
def timespan_unit_j0_x (n : Nat) : Ex := xOf timespan_unit_j0_d (fun v => timespan_unit_j0 n v) timespan_unit_j0_k
theorem timespan_unit_j7_snd (n : Nat) : Snd ⟨Tryd.prog, 0, 42⟩ (timespan_unit_j7_x n) (Tryd.f24.body.getD .skip).a2.a1.a2.a1.a1 := snd_sub (t := timespan_unit_j7_t) (b := fun v R K => timespan_unit_j7_b n v R K) (m := (fun e => match e with | .normal => ([3, 4], none) | _ => ([], none))) .a (by intro s v w h; unfold timespan_unit_j7_d at h; split at h <;> first | (cases h; rfl) | cases h) (fun _ _ _ _ => by kernel_rfl) (by intros; unfold timespan_unit_j7_b; simp only [nats]) (fun _ => rfl) (by intro e n h; split at h <;> cases h) (by kernel_rfl) (by kernel_rfl) trivial
theorem timespan_unit_j6_snd (n : Nat) : Snd ⟨Tryd.prog, 0, 42⟩ (timespan_unit_j6_x n) (Tryd.f24.body.getD .skip).a2.a1.a2.a1.a2.a2.a1 := snd_sub (t := timespan_unit_j6_t) (b := fun v R K => timespan_unit_j6_b n v R K) (m := (fun e => match e with | .normal => ([3, 7], none) | _ => ([], none))) .a (by intro s v w h; unfold timespan_unit_j6_d at h; split at h <;> first | (cases h; rfl) | cases h) (fun _ _ _ _ => by kernel_rfl) (by intros; unfold timespan_unit_j6_b; simp only [nats]) (fun _ => rfl) (by intro e n h; split at h <;> cases h) (by kernel_rfl) (by kernel_rfl) trivial
theorem timespan_unit_j5_snd (n : Nat) : Snd ⟨Tryd.prog, 0, 42⟩ (timespan_unit_j5_x n) (Tryd.f24.body.getD .skip).a2.a1.a2.a1.a2.a2.a2.a2.a1 := snd_sub (t := timespan_unit_j5_t) (b := fun v R K => timespan_unit_j5_b n v R K) (m := (fun e => match e with | .normal => ([3, 10], none) | _ => ([], none))) .a (by intro s v w h; unfold timespan_unit_j5_d at h; split at h <;> first | (cases h; rfl) | cases h) (fun _ _ _ _ => by kernel_rfl) (by intros; unfold timespan_unit_j5_b; simp only [nats]) (fun _ => rfl) (by intro e n h; split at h <;> cases h) (by kernel_rfl) (by kernel_rfl) trivial
theorem timespan_unit_j4_snd (n : Nat) : Snd ⟨Tryd.prog, 0, 42⟩ (timespan_unit_j4_x n) (Tryd.f24.body.getD .skip).a2.a1.a2.a1.a2.a2.a2.a2.a2.a2.a1 := snd_sub (t := timespan_unit_j4_t) (b := fun v R K => timespan_unit_j4_b n v R K) (m := (fun e => match e with | .normal => ([3, 16], none) | _ => ([], none))) .a (by intro s v w h; unfold timespan_unit_j4_d at h; split at h <;> first | (cases h; rfl) | cases h) (fun _ _ _ _ => by kernel_rfl) (by intros; unfold timespan_unit_j4_b; simp only [nats]) (fun _ => rfl) (by intro e n h; split at h <;> cases h) (by kernel_rfl) (by kernel_rfl) trivial
theorem timespan_unit_j3_snd (n : Nat) : Snd ⟨Tryd.prog, 0, 42⟩ (timespan_unit_j3_x n) (Tryd.f24.body.getD .skip).a2.a1.a2.a1.a2.a2.a2.a2.a2.a2.a2.a2.a1 := snd_sub (t := timespan_unit_j3_t) (b := fun v R K => timespan_unit_j3_b n v R K) (m := (fun e => match e with | .normal => ([3, 21], none) | _ => ([], none))) .a (by intro s v w h; unfold timespan_unit_j3_d at h; split at h <;> first | (cases h; rfl) | cases h) (fun _ _ _ _ => by kernel_rfl) (by intros; unfold timespan_unit_j3_b; simp only [nats]) (fun _ => rfl) (by intro e n h; split at h <;> cases h) (by kernel_rfl) (by kernel_rfl) trivial
theorem timespan_unit_j2_snd (n : Nat) : Snd ⟨Tryd.prog, 0, 42⟩ (timespan_unit_j2_x n) (Tryd.f24.body.getD .skip).a2.a1.a2.a1.a2.a2.a2.a2.a2.a2.a2.a2.a2.a2.a1 := snd_sub (t := timespan_unit_j2_t) (b := fun v R K => timespan_unit_j2_b n v R K) (m := (fun e => match e with | .normal => ([3, 26], none) | _ => ([], none))) .a (by intro s v w h; unfold timespan_unit_j2_d at h; split at h <;> first | (cases h; rfl) | cases h) (fun _ _ _ _ => by kernel_rfl) (by intros; unfold timespan_unit_j2_b; simp only [nats]) (fun _ => rfl) (by intro e n h; split at h <;> cases h) (by kernel_rfl) (by kernel_rfl) trivial
theorem timespan_unit_j1_snd (n : Nat) : Snd ⟨Tryd.prog, 0, 42⟩ (timespan_unit_j1_x n) (Tryd.f24.body.getD .skip).a2.a1.a2.a1.a2.a2.a2.a2.a2.a2.a2.a2.a2.a2.a2.a2.a1 := snd_sub (t := timespan_unit_j1_t) (b := fun v R K => timespan_unit_j1_b n v R K) (m := (fun e => match e with | .normal => ([3, 30], none) | _ => ([], none))) .a (by intro s v w h; unfold timespan_unit_j1_d at h; split at h <;> first | (cases h; rfl) | cases h) (fun _ _ _ _ => by kernel_rfl) (by intros; unfold timespan_unit_j1_b; simp only [nats]) (fun _ => rfl) (by intro e n h; split at h <;> cases h) (by kernel_rfl) (by kernel_rfl) trivial
theorem timespan_unit_j0_snd (n : Nat) : Snd ⟨Tryd.prog, 0, 42⟩ (timespan_unit_j0_x n) (Tryd.f24.body.getD .skip).a2.a1.a2.a1.a2.a2.a2.a2.a2.a2.a2.a2.a2.a2.a2.a2.a2.a2.a1 := snd_sub (t := timespan_unit_j0_t) (b := fun v R K => timespan_unit_j0_b n v R K) (m := (fun e => match e with | .normal => ([3, 34], none) | _ => ([], none))) .a (by intro s v w h; unfold timespan_unit_j0_d at h; split at h <;> first | (cases h; rfl) | cases h) (fun _ _ _ _ => by kernel_rfl) (by intros; unfold timespan_unit_j0_b; simp only [nats]) (fun _ => rfl) (by intro e n h; split at h <;> cases h) (by kernel_rfl) (by kernel_rfl) trivial
def timespan_unit_b (n : Nat) (a0 : Str) (R : Type) (K : Int → Option R) : Option R := (timespan_unit_j7 n a0).bind fun o26 => (cond o26 (K (1 : Int)) ((timespan_unit_j6 n a0).bind fun o27 => (cond o27 (K (1000 : Int)) ((timespan_unit_j5 n a0).bind fun o28 => (cond o28 (K (1000000 : Int)) ((timespan_unit_j4 n a0).bind fun o29 => (cond o29 (K (60000000 : Int)) ((timespan_unit_j3 n a0).bind fun o30 => (cond o30 (K (3600000000 : Int)) ((timespan_unit_j2 n a0).bind fun o31 => (cond o31 (K (86400000000 : Int)) ((timespan_unit_j1 n a0).bind fun o32 => (cond o32 (K (604800000000 : Int)) ((timespan_unit_j0 n a0).bind fun o33 => (cond o33 (K (2629800000000 : Int)) (cond (a0 == ([121] : Str)) (K (31557600000000 : Int)) (cond (a0 == ([121, 101, 97, 114] : Str)) (K (31557600000000 : Int)) (cond (a0 == ([121, 101, 97, 114, 115] : Str)) (K (31557600000000 : Int)) (K (0 : Int))))))))))))))))))))
def timespan_unit_f (n : Nat) (a0 : Str) : Option (Int) := timespan_unit_b n a0 _ some
def timespan_unit_p : List AV → List AObj → Option (Str)
  | [.str a0], [] => some a0
  | _, _ => none
def timespan_unit_sp (n : Nat) : FSpec := spOf timespan_unit_p (fun v => timespan_unit_f n v) (fun o => .int .i64 o) (fun o => [])
theorem timespan_unit_sound (n : Nat) : FSound Tryd.prog 24 (timespan_unit_sp n) := fsound_R (t := fun v => ⟨[(0, .str v)], []⟩) (b := fun v R K => timespan_unit_b n v R K) (nt := 42) (n := some 0) (rs := [.tmp 2]) (.s .a (.s (.s .a (.u (.s (.p (emaskIn ([3], none) (timespan_unit_j7_x n))) (.s .a (.s (.p (emaskIn ([3], none) (timespan_unit_j6_x n))) (.s .a (.s (.p (emaskIn ([3], none) (timespan_unit_j5_x n))) (.s .a (.s (.p (emaskIn ([3], none) (timespan_unit_j4_x n))) (.s .a (.s (.p (emaskIn ([3], none) (timespan_unit_j3_x n))) (.s .a (.s (.p (emaskIn ([3], none) (timespan_unit_j2_x n))) (.s .a (.s (.p (emaskIn ([3], none) (timespan_unit_j1_x n))) (.s .a (.s (.p (emaskIn ([3], none) (timespan_unit_j0_x n))) .a))))))))))))))))) .a)) Tryd.func24 (by kernel_rfl) rfl rfl rfl (fun _ h => by injection h with h; exact h.symm) (by decide) (by kernel_rfl) (by intro s v w h; unfold timespan_unit_p at h; split at h <;> first | (cases h; exact ⟨Nat.le_of_ble_eq_true rfl, rfl, rfl⟩) | cases h) (fun _ _ _ => by kernel_rfl) (by intros; unfold timespan_unit_b; simp only [nats]) (fun _ => rfl) (by kernel_rfl) (by kernel_rfl) (ai (snd_in [3] (timespan_unit_j7_snd n)) (ai (snd_in [3] (timespan_unit_j6_snd n)) (ai (snd_in [3] (timespan_unit_j5_snd n)) (ai (snd_in [3] (timespan_unit_j4_snd n)) (ai (snd_in [3] (timespan_unit_j3_snd n)) (ai (snd_in [3] (timespan_unit_j2_snd n)) (ai (snd_in [3] (timespan_unit_j1_snd n)) (ai (snd_in [3] (timespan_unit_j0_snd n)) trivial))))))))

def timespan_text_part_j0_b (n : Nat) (x5 : Str) (R : Type) (K : (Bool) → Option R) : Option R := cond (x5 == ([] : Str)) (K true) (K (decide ((x5.length : Int) > (6 : Int))))
def timespan_text_part_j0 (n : Nat) (x5 : Str) : Option ((Bool)) := timespan_text_part_j0_b n x5 _ some
def timespan_text_part_j0_d : St → Option ((Str) × (AV × AV × AV × (List AObj)))
  | ⟨[(0, p0), (2, p2), (4, p4), (5, .str x5)], H⟩ => some (x5, (p0, p2, p4, H))
  | _ => none
def timespan_text_part_j0_t (v : Str) (w : AV × AV × AV × (List AObj)) : St := ⟨[(0, w.1), (2, w.2.1), (4, w.2.2.1), (5, .str v)], w.2.2.2⟩
def timespan_text_part_j0_k (v : Str) (o : (Bool)) (w : AV × AV × AV × (List AObj)) (R : Type) (K : AExit → St → Option R) : Option R := K .normal ⟨[(0, w.1), (2, w.2.1), (4, w.2.2.1), (5, .str v), (31, .bool o)], w.2.2.2⟩
def timespan_text_part_j0_x (n : Nat) : Ex := xOf timespan_text_part_j0_d (fun v => timespan_text_part_j0 n v) timespan_text_part_j0_k
def timespan_text_part_j1_b (n : Nat) (h0_0 h1_0 : Str) (h1_1 h1_2 : Int) (h2_0 : Str) (h2_1 h2_2 : Int) (R : Type) (K : ((Str × Str × Int × Int × Str × Int × Int) ⊕ (Str × Str × Int × Int × Str × Int × Int)) → Option R) : Option R := (strings_HasPrefix_f n h0_0 ([46] : Str)).bind fun o7 => (cond o7 (cond (decide ((1 : Int) ≤ (h0_0.length : Int))) ((timespan_text_run_f n (h0_0.drop 1)).bind fun o8 => ((timespan_text_part_j0 n o8.1).bind fun o9 => (cond o9 (K (Sum.inl (o8.2, h2_0, h2_1, h2_2, h2_0, h2_1, h2_2))) ((strings_Repeat_f n ([48] : Str) (IntKind.i64.wrap ((6 : Int) - (o8.1.length : Int)))).bind fun o10 => (cond (decide (o8.1.length + o10.length ≤ 9223372036854775807)) ((strconv_ParseInt_f n (o8.1 ++ o10) (10 : Int) (64 : Int)).bind fun o11 => (cond o11.2 (K (Sum.inr (o8.2, h1_0, h1_1, h1_2, h2_0, o11.1, h2_2))) (K (Sum.inr (o8.2, h1_0, h1_1, h1_2, h2_0, o11.1, h2_2))))) none))))) none) (K (Sum.inr (h0_0, h1_0, h1_1, h1_2, h2_0, h2_1, h2_2))))
def timespan_text_part_j1 (n : Nat) (h0_0 h1_0 : Str) (h1_1 h1_2 : Int) (h2_0 : Str) (h2_1 h2_2 : Int) : Option ((Str × Str × Int × Int × Str × Int × Int) ⊕ (Str × Str × Int × Int × Str × Int × Int)) := timespan_text_part_j1_b n h0_0 h1_0 h1_1 h1_2 h2_0 h2_1 h2_2 _ some
def timespan_text_part_j1_d : St → Option ((Str × Str × Int × Int × Str × Int × Int) × (Unit))
  | ⟨[(0, .ptr (some (0, 0))), (2, .ptr (some (1, 0))), (4, .ptr (some (2, 0)))], [.cells 39 [.str h0_0], .cells 43 [.str h1_0, .int .i64 h1_1, .int .i64 h1_2], .cells 43 [.str h2_0, .int .i64 h2_1, .int .i64 h2_2]]⟩ => some ((h0_0, h1_0, h1_1, h1_2, h2_0, h2_1, h2_2), ())
  | _ => none
def timespan_text_part_j1_t (v : Str × Str × Int × Int × Str × Int × Int) (w : Unit) : St := ⟨[(0, .ptr (some (0, 0))), (2, .ptr (some (1, 0))), (4, .ptr (some (2, 0)))], [.cells 39 [.str v.1], .cells 43 [.str v.2.1, .int .i64 v.2.2.1, .int .i64 v.2.2.2.1], .cells 43 [.str v.2.2.2.2.1, .int .i64 v.2.2.2.2.2.1, .int .i64 v.2.2.2.2.2.2]]⟩
def timespan_text_part_j1_k (v : Str × Str × Int × Int × Str × Int × Int) (o : (Str × Str × Int × Int × Str × Int × Int) ⊕ (Str × Str × Int × Int × Str × Int × Int)) (w : Unit) (R : Type) (K : AExit → St → Option R) : Option R := Sum.elim (fun (u0 : Str × Str × Int × Int × Str × Int × Int) => K .ret ⟨[(2, .ptr (some (1, 0))), (3, .bool false)], [.cells 39 [.str u0.1], .cells 43 [.str u0.2.1, .int .i64 u0.2.2.1, .int .i64 u0.2.2.2.1], .cells 43 [.str u0.2.2.2.2.1, .int .i64 u0.2.2.2.2.2.1, .int .i64 u0.2.2.2.2.2.2]]⟩) (fun (v0 : (Str × Str × Int × Int × Str × Int × Int)) => K .normal ⟨[(0, .ptr (some (0, 0))), (2, .ptr (some (1, 0))), (4, .ptr (some (2, 0)))], [.cells 39 [.str v0.1], .cells 43 [.str v0.2.1, .int .i64 v0.2.2.1, .int .i64 v0.2.2.2.1], .cells 43 [.str v0.2.2.2.2.1, .int .i64 v0.2.2.2.2.2.1, .int .i64 v0.2.2.2.2.2.2]]⟩) o
def timespan_text_part_j1_x (n : Nat) : Ex := xOf timespan_text_part_j1_d (fun v => timespan_text_part_j1 n v.1 v.2.1 v.2.2.1 v.2.2.2.1 v.2.2.2.2.1 v.2.2.2.2.2.1 v.2.2.2.2.2.2) timespan_text_part_j1_k
theorem timespan_text_part_j0_snd (n : Nat) : Snd ⟨Tryd.prog, 1, 54⟩ (timespan_text_part_j0_x n) (Tryd.f18.body.getD .skip).a2.a2.a2.a1.a2.a1.a2.a2.a1.a1 := snd_sub (t := timespan_text_part_j0_t) (b := fun v R K => timespan_text_part_j0_b n v R K) (m := (fun e => match e with | .normal => ([0, 2, 4, 5, 31], none) | _ => ([], none))) .a (by intro s v w h; unfold timespan_text_part_j0_d at h; split at h <;> first | (cases h; rfl) | cases h) (fun _ _ _ _ => by kernel_rfl) (by intros; unfold timespan_text_part_j0_b; simp only [nats]) (fun _ => rfl) (by intro e n h; split at h <;> cases h) (by kernel_rfl) (by kernel_rfl) trivial
theorem timespan_text_part_j1_snd (n : Nat) : Snd ⟨Tryd.prog, 1, 54⟩ (timespan_text_part_j1_x n) (Tryd.f18.body.getD .skip).a2.a2.a2.a1 := snd_sub (t := timespan_text_part_j1_t) (b := fun v R K => timespan_text_part_j1_b n v.1 v.2.1 v.2.2.1 v.2.2.2.1 v.2.2.2.2.1 v.2.2.2.2.2.1 v.2.2.2.2.2.2 R K) (m := (fun e => match e with | .ret => ([2, 3], none) | .normal => ([0, 2, 4], none) | _ => ([], none))) (.s (.r [(3, .cl 37 (strings_HasPrefix_sp n))]) (.s (.s .a (.s (.r [(1, .cl 16 (timespan_text_run_sp n))]) (.s (.s (.p (emaskIn ([0, 2, 4, 5], none) (timespan_text_part_j0_x n))) .a) (.r [(4, .cl 39 (strings_Repeat_sp n)), (6, .cl 38 (strconv_ParseInt_sp n)), (9, .tk [33])])))) .a)) (by intro s v w h; unfold timespan_text_part_j1_d at h; split at h <;> first | (cases h; rfl) | cases h) (fun _ _ _ _ => by kernel_rfl) (by intros; unfold timespan_text_part_j1_b; simp only [nats]) (fun _ => rfl) (by intro e n h; split at h <;> cases h) (by kernel_rfl) (by kernel_rfl) (ai (strings_HasPrefix_sound n) (ai (timespan_text_run_sound n) (ai (snd_in [0, 2, 4, 5] (timespan_text_part_j0_snd n)) (ai (strings_Repeat_sound n) (ai (strconv_ParseInt_sound n) trivial)))))
def timespan_text_part_b (n : Nat) (h0 : Str) (R : Type) (K : (Str × Int × Int × Bool × Str) → Option R) : Option R := (timespan_text_run_f n h0).bind fun o6 => (cond (o6.1 == ([] : Str)) (K (o6.1, (0 : Int), (0 : Int), false, o6.2)) ((timespan_text_part_j1 n o6.2 ([] : Str) (0 : Int) (0 : Int) o6.1 (0 : Int) (0 : Int)).bind fun o12 => (Sum.elim (fun o13 => K (o13.2.1, o13.2.2.1, o13.2.2.2.1, false, o13.1)) (fun o14 => (timespan_text_run_1_f n o14.1).bind fun o20 => ((timespan_text_run_2_f n o20.2).bind fun o25 => ((timespan_unit_f n o25.1).bind fun o34 => (K (o14.2.2.2.2.1, o14.2.2.2.2.2.1, o34, decide (o34 > (0 : Int)), o25.2))))) o12)))
def timespan_text_part_f (n : Nat) (h0 : Str) : Option (Str × Int × Int × Bool × Str) := timespan_text_part_b n h0 _ some
def timespan_text_part_p : List AV → List AObj → Option (Str)
  | [.ptr (some (0, 0))], [.cells 39 [.str h0]] => some h0
  | _, _ => none
def timespan_text_part_sp (n : Nat) : FSpec := spOf timespan_text_part_p (fun v => timespan_text_part_f n v) (fun o => .tuple [.agg [.str o.1, .int .i64 o.2.1, .int .i64 o.2.2.1], .bool o.2.2.2.1]) (fun o => [.cells 39 [.str o.2.2.2.2]])
theorem timespan_text_part_sound (n : Nat) : FSound Tryd.prog 18 (timespan_text_part_sp n) := fsound_R (t := fun v => ⟨[(0, .ptr (some (0, 0)))], [.cells 39 [.str v]]⟩) (b := fun v R K => timespan_text_part_b n v R K) (nt := 54) (n := some 1) (rs := [.cell 2 43 3 true, .tmp 3]) (.s .a (.s (.r [(1, .cl 16 (timespan_text_run_sp n))]) (.s .a (.s (.p (emaskIn ([0, 2, 4], none) (timespan_text_part_j1_x n))) (.s (.r [(1, .cl 16 (timespan_text_run_1_sp n))]) (.s (.r [(1, .cl 16 (timespan_text_run_2_sp n)), (2, .cl 24 (timespan_unit_sp n))]) (.s (.d [] [(0, .part [2]), (1, .part [2]), (2, .part [2]), (4, .part [1])]) .a))))))) Tryd.func18 (by kernel_rfl) rfl rfl rfl (fun _ h => by injection h with h; exact h.symm) (by decide) (by kernel_rfl) (by intro s v w h; unfold timespan_text_part_p at h; split at h <;> first | (cases h; exact ⟨Nat.le_of_ble_eq_true rfl, rfl, rfl⟩) | cases h) (fun _ _ _ => by kernel_rfl) (by intros; unfold timespan_text_part_b; simp only [nats]) (fun _ => rfl) (by kernel_rfl) (by kernel_rfl) (ai (timespan_text_run_sound n) (ai (snd_in [0, 2, 4] (timespan_text_part_j1_snd n)) (ai (timespan_text_run_1_sound n) (ai (timespan_text_run_2_sound n) (ai (timespan_unit_sound n) trivial)))))

def usec_size_b (n : Nat) (a0 : Int) (R : Type) (K : Int → Option R) : Option R := cond (decide (a0 < (0 : Int))) (K (IntKind.u64.wrap (0 - (IntKind.u64.wrap a0)))) (K (IntKind.u64.wrap a0))
def usec_size_f (n : Nat) (a0 : Int) : Option (Int) := usec_size_b n a0 _ some
def usec_size_p : List AV → List AObj → Option (Int)
  | [.int .i64 a0], [] => some a0
  | _, _ => none
def usec_size_sp (n : Nat) : FSpec := spOf usec_size_p (fun v => usec_size_f n v) (fun o => .int .u64 o) (fun o => [])
theorem usec_size_sound (n : Nat) : FSound Tryd.prog 61 (usec_size_sp n) := fsound_R (t := fun v => ⟨[(0, .int .i64 v)], []⟩) (b := fun v R K => usec_size_b n v R K) (nt := 10) (n := some 0) (rs := [.tmp 2]) .a Tryd.func61 (by kernel_rfl) rfl rfl rfl (fun _ h => by injection h with h; exact h.symm) (by decide) (by kernel_rfl) (by intro s v w h; unfold usec_size_p at h; split at h <;> first | (cases h; exact ⟨Nat.le_of_ble_eq_true rfl, rfl, rfl⟩) | cases h) (fun _ _ _ => by kernel_rfl) (by intros; unfold usec_size_b; simp only [nats]) (fun _ => rfl) (by kernel_rfl) (by kernel_rfl) trivial

def bits_Mul64_f (n : Nat) (a0 a1 : Int) : Option (Int × Int) := cond (decide (0 ≤ a0) && decide (a0 < 18446744073709551616) && decide (0 ≤ a1) && decide (a1 < 18446744073709551616)) (some (a0 * a1 / 18446744073709551616, a0 * a1 % 18446744073709551616)) none
def bits_Mul64_sp (n : Nat) : FSpec := fun vs hs R K => match vs with
  | [.int .u64 a0, .int .u64 a1] => (bits_Mul64_f n a0 a1).bind fun o => K (.tuple [.int .u64 o.1, .int .u64 o.2]) hs
  | _ => none
theorem bits_Mul64_sound (n : Nat) : FSound Tryd.prog 60 (bits_Mul64_sp n) := fsound_below (enters_of Tryd.func60 (by kernel_rfl) rfl) fun args H R k r h => by
  unfold bits_Mul64_sp at h
  split at h
  · rename_i a0 a1
    obtain ⟨o, h2, h9⟩ := Option.bind_eq_some_iff.1 h
    unfold bits_Mul64_f at h2
    obtain ⟨h3, h8⟩ | ⟨_, h8⟩ := cond_some h2
    · injection h8 with h8
      clear h h2
      simp only [Bool.and_eq_true, decide_eq_true_eq] at h3
      obtain ⟨⟨⟨h4, h5⟩, h6⟩, h7⟩ := h3
      obtain ⟨x, rfl⟩ : ∃ x : Nat, a0 = (x : Int) := ⟨a0.toNat, by omega⟩
      obtain ⟨y, rfl⟩ : ∃ y : Nat, a1 = (y : Int) := ⟨a1.toNat, by omega⟩
      refine ⟨_, h9, fun g w vs hl hv => ?_⟩
      obtain ⟨v0, _, rfl, h0, hv⟩ := vrs_cons hv
      obtain ⟨v1, _, rfl, h1, hv⟩ := vrs_cons hv
      obtain rfl := vrs_nil hv
      obtain rfl := vr_int h0
      obtain rfl := vr_int h1
      subst h8
      refine ⟨.tuple #[.int .u64 ((x * y / 18446744073709551616 : Nat) : Int), .int .u64 ((x * y % 18446744073709551616 : Nat) : Int)], rfl, fun g w => ?_, (Tryd.bits_Mul64 x y (by omega) (by omega) w).mono ?_⟩
      · simp only [VR]
        exact ⟨_, rfl, by simp only [VRs, VR]; exact ⟨_, _, rfl, by simp, _, _, rfl, by simp, rfl⟩⟩
      · rintro e w' ⟨rfl, rfl⟩
        exact ⟨rfl, Below.refl _ _⟩
    · cases h8
  · cases h

def usec_minus_b (n : Nat) (a0 : Int) (R : Type) (K : Int → Option R) : Option R := K (Int.fdiv (IntKind.u64.wrap a0) (2 ^ 63))
def usec_minus_f (n : Nat) (a0 : Int) : Option (Int) := usec_minus_b n a0 _ some
def usec_minus_p : List AV → List AObj → Option (Int)
  | [.int .i64 a0], [] => some a0
  | _, _ => none
def usec_minus_sp (n : Nat) : FSpec := spOf usec_minus_p (fun v => usec_minus_f n v) (fun o => .int .u64 o) (fun o => [])
theorem usec_minus_sound (n : Nat) : FSound Tryd.prog 43 (usec_minus_sp n) := fsound_R (t := fun v => ⟨[(0, .int .i64 v)], []⟩) (b := fun v R K => usec_minus_b n v R K) (nt := 6) (n := some 0) (rs := [.tmp 2]) .a Tryd.func43 (by kernel_rfl) rfl rfl rfl (fun _ h => by injection h with h; exact h.symm) (by decide) (by kernel_rfl) (by intro s v w h; unfold usec_minus_p at h; split at h <;> first | (cases h; exact ⟨Nat.le_of_ble_eq_true rfl, rfl, rfl⟩) | cases h) (fun _ _ _ => by kernel_rfl) (by intros; unfold usec_minus_b; simp only [nats]) (fun _ => rfl) (by kernel_rfl) (by kernel_rfl) trivial

def usec_told_b (n : Nat) (a0 : Int) (a1 : Bool) (R : Type) (K : (Int × Bool) → Option R) : Option R := cond (!a1) (K ((0 : Int), false)) (K (a0, true))
def usec_told_f (n : Nat) (a0 : Int) (a1 : Bool) : Option (Int × Bool) := usec_told_b n a0 a1 _ some
def usec_told_p : List AV → List AObj → Option (Int × Bool)
  | [.int .i64 a0, .bool a1], [] => some (a0, a1)
  | _, _ => none
def usec_told_sp (n : Nat) : FSpec := spOf usec_told_p (fun v => usec_told_f n v.1 v.2) (fun o => .tuple [.int .i64 o.1, .bool o.2]) (fun o => [])
theorem usec_told_sound (n : Nat) : FSound Tryd.prog 42 (usec_told_sp n) := fsound_R (t := fun v => ⟨[(0, .int .i64 v.1), (1, .bool v.2)], []⟩) (b := fun v R K => usec_told_b n v.1 v.2 R K) (nt := 9) (n := some 0) (rs := [.tmp 4, .tmp 5]) .a Tryd.func42 (by kernel_rfl) rfl rfl rfl (fun _ h => by injection h with h; exact h.symm) (by decide) (by kernel_rfl) (by intro s v w h; unfold usec_told_p at h; split at h <;> first | (cases h; exact ⟨Nat.le_of_ble_eq_true rfl, rfl, rfl⟩) | cases h) (fun _ _ _ => by kernel_rfl) (by intros; unfold usec_told_b; simp only [nats]) (fun _ => rfl) (by kernel_rfl) (by kernel_rfl) trivial

def usec_Mul_b (n : Nat) (a0 a1 : Int) (R : Type) (K : (Int × Bool) → Option R) : Option R := (usec_size_f n a0).bind fun o37 => ((usec_size_f n a1).bind fun o38 => ((bits_Mul64_f n o37 o38).bind fun o39 => ((usec_minus_f n a0).bind fun o40 => ((usec_minus_f n a1).bind fun o41 => (cond (o39.1 != (0 : Int)) (K ((0 : Int), false)) (cond (o40 != o41) ((usec_told_f n (IntKind.i64.wrap (IntKind.u64.wrap (0 - o39.2))) (decide (o39.2 ≤ (9223372036854775808 : Int)))).bind fun o42 => (K (o42.1, o42.2))) ((usec_told_f n (IntKind.i64.wrap o39.2) (decide (o39.2 < (9223372036854775808 : Int)))).bind fun o43 => (K (o43.1, o43.2)))))))))
def usec_Mul_f (n : Nat) (a0 a1 : Int) : Option (Int × Bool) := usec_Mul_b n a0 a1 _ some
def usec_Mul_p : List AV → List AObj → Option (Int × Int)
  | [.int .i64 a0, .int .i64 a1], [] => some (a0, a1)
  | _, _ => none
def usec_Mul_sp (n : Nat) : FSpec := spOf usec_Mul_p (fun v => usec_Mul_f n v.1 v.2) (fun o => .tuple [.int .i64 o.1, .bool o.2]) (fun o => [])
theorem usec_Mul_sound (n : Nat) : FSound Tryd.prog 41 (usec_Mul_sp n) := fsound_R (t := fun v => ⟨[(0, .int .i64 v.1), (1, .int .i64 v.2)], []⟩) (b := fun v R K => usec_Mul_b n v.1 v.2 R K) (nt := 42) (n := some 0) (rs := [.tmp 4, .tmp 5]) (.s .a (.s (.r [(1, .cl 61 (usec_size_sp n)), (3, .cl 61 (usec_size_sp n)), (4, .cl 60 (bits_Mul64_sp n)), (7, .tk [9])]) (.s (.r [(1, .cl 43 (usec_minus_sp n)), (3, .cl 43 (usec_minus_sp n))]) (.s (.u (.s .a (.s .a (.s .a (.s (.s (.r [(5, .cl 42 (usec_told_sp n)), (7, .tk [32])]) .a) .a))))) (.s (.r [(4, .cl 42 (usec_told_sp n)), (6, .tk [39])]) .a))))) Tryd.func41 (by kernel_rfl) rfl rfl rfl (fun _ h => by injection h with h; exact h.symm) (by decide) (by kernel_rfl) (by intro s v w h; unfold usec_Mul_p at h; split at h <;> first | (cases h; exact ⟨Nat.le_of_ble_eq_true rfl, rfl, rfl⟩) | cases h) (fun _ _ _ => by kernel_rfl) (by intros; unfold usec_Mul_b; simp only [nats]) (fun _ => rfl) (by kernel_rfl) (by kernel_rfl) (ai (usec_size_sound n) (ai (usec_size_sound n) (ai (bits_Mul64_sound n) (ai (usec_minus_sound n) (ai (usec_minus_sound n) (ai (usec_told_sound n) (ai (usec_told_sound n) trivial)))))))

def usec_Add_b (n : Nat) (a0 a1 : Int) (R : Type) (K : (Int × Bool) → Option R) : Option R := (usec_minus_f n a0).bind fun o45 => ((usec_minus_f n a1).bind fun o46 => (cond (o45 != o46) ((usec_told_f n (IntKind.i64.wrap (a0 + a1)) true).bind fun o47 => (K (o47.1, o47.2))) ((usec_minus_f n (IntKind.i64.wrap (a0 + a1))).bind fun o48 => ((usec_minus_f n a0).bind fun o49 => ((usec_told_f n (IntKind.i64.wrap (a0 + a1)) (o48 == o49)).bind fun o50 => (K (o50.1, o50.2)))))))
def usec_Add_f (n : Nat) (a0 a1 : Int) : Option (Int × Bool) := usec_Add_b n a0 a1 _ some
def usec_Add_p : List AV → List AObj → Option (Int × Int)
  | [.int .i64 a0, .int .i64 a1], [] => some (a0, a1)
  | _, _ => none
def usec_Add_sp (n : Nat) : FSpec := spOf usec_Add_p (fun v => usec_Add_f n v.1 v.2) (fun o => .tuple [.int .i64 o.1, .bool o.2]) (fun o => [])
theorem usec_Add_sound (n : Nat) : FSound Tryd.prog 20 (usec_Add_sp n) := fsound_R (t := fun v => ⟨[(0, .int .i64 v.1), (1, .int .i64 v.2)], []⟩) (b := fun v R K => usec_Add_b n v.1 v.2 R K) (nt := 26) (n := some 0) (rs := [.tmp 4, .tmp 5]) (.s .a (.s .a (.s (.r [(2, .cl 43 (usec_minus_sp n)), (4, .cl 43 (usec_minus_sp n)), (8, .cl 43 (usec_minus_sp n)), (10, .cl 43 (usec_minus_sp n)), (13, .cl 42 (usec_told_sp n)), (15, .tk [23])]) .a))) Tryd.func20 (by kernel_rfl) rfl rfl rfl (fun _ h => by injection h with h; exact h.symm) (by decide) (by kernel_rfl) (by intro s v w h; unfold usec_Add_p at h; split at h <;> first | (cases h; exact ⟨Nat.le_of_ble_eq_true rfl, rfl, rfl⟩) | cases h) (fun _ _ _ => by kernel_rfl) (by intros; unfold usec_Add_b; simp only [nats]) (fun _ => rfl) (by kernel_rfl) (by kernel_rfl) (ai (usec_minus_sound n) (ai (usec_minus_sound n) (ai (usec_minus_sound n) (ai (usec_minus_sound n) (ai (usec_told_sound n) trivial)))))

def timespan_part_long_b (n : Nat) (a0 : Str) (a1 a2 : Int) (R : Type) (K : (Int × Bool) → Option R) : Option R := (strconv_ParseInt_f n a0 (10 : Int) (64 : Int)).bind fun o36 => (cond o36.2 ((usec_Mul_f n o36.1 a2).bind fun o44 => (cond (!o44.2) (K ((0 : Int), false)) ((usec_Add_f n o44.1 (IntKind.i64.wrap ((IntKind.i64.wrap ((IntKind.i64.wrap (Int.tdiv a2 (1000000 : Int))) * a1)) + (IntKind.i64.wrap (Int.tdiv (IntKind.i64.wrap ((Int.tmod a2 (1000000 : Int)) * a1)) (1000000 : Int)))))).bind fun o51 => (K (o51.1, o51.2))))) (K ((0 : Int), false)))
def timespan_part_long_f (n : Nat) (a0 : Str) (a1 a2 : Int) : Option (Int × Bool) := timespan_part_long_b n a0 a1 a2 _ some
def timespan_part_long_p : List AV → List AObj → Option (Str × Int × Int)
  | [.agg [.str a0, .int .i64 a1, .int .i64 a2]], [] => some (a0, a1, a2)
  | _, _ => none
def timespan_part_long_sp (n : Nat) : FSpec := spOf timespan_part_long_p (fun v => timespan_part_long_f n v.1 v.2.1 v.2.2) (fun o => .tuple [.int .i64 o.1, .bool o.2]) (fun o => [])
theorem timespan_part_long_sound (n : Nat) : FSound Tryd.prog 19 (timespan_part_long_sp n) := fsound_R (t := fun v => ⟨[(0, .agg [.str v.1, .int .i64 v.2.1, .int .i64 v.2.2])], []⟩) (b := fun v R K => timespan_part_long_b n v.1 v.2.1 v.2.2 R K) (nt := 44) (n := some 0) (rs := [.tmp 2, .tmp 3]) (.s .a (.s (.r [(2, .cl 38 (strconv_ParseInt_sp n)), (5, .tk [8])]) (.s .a (.s .a (.s (.r [(3, .cl 41 (usec_Mul_sp n)), (6, .tk [30])]) (.s .a (.s (.r [(2, .cl 20 (usec_Add_sp n)), (4, .tk [41])]) .a))))))) Tryd.func19 (by kernel_rfl) rfl rfl rfl (fun _ h => by injection h with h; exact h.symm) (by decide) (by kernel_rfl) (by intro s v w h; unfold timespan_part_long_p at h; split at h <;> first | (cases h; exact ⟨Nat.le_of_ble_eq_true rfl, rfl, rfl⟩) | cases h) (fun _ _ _ => by kernel_rfl) (by intros; unfold timespan_part_long_b; simp only [nats]) (fun _ => rfl) (by kernel_rfl) (by kernel_rfl) (ai (strconv_ParseInt_sound n) (ai (usec_Mul_sound n) (ai (usec_Add_sound n) trivial)))

def timespan_Parse_j0_b (n : Nat) (x5 x10 : Bool) (x11 : Int) (x12 : Bool) (R : Type) (K : (Bool) → Option R) : Option R := cond x5 (cond x10 (cond x12 (K (decide (x11 < (9223372036854775807 : Int)))) (K false)) (K false)) (K false)
def timespan_Parse_j0 (n : Nat) (x5 x10 : Bool) (x11 : Int) (x12 : Bool) : Option ((Bool)) := timespan_Parse_j0_b n x5 x10 x11 x12 _ some
def timespan_Parse_j0_d : St → Option ((Bool × Bool × Int × Bool) × (AV × (List AObj)))
  | ⟨[(5, .bool x5), (6, p6), (10, .bool x10), (11, .int .i64 x11), (12, .bool x12)], H⟩ => some ((x5, x10, x11, x12), (p6, H))
  | _ => none
def timespan_Parse_j0_t (v : Bool × Bool × Int × Bool) (w : AV × (List AObj)) : St := ⟨[(5, .bool v.1), (6, w.1), (10, .bool v.2.1), (11, .int .i64 v.2.2.1), (12, .bool v.2.2.2)], w.2⟩
def timespan_Parse_j0_k (v : Bool × Bool × Int × Bool) (o : (Bool)) (w : AV × (List AObj)) (R : Type) (K : AExit → St → Option R) : Option R := K .normal ⟨[(5, .bool o), (6, w.1), (11, .int .i64 v.2.2.1)], w.2⟩
def timespan_Parse_j0_x (n : Nat) : Ex := xOf timespan_Parse_j0_d (fun v => timespan_Parse_j0 n v.1 v.2.1 v.2.2.1 v.2.2.2) timespan_Parse_j0_k
def timespan_Parse_l0_b (n : Nat) (x4 : Int) (x5 : Bool) (h0_0 : Str) (R : Type) (A_ : Int → Bool → Str → Option R) (K : ((Unit) ⊕ (Int × Bool × Str)) → Option R) : Option R := cond (!(h0_0 == ([] : Str))) ((timespan_text_part_f n h0_0).bind fun o57 => (cond (!o57.2.2.2.1) (K (Sum.inl ())) ((timespan_part_long_f n o57.1 o57.2.1 o57.2.2.1).bind fun o58 => ((usec_Add_f n x4 o58.1).bind fun o59 => ((timespan_Parse_j0 n x5 o58.2 o59.1 o59.2).bind fun o60 => ((timespan_text_run_1_f n o57.2.2.2.2).bind fun o61 => (A_ o59.1 o60 o61.2))))))) (K (Sum.inr (x4, x5, h0_0)))
def timespan_Parse_l0 (n : Nat) : Nat → Int → Bool → Str → Option ((Unit) ⊕ (Int × Bool × Str))
  | 0, _, _, _ => none
  | m + 1, x4, x5, h0_0 => timespan_Parse_l0_b n x4 x5 h0_0 _ (timespan_Parse_l0 n m) some
def timespan_Parse_l0_d : St → Option ((Int × Bool × Str) × (Unit))
  | ⟨[(4, .int .i64 x4), (5, .bool x5), (6, .ptr (some (0, 0)))], [.cells 39 [.str h0_0]]⟩ => some ((x4, x5, h0_0), ())
  | _ => none
def timespan_Parse_l0_t (v : Int × Bool × Str) (w : Unit) : St := ⟨[(4, .int .i64 v.1), (5, .bool v.2.1), (6, .ptr (some (0, 0)))], [.cells 39 [.str v.2.2]]⟩
def timespan_Parse_l0_k (v : Int × Bool × Str) (o : (Unit) ⊕ (Int × Bool × Str)) (w : Unit) (R : Type) (K : AExit → St → Option R) : Option R := Sum.elim (fun (u0 : Unit) => K .ret ⟨[(2, .int .i64 (0 : Int)), (3, .int .i64 (20 : Int))], []⟩) (fun (v0 : (Int × Bool × Str)) => K (.exit 1) ⟨[(4, .int .i64 v0.1), (5, .bool v0.2.1)], [.cells 39 [.str v0.2.2]]⟩) o
def timespan_Parse_l0_x (n : Nat) : Ex := xOf timespan_Parse_l0_d (fun v => timespan_Parse_l0 n n v.1 v.2.1 v.2.2) timespan_Parse_l0_k
theorem timespan_Parse_j0_snd (n : Nat) : Snd ⟨Tryd.prog, 0, 57⟩ (timespan_Parse_j0_x n) (Tryd.f10.body.getD .skip).a2.a2.a2.a2.a1.a2.a1.a1.a2.a1.a1.a2.a2.a2.a2.a1 := snd_sub (t := timespan_Parse_j0_t) (b := fun v R K => timespan_Parse_j0_b n v.1 v.2.1 v.2.2.1 v.2.2.2 R K) (m := (fun e => match e with | .normal => ([5, 6, 11], none) | _ => ([], none))) .a (by intro s v w h; unfold timespan_Parse_j0_d at h; split at h <;> first | (cases h; rfl) | cases h) (fun _ _ _ _ => by kernel_rfl) (by intros; unfold timespan_Parse_j0_b; simp only [nats]) (fun _ => rfl) (by intro e n h; split at h <;> cases h) (by kernel_rfl) (by kernel_rfl) trivial
theorem timespan_Parse_l0_snd (n : Nat) : Snd ⟨Tryd.prog, 0, 57⟩ (timespan_Parse_l0_x n) (Tryd.f10.body.getD .skip).a2.a2.a2.a2.a1.a2.a1 := snd_loop2 (t := timespan_Parse_l0_t) (b := fun v R A K => timespan_Parse_l0_b n v.1 v.2.1 v.2.2 R (fun z0 z1 z2 => A (z0, z1, z2)) K) (f := fun m v => timespan_Parse_l0 n m v.1 v.2.1 v.2.2) (m := (fun e => match e with | .ret => ([2, 3], some 0) | .exit 1 => ([4, 5], none) | .normal => ([4, 5, 6], some 0) | _ => ([], none))) n (.s .a (.s (.u (.s (.r [(0, .cl 18 (timespan_text_part_sp n)), (3, .tk [24])]) (.s .a (.s (.r [(1, .cl 19 (timespan_part_long_sp n)), (4, .tk [30])]) (.s (.r [(2, .cl 20 (usec_Add_sp n)), (5, .tk [35])]) (.s (.p (emaskIn ([5, 6, 10, 11, 12], none) (timespan_Parse_j0_x n))) .a)))))) (.s .a (.r [(0, .cl 16 (timespan_text_run_1_sp n))])))) (by intro s v w h; unfold timespan_Parse_l0_d at h; split at h <;> first | (cases h; rfl) | cases h) (fun _ _ _ _ => by kernel_rfl) (by intros; unfold timespan_Parse_l0_b; simp only [nats]) (fun _ => rfl) (fun _ _ => rfl) (fun _ => rfl) (fun _ _ _ _ _ _ => by kernel_rfl) (fun _ _ _ _ _ _ => by kernel_rfl) (by intro e n h; cases e <;> (first | cases h | (split at h <;> cases h)) <;> rfl) (by kernel_rfl) (by kernel_rfl) (ai (timespan_text_part_sound n) (ai (timespan_part_long_sound n) (ai (usec_Add_sound n) (ai (snd_in [5, 6, 10, 11, 12] (timespan_Parse_j0_snd n)) (ai (timespan_text_run_1_sound n) trivial)))))
def timespan_Parse_b (n : Nat) (a0 : Str) (R : Type) (K : (Int × Int) → Option R) : Option R := (strings_Trim_f n a0 ([32, 9] : Str)).bind fun o56 => (cond (o56 == ([105, 110, 102, 105, 110, 105, 116, 121] : Str)) (K ((9223372036854775807 : Int), (0 : Int))) (cond (o56 == ([] : Str)) (K ((0 : Int), (20 : Int))) ((timespan_Parse_l0 n n (0 : Int) true o56).bind fun o62 => (Sum.elim (fun o63 => K ((0 : Int), (20 : Int))) (fun o64 => cond (!o64.2.1) (K ((0 : Int), (6 : Int))) (K (o64.1, (0 : Int)))) o62))))
def timespan_Parse_f (n : Nat) (a0 : Str) : Option (Int × Int) := timespan_Parse_b n a0 _ some
def timespan_Parse_p : List AV → List AObj → Option (Str)
  | [.str a0], [] => some a0
  | _, _ => none
def timespan_Parse_sp (n : Nat) : FSpec := spOf timespan_Parse_p (fun v => timespan_Parse_f n v) (fun o => .tuple [.int .i64 o.1, .int .i64 o.2]) (fun o => [])
theorem timespan_Parse_sound (n : Nat) : FSound Tryd.prog 10 (timespan_Parse_sp n) := fsound_R (t := fun v => ⟨[(0, .str v)], []⟩) (b := fun v R K => timespan_Parse_b n v R K) (nt := 57) (n := some 0) (rs := [.tmp 2, .tmp 3]) (.s .a (.s (.r [(1, .cl 15 (strings_Trim_sp n))]) (.s .a (.s .a (.s (.s .a (.u (.p (emaskIn ([4, 5, 6], some 0) (timespan_Parse_l0_x n))))) .a))))) Tryd.func10 (by kernel_rfl) rfl rfl rfl (fun _ h => by injection h with h; exact h.symm) (by decide) (by kernel_rfl) (by intro s v w h; unfold timespan_Parse_p at h; split at h <;> first | (cases h; exact ⟨Nat.le_of_ble_eq_true rfl, rfl, rfl⟩) | cases h) (fun _ _ _ => by kernel_rfl) (by intros; unfold timespan_Parse_b; simp only [nats]) (fun _ => rfl) (by kernel_rfl) (by kernel_rfl) (ai (strings_Trim_sound n) (ai (snd_inG [4, 5, 6] (timespan_Parse_l0_snd n)) trivial))

def clepsydralaw02_is_b (n : Nat) (a0 : Str) (a1 a2 : Int) (R : Type) (K : Bool → Option R) : Option R := (timespan_Parse_f n a0).bind fun o65 => (cond (o65.1 == a1) (K (o65.2 == a2)) (K false))
def clepsydralaw02_is_f (n : Nat) (a0 : Str) (a1 a2 : Int) : Option (Bool) := clepsydralaw02_is_b n a0 a1 a2 _ some
def clepsydralaw02_is_p : List AV → List AObj → Option (Str × Int × Int)
  | [.str a0, .int .i64 a1, .int .i64 a2], [] => some (a0, a1, a2)
  | _, _ => none
def clepsydralaw02_is_sp (n : Nat) : FSpec := spOf clepsydralaw02_is_p (fun v => clepsydralaw02_is_f n v.1 v.2.1 v.2.2) (fun o => .bool o) (fun o => [])
theorem clepsydralaw02_is_sound (n : Nat) : FSound Tryd.prog 14 (clepsydralaw02_is_sp n) := fsound_R (t := fun v => ⟨[(0, .str v.1), (1, .int .i64 v.2.1), (2, .int .i64 v.2.2)], []⟩) (b := fun v R K => clepsydralaw02_is_b n v.1 v.2.1 v.2.2 R K) (nt := 22) (n := some 0) (rs := [.tmp 6]) (.s .a (.s (.r [(1, .cl 10 (timespan_Parse_sp n)), (4, .tk [9])]) .a)) Tryd.func14 (by kernel_rfl) rfl rfl rfl (fun _ h => by injection h with h; exact h.symm) (by decide) (by kernel_rfl) (by intro s v w h; unfold clepsydralaw02_is_p at h; split at h <;> first | (cases h; exact ⟨Nat.le_of_ble_eq_true rfl, rfl, rfl⟩) | cases h) (fun _ _ _ => by kernel_rfl) (by intros; unfold clepsydralaw02_is_b; simp only [nats]) (fun _ => rfl) (by kernel_rfl) (by kernel_rfl) (ai (timespan_Parse_sound n) trivial)

def usec_Div_j1_b (n : Nat) (x0 x1 : Int) (R : Type) (K : (Bool) → Option R) : Option R := cond (x1 == (0 : Int)) (K true) (cond (x1 == (-1 : Int)) (K (x0 == (-9223372036854775808 : Int))) (K false))
def usec_Div_j1 (n : Nat) (x0 x1 : Int) : Option ((Bool)) := usec_Div_j1_b n x0 x1 _ some
def usec_Div_j1_d : St → Option ((Int × Int) × ((List AObj)))
  | ⟨[(0, .int .i64 x0), (1, .int .i64 x1)], H⟩ => some ((x0, x1), H)
  | _ => none
def usec_Div_j1_t (v : Int × Int) (w : (List AObj)) : St := ⟨[(0, .int .i64 v.1), (1, .int .i64 v.2)], w⟩
def usec_Div_j1_k (v : Int × Int) (o : (Bool)) (w : (List AObj)) (R : Type) (K : AExit → St → Option R) : Option R := K .normal ⟨[(0, .int .i64 v.1), (1, .int .i64 v.2), (16, .bool o)], w⟩
def usec_Div_j1_x (n : Nat) : Ex := xOf usec_Div_j1_d (fun v => usec_Div_j1 n v.1 v.2) usec_Div_j1_k
def usec_Div_j0_b (n : Nat) (x1 x5 : Int) (R : Type) (K : (Bool) → Option R) : Option R := cond (x5 != (0 : Int)) ((usec_minus_f n x5).bind fun o73 => ((usec_minus_f n x1).bind fun o74 => (K (o73 != o74)))) (K false)
def usec_Div_j0 (n : Nat) (x1 x5 : Int) : Option ((Bool)) := usec_Div_j0_b n x1 x5 _ some
def usec_Div_j0_d : St → Option ((Int × Int) × (AV × (List AObj)))
  | ⟨[(1, .int .i64 x1), (4, p4), (5, .int .i64 x5)], H⟩ => some ((x1, x5), (p4, H))
  | _ => none
def usec_Div_j0_t (v : Int × Int) (w : AV × (List AObj)) : St := ⟨[(1, .int .i64 v.1), (4, w.1), (5, .int .i64 v.2)], w.2⟩
def usec_Div_j0_k (v : Int × Int) (o : (Bool)) (w : AV × (List AObj)) (R : Type) (K : AExit → St → Option R) : Option R := K .normal ⟨[(1, .int .i64 v.1), (4, w.1), (5, .int .i64 v.2), (31, .bool o)], w.2⟩
def usec_Div_j0_x (n : Nat) : Ex := xOf usec_Div_j0_d (fun v => usec_Div_j0 n v.1 v.2) usec_Div_j0_k
theorem usec_Div_j1_snd (n : Nat) : Snd ⟨Tryd.prog, 0, 39⟩ (usec_Div_j1_x n) (Tryd.f23.body.getD .skip).a2.a1.a1 := snd_sub (t := usec_Div_j1_t) (b := fun v R K => usec_Div_j1_b n v.1 v.2 R K) (m := (fun e => match e with | .normal => ([0, 1, 16], none) | _ => ([], none))) .a (by intro s v w h; unfold usec_Div_j1_d at h; split at h <;> first | (cases h; rfl) | cases h) (fun _ _ _ _ => by kernel_rfl) (by intros; unfold usec_Div_j1_b; simp only [nats]) (fun _ => rfl) (by intro e n h; split at h <;> cases h) (by kernel_rfl) (by kernel_rfl) trivial
theorem usec_Div_j0_snd (n : Nat) : Snd ⟨Tryd.prog, 0, 39⟩ (usec_Div_j0_x n) (Tryd.f23.body.getD .skip).a2.a2.a2.a1.a1 := snd_sub (t := usec_Div_j0_t) (b := fun v R K => usec_Div_j0_b n v.1 v.2 R K) (m := (fun e => match e with | .normal => ([1, 4, 5, 31], none) | _ => ([], none))) (.r [(4, .cl 43 (usec_minus_sp n)), (6, .cl 43 (usec_minus_sp n))]) (by intro s v w h; unfold usec_Div_j0_d at h; split at h <;> first | (cases h; rfl) | cases h) (fun _ _ _ _ => by kernel_rfl) (by intros; unfold usec_Div_j0_b; simp only [nats]) (fun _ => rfl) (by intro e n h; split at h <;> cases h) (by kernel_rfl) (by kernel_rfl) (ai (usec_minus_sound n) (ai (usec_minus_sound n) trivial))
def usec_Div_b (n : Nat) (a0 a1 : Int) (R : Type) (K : (Int × Int × Bool) → Option R) : Option R := (usec_Div_j1 n a0 a1).bind fun o72 => (cond o72 (K ((0 : Int), (0 : Int), false)) (cond (a1 == 0) none (cond (a1 == 0) none ((usec_Div_j0 n a1 (Int.tmod a0 a1)).bind fun o75 => (cond o75 (K (IntKind.i64.wrap ((IntKind.i64.wrap (Int.tdiv a0 a1)) - (1 : Int)), IntKind.i64.wrap ((Int.tmod a0 a1) + a1), true)) (K (IntKind.i64.wrap (Int.tdiv a0 a1), Int.tmod a0 a1, true)))))))
def usec_Div_f (n : Nat) (a0 a1 : Int) : Option (Int × Int × Bool) := usec_Div_b n a0 a1 _ some
def usec_Div_p : List AV → List AObj → Option (Int × Int)
  | [.int .i64 a0, .int .i64 a1], [] => some (a0, a1)
  | _, _ => none
def usec_Div_sp (n : Nat) : FSpec := spOf usec_Div_p (fun v => usec_Div_f n v.1 v.2) (fun o => .tuple [.int .i64 o.1, .int .i64 o.2.1, .bool o.2.2]) (fun o => [])
theorem usec_Div_sound (n : Nat) : FSound Tryd.prog 23 (usec_Div_sp n) := fsound_R (t := fun v => ⟨[(0, .int .i64 v.1), (1, .int .i64 v.2)], []⟩) (b := fun v R K => usec_Div_b n v.1 v.2 R K) (nt := 39) (n := some 0) (rs := [.tmp 4, .tmp 5, .tmp 6]) (.s .a (.s (.s (.p (emaskIn ([0, 1], none) (usec_Div_j1_x n))) .a) (.s .a (.s (.s (.p (emaskIn ([1, 4, 5], none) (usec_Div_j0_x n))) .a) .a)))) Tryd.func23 (by kernel_rfl) rfl rfl rfl (fun _ h => by injection h with h; exact h.symm) (by decide) (by kernel_rfl) (by intro s v w h; unfold usec_Div_p at h; split at h <;> first | (cases h; exact ⟨Nat.le_of_ble_eq_true rfl, rfl, rfl⟩) | cases h) (fun _ _ _ => by kernel_rfl) (by intros; unfold usec_Div_b; simp only [nats]) (fun _ => rfl) (by kernel_rfl) (by kernel_rfl) (ai (snd_in [0, 1] (usec_Div_j1_snd n)) (ai (snd_in [1, 4, 5] (usec_Div_j0_snd n)) trivial))

def strconv_FormatInt_f (n : Nat) (a0 a1 : Int) : Option Str := cond (decide (-9223372036854775808 ≤ a0) && decide (a0 ≤ 9223372036854775807) && decide (a1 = 10)) (some (Lib.itoa a0)) none
def strconv_FormatInt_sp (n : Nat) : FSpec := fun vs hs R K => match vs with
  | [.int .i64 a0, .int .i64 a1] => (strconv_FormatInt_f n a0 a1).bind fun o => K (.str o) hs
  | _ => none
theorem strconv_FormatInt_sound (n : Nat) : FSound Tryd.prog 25 (strconv_FormatInt_sp n) := fsound_belowG (enters_of Tryd.func25 (by kernel_rfl) rfl) fun args H R k r h => by
  unfold strconv_FormatInt_sp at h
  split at h
  · rename_i a0 a1
    obtain ⟨o, h2, h⟩ := Option.bind_eq_some_iff.1 h
    unfold strconv_FormatInt_f at h2
    obtain ⟨h3, h2⟩ | ⟨_, h2⟩ := cond_some h2
    · injection h2 with h2
      subst h2
      simp only [Bool.and_eq_true, decide_eq_true_eq] at h3
      refine ⟨_, h, fun g w vs hg hl hv => ?_⟩
      obtain ⟨v0, _, rfl, h0, hv⟩ := vrs_cons hv
      obtain ⟨v1, _, rfl, h1, hv⟩ := vrs_cons hv
      obtain rfl := vrs_nil hv
      obtain rfl := vr_int h0
      obtain rfl := vr_int h1
      obtain ⟨t, f, hp⟩ := good_pow hg
      rw [h3.2]
      refine (Tryd.strconv_FormatInt_10 a0 h3.1.1 h3.1.2 w ?_).mono ?_
      · unfold Lib.TabIs World.var?
        rw [show Tryd.prog.globalNamed "internal/strconv.uint64pow10" = some 0 by kernel_rfl]
        simp only [Option.bind_some, hp]
      · rintro e w' ⟨rfl, q, os, rfl⟩
        exact ⟨_, rfl, (plain_str _).1, (plain_str _).2, Lib.below_grow _ w (Nat.le_refl _) q os⟩
    · cases h2
  · cases h

def strings_Join_sp (n : Nat) : FSpec := joinW_sp
theorem strings_Join_sound (n : Nat) : FSound Tryd.prog 26 (strings_Join_sp n) := joinW_sound <| joinM_sound (enters_of Tryd.func26 (by kernel_rfl) rfl) (fun a c sep w => Tryd.strings_Join_none a c sep w) (fun bk o c xs sep w h1 h2 h3 h4 h5 => Tryd.strings_Join bk o c xs sep w h1 h2 h3 h4 h5)

def timespan_Text_j0_b (n : Nat) (x0 : Int) (x3 x18 : List Str) (x20 : Int) (R : Type) (K : (Int × (List Str)) → Option R) : Option R := cond (decide (0 ≤ x20)) ((x18[x20.toNat]?).bind fun e70 => ((timespan_unit_f n e70).bind fun o71 => ((usec_Div_f n x0 o71).bind fun o76 => (cond (decide (o76.1 > (0 : Int))) ((strconv_FormatInt_f n o76.1 (10 : Int)).bind fun o77 => (cond (decide (o77.length + e70.length ≤ 9223372036854775807)) (cond (decide ((x3.length + ([o77 ++ e70] : List Str).length) * 16 ≤ 140737488355328)) (K (o76.2.1, x3 ++ ([o77 ++ e70] : List Str))) none) none)) (K (o76.2.1, x3)))))) none
def timespan_Text_j0 (n : Nat) (x0 : Int) (x3 x18 : List Str) (x20 : Int) : Option ((Int × (List Str))) := timespan_Text_j0_b n x0 x3 x18 x20 _ some
def timespan_Text_j0_d : St → Option ((Int × (List Str) × (List Str) × Int) × (AV))
  | ⟨[(0, .int .i64 x0), (3, .strs true x3), (18, .strs true x18), (19, p19), (20, .int .i64 x20)], []⟩ => some ((x0, x3, x18, x20), p19)
  | _ => none
def timespan_Text_j0_t (v : Int × (List Str) × (List Str) × Int) (w : AV) : St := ⟨[(0, .int .i64 v.1), (3, .strs true v.2.1), (18, .strs true v.2.2.1), (19, w), (20, .int .i64 v.2.2.2)], []⟩
def timespan_Text_j0_k (v : Int × (List Str) × (List Str) × Int) (o : (Int × (List Str))) (w : AV) (R : Type) (K : AExit → St → Option R) : Option R := K .normal ⟨[(0, .int .i64 o.1), (3, .strs true o.2), (18, .strs true v.2.2.1), (19, w), (20, .int .i64 v.2.2.2)], []⟩
def timespan_Text_j0_x (n : Nat) : Ex := xOf timespan_Text_j0_d (fun v => timespan_Text_j0 n v.1 v.2.1 v.2.2.1 v.2.2.2) timespan_Text_j0_k
def timespan_Text_l0_b (n : Nat) (x0 : Int) (x3 x18 : List Str) (x19 x20 : Int) (R : Type) (A_ : Int → (List Str) → (List Str) → Int → Int → Option R) (K : ((List Str)) → Option R) : Option R := cond (decide (x20 < x19)) ((timespan_Text_j0 n x0 x3 x18 x20).bind fun o78 => (A_ o78.1 o78.2 x18 x19 (IntKind.i64.wrap (x20 + (1 : Int))))) (K x3)
def timespan_Text_l0 (n : Nat) : Nat → Int → (List Str) → (List Str) → Int → Int → Option (((List Str)))
  | 0, _, _, _, _, _ => none
  | m + 1, x0, x3, x18, x19, x20 => timespan_Text_l0_b n x0 x3 x18 x19 x20 _ (timespan_Text_l0 n m) some
def timespan_Text_l0_d : St → Option ((Int × (List Str) × (List Str) × Int × Int) × (Unit))
  | ⟨[(0, .int .i64 x0), (3, .strs true x3), (18, .strs true x18), (19, .int .i64 x19), (20, .int .i64 x20)], []⟩ => some ((x0, x3, x18, x19, x20), ())
  | _ => none
def timespan_Text_l0_t (v : Int × (List Str) × (List Str) × Int × Int) (w : Unit) : St := ⟨[(0, .int .i64 v.1), (3, .strs true v.2.1), (18, .strs true v.2.2.1), (19, .int .i64 v.2.2.2.1), (20, .int .i64 v.2.2.2.2)], []⟩
def timespan_Text_l0_k (v : Int × (List Str) × (List Str) × Int × Int) (o : ((List Str))) (w : Unit) (R : Type) (K : AExit → St → Option R) : Option R := K (.exit 1) ⟨[(3, .strs true o)], []⟩
def timespan_Text_l0_x (n : Nat) : Ex := xOf timespan_Text_l0_d (fun v => timespan_Text_l0 n n v.1 v.2.1 v.2.2.1 v.2.2.2.1 v.2.2.2.2) timespan_Text_l0_k
theorem timespan_Text_j0_snd (n : Nat) : Snd ⟨Tryd.prog, 0, 45⟩ (timespan_Text_j0_x n) (Tryd.f12.body.getD .skip).a2.a2.a2.a1.a2.a1.a1.a2.a2.a1 := snd_sub (t := timespan_Text_j0_t) (b := fun v R K => timespan_Text_j0_b n v.1 v.2.1 v.2.2.1 v.2.2.2 R K) (m := (fun e => match e with | .normal => ([0, 3, 18, 19, 20], none) | _ => ([], none))) (.u (.s .a (.s (.r [(2, .cl 24 (timespan_unit_sp n)), (3, .cl 23 (usec_Div_sp n)), (7, .tk [24])]) (.s .a (.s .a (.s (.r [(0, .tk [3]), (2, .cl 25 (strconv_FormatInt_sp n)), (6, .tk [35]), (7, .tk [41])]) .a)))))) (by intro s v w h; unfold timespan_Text_j0_d at h; split at h <;> first | (cases h; rfl) | cases h) (fun _ _ _ _ => by kernel_rfl) (by intros; unfold timespan_Text_j0_b; simp only [nats]) (fun _ => rfl) (by intro e n h; split at h <;> cases h) (by kernel_rfl) (by kernel_rfl) (ai (timespan_unit_sound n) (ai (usec_Div_sound n) (ai (strconv_FormatInt_sound n) trivial)))
theorem timespan_Text_l0_snd (n : Nat) : Snd ⟨Tryd.prog, 0, 45⟩ (timespan_Text_l0_x n) (Tryd.f12.body.getD .skip).a2.a2.a2.a1.a2.a1 := snd_loop2 (t := timespan_Text_l0_t) (b := fun v R A K => timespan_Text_l0_b n v.1 v.2.1 v.2.2.1 v.2.2.2.1 v.2.2.2.2 R (fun z0 z1 z2 z3 z4 => A (z0, z1, z2, z3, z4)) K) (f := fun m v => timespan_Text_l0 n m v.1 v.2.1 v.2.2.1 v.2.2.2.1 v.2.2.2.2) (m := (fun e => match e with | .exit 1 => ([3], none) | .normal => ([0, 3, 18, 19, 20], none) | _ => ([], none))) n (.s .a (.s .a (.s (.p (emaskIn ([0, 3, 18, 19, 20], none) (timespan_Text_j0_x n))) .a))) (by intro s v w h; unfold timespan_Text_l0_d at h; split at h <;> first | (cases h; rfl) | cases h) (fun _ _ _ _ => by kernel_rfl) (by intros; unfold timespan_Text_l0_b; simp only [nats]) (fun _ => rfl) (fun _ _ => rfl) (fun _ => rfl) (fun _ _ _ _ _ _ => by kernel_rfl) (fun _ _ _ _ _ _ => by kernel_rfl) (by intro e n h; split at h <;> cases h) (by kernel_rfl) (by kernel_rfl) (ai (snd_in [0, 3, 18, 19, 20] (timespan_Text_j0_snd n)) trivial)
def timespan_Text_b (n : Nat) (a0 : Int) (R : Type) (K : Str → Option R) : Option R := cond (decide (a0 < (0 : Int))) (K ([] : Str)) (cond (a0 == (0 : Int)) (K ([48] : Str)) (cond (a0 == (9223372036854775807 : Int)) (K ([105, 110, 102, 105, 110, 105, 116, 121] : Str)) ((timespan_Text_l0 n n a0 ([] : List Str) ([([100] : Str), ([104] : Str), ([109, 105, 110] : Str), ([115] : Str), ([109, 115] : Str), ([117, 115] : Str)] : List Str) (([([100] : Str), ([104] : Str), ([109, 105, 110] : Str), ([115] : Str), ([109, 115] : Str), ([117, 115] : Str)] : List Str).length : Int) (0 : Int)).bind fun o79 => (cond (decide (o79.length ≤ 140737488355328)) (cond (decide ((Lib.join o79 ([32] : Str)).length ≤ 140737488355328)) (K (Lib.join o79 ([32] : Str))) none) none))))
def timespan_Text_f (n : Nat) (a0 : Int) : Option (Str) := timespan_Text_b n a0 _ some
def timespan_Text_p : List AV → List AObj → Option (Int)
  | [.int .i64 a0], [] => some a0
  | _, _ => none
def timespan_Text_sp (n : Nat) : FSpec := spOf timespan_Text_p (fun v => timespan_Text_f n v) (fun o => .str o) (fun o => [])
theorem timespan_Text_sound (n : Nat) : FSound Tryd.prog 12 (timespan_Text_sp n) := fsound_R (t := fun v => ⟨[(0, .int .i64 v)], []⟩) (b := fun v R K => timespan_Text_b n v R K) (nt := 45) (n := some 0) (rs := [.tmp 2]) (.s .a (.s .a (.s .a (.s (.s .a (.u (.p (emaskIn ([0, 3, 18, 19, 20], none) (timespan_Text_l0_x n))))) (.s (.r [(0, .tk [3]), (1, .cl 26 (strings_Join_sp n))]) .a))))) Tryd.func12 (by kernel_rfl) rfl rfl rfl (fun _ h => by injection h with h; exact h.symm) (by decide) (by kernel_rfl) (by intro s v w h; unfold timespan_Text_p at h; split at h <;> first | (cases h; exact ⟨Nat.le_of_ble_eq_true rfl, rfl, rfl⟩) | cases h) (fun _ _ _ => by kernel_rfl) (by intros; unfold timespan_Text_b; simp only [nats]) (fun _ => rfl) (by kernel_rfl) (by kernel_rfl) (ai (snd_in [0, 3, 18, 19, 20] (timespan_Text_l0_snd n)) (ai (strings_Join_sound n) trivial))

def clepsydralaw02_works_b (n : Nat) (R : Type) (K : Bool → Option R) : Option R := (clepsydralaw02_is_f n ([49, 104, 32, 51, 48, 109, 105, 110] : Str) (5400000000 : Int) (0 : Int)).bind fun o66 => (cond o66 ((clepsydralaw02_is_f n ([53] : Str) (5000000 : Int) (0 : Int)).bind fun o67 => (cond o67 ((clepsydralaw02_is_f n ([49, 46, 53, 115] : Str) (1500000 : Int) (0 : Int)).bind fun o68 => (cond o68 ((clepsydralaw02_is_f n ([50, 119, 101, 101, 107, 115] : Str) (1209600000000 : Int) (0 : Int)).bind fun o69 => (cond o69 ((timespan_Text_f n (5400000001 : Int)).bind fun o80 => (K (o80 == ([49, 104, 32, 51, 48, 109, 105, 110, 32, 49, 117, 115] : Str)))) (K false))) (K false))) (K false))) (K false))
def clepsydralaw02_works_f (n : Nat) : Option (Bool) := clepsydralaw02_works_b n _ some
def clepsydralaw02_works_p : List AV → List AObj → Option (Unit)
  | [], [] => some ()
  | _, _ => none
def clepsydralaw02_works_sp (n : Nat) : FSpec := spOf clepsydralaw02_works_p (fun v => clepsydralaw02_works_f n) (fun o => .bool o) (fun o => [])
theorem clepsydralaw02_works_sound (n : Nat) : FSound Tryd.prog 9 (clepsydralaw02_works_sp n) := fsound_R (t := fun v => ⟨[], []⟩) (b := fun v R K => clepsydralaw02_works_b n R K) (nt := 15) (n := some 0) (rs := [.tmp 0]) (.s .a (.s (.r [(0, .cl 14 (clepsydralaw02_is_sp n)), (2, .cl 14 (clepsydralaw02_is_sp n)), (5, .cl 14 (clepsydralaw02_is_sp n)), (8, .cl 14 (clepsydralaw02_is_sp n)), (11, .cl 12 (timespan_Text_sp n))]) .a)) Tryd.func9 (by kernel_rfl) rfl rfl rfl (fun _ h => by injection h with h; exact h.symm) (by decide) (by kernel_rfl) (by intro s v w h; unfold clepsydralaw02_works_p at h; split at h <;> first | (cases h; exact ⟨Nat.le_of_ble_eq_true rfl, rfl, rfl⟩) | cases h) (fun _ _ _ => by kernel_rfl) (by intros; unfold clepsydralaw02_works_b; simp only [nats]) (fun _ => rfl) (by kernel_rfl) (by kernel_rfl) (ai (clepsydralaw02_is_sound n) (ai (clepsydralaw02_is_sound n) (ai (clepsydralaw02_is_sound n) (ai (clepsydralaw02_is_sound n) (ai (timespan_Text_sound n) trivial)))))

end Go.Proofs.YtmdnbpndhnjiaaaDoor.H

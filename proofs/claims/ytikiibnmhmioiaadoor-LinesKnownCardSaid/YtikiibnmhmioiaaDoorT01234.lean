/- Shadows of the program's functions, with their proofs, printed by a program of this session (for the laws LinesParse, LinesBack, LinesJoined, LinesPassed, LinesKnown). -/
import Derived.Test.YtikiibnmhmioiaaDoorR2
import Derived.Test.YtikiibnmhmioiaaDoorSV
import Derived.Test.YtikiibnmhmioiaaDoorBU
import Derived.Test.YtikiibnmhmioiaaDoorSV2
import Derived.Test.YtikiibnmhmioiaaDoorSV3
import Derived.Test.YtikiibnmhmioiaaDoorShel
import Derived.Test.YtikiibnmhmioiaaDoorProg
import Derived.KernelRfl
import Derived.Shelf.Strings.SlTrimAscii
import Derived.Test.YtikiibnmhmioiaaDoorAN
import Derived.WalkSmall
namespace Go.Proofs.YtikiibnmhmioiaaDoor.H
open Go.Sh Go.RowKit
set_option linter.unusedVariables false
set_option linter.unusedSimpArgs false
set_option maxHeartbeats 4000000
set_option maxRecDepth 100000

def lines_whole_b (n : Nat) (a0 : Str) (R : Type) (K : Str → Option R) : Option R := K a0
def lines_whole_f (n : Nat) (a0 : Str) : Option (Str) := lines_whole_b n a0 _ some
def lines_whole_p : List AV → List AObj → Option (Str)
  | [.str a0], [] => some a0
  | _, _ => none
def lines_whole_sp (n : Nat) : FSpec := spOf lines_whole_p (fun v => lines_whole_f n v) (fun o => .func (.func 23) [] [.ptr (some (0, 0))]) (fun o => [.cells 9 [.str o]])
theorem lines_whole_sound (n : Nat) : FSound Tryd.prog 12 (lines_whole_sp n) := fsound_R (t := fun v => ⟨[(0, .str v)], []⟩) (b := fun v R K => lines_whole_b n v R K) (nt := 4) (n := some 0) (rs := [.tmp 2]) .a Tryd.func12 (by kernel_rfl) rfl rfl rfl (fun _ h => by injection h with h; exact h.symm) (by decide) (by kernel_rfl) (by intro s v w h; unfold lines_whole_p at h; split at h <;> first | (cases h; exact ⟨Nat.le_of_ble_eq_true rfl, rfl, rfl⟩) | cases h) (fun _ _ _ => by kernel_rfl) (by intros; unfold lines_whole_b; simp only [nats]) (fun _ => by kernel_rfl) (by kernel_rfl) (by kernel_rfl) trivial

def strings_Split_sp (n : Nat) : FSpec := splitM_sp 9
theorem strings_Split_sound (n : Nat) : FSound Tryd.prog 24 (strings_Split_sp n) := splitM_sound (Go.Sh.enters_of Tryd.func24 (by kernel_rfl) rfl) (fun s sep w hg hs h1 => let ⟨m, hm⟩ := good_max hg; Tryd.strings_Split s sep m w hs hm h1)

def stringslite_HasSuffix_b (n : Nat) (a0 a1 : Str) (R : Type) (K : Bool → Option R) : Option R := cond (decide ((a0.length : Int) ≥ (a1.length : Int))) (cond (decide (0 ≤ (IntKind.i64.wrap ((a0.length : Int) - (a1.length : Int))))) (cond (decide ((IntKind.i64.wrap ((a0.length : Int) - (a1.length : Int))) ≤ (a0.length : Int))) (K ((a0.drop (IntKind.i64.wrap ((a0.length : Int) - (a1.length : Int))).toNat) == a1)) none) none) (K false)
def stringslite_HasSuffix_f (n : Nat) (a0 a1 : Str) : Option (Bool) := stringslite_HasSuffix_b n a0 a1 _ some
def stringslite_HasSuffix_p : List AV → List AObj → Option (Str × Str)
  | [.str a0, .str a1], [] => some (a0, a1)
  | _, _ => none
def stringslite_HasSuffix_sp (n : Nat) : FSpec := spOf stringslite_HasSuffix_p (fun v => stringslite_HasSuffix_f n v.1 v.2) (fun o => .bool o) (fun o => [])
theorem stringslite_HasSuffix_sound (n : Nat) : FSound Tryd.prog 56 (stringslite_HasSuffix_sp n) := fsound_R (t := fun v => ⟨[(0, .str v.1), (1, .str v.2)], []⟩) (b := fun v R K => stringslite_HasSuffix_b n v.1 v.2 R K) (nt := 21) (n := some 0) (rs := [.tmp 4]) .a Tryd.func56 (by kernel_rfl) rfl rfl rfl (fun _ h => by injection h with h; exact h.symm) (by decide) (by kernel_rfl) (by intro s v w h; unfold stringslite_HasSuffix_p at h; split at h <;> first | (cases h; exact ⟨Nat.le_of_ble_eq_true rfl, rfl, rfl⟩) | cases h) (fun _ _ _ => by kernel_rfl) (by intros; unfold stringslite_HasSuffix_b; simp only [nats]) (fun _ => by kernel_rfl) (by kernel_rfl) (by kernel_rfl) trivial

def stringslite_TrimSuffix_b (n : Nat) (a0 a1 : Str) (R : Type) (K : Str → Option R) : Option R := (stringslite_HasSuffix_f n a0 a1).bind fun o4 => (cond o4 (cond (decide (0 ≤ (IntKind.i64.wrap ((a0.length : Int) - (a1.length : Int))))) (cond (decide ((IntKind.i64.wrap ((a0.length : Int) - (a1.length : Int))) ≤ (a0.length : Int))) (K ((a0.take (IntKind.i64.wrap ((a0.length : Int) - (a1.length : Int))).toNat).drop 0)) none) none) (K a0))
def stringslite_TrimSuffix_f (n : Nat) (a0 a1 : Str) : Option (Str) := stringslite_TrimSuffix_b n a0 a1 _ some
def stringslite_TrimSuffix_p : List AV → List AObj → Option (Str × Str)
  | [.str a0, .str a1], [] => some (a0, a1)
  | _, _ => none
def stringslite_TrimSuffix_sp (n : Nat) : FSpec := spOf stringslite_TrimSuffix_p (fun v => stringslite_TrimSuffix_f n v.1 v.2) (fun o => .str o) (fun o => [])
theorem stringslite_TrimSuffix_sound (n : Nat) : FSound Tryd.prog 39 (stringslite_TrimSuffix_sp n) := fsound_R (t := fun v => ⟨[(0, .str v.1), (1, .str v.2)], []⟩) (b := fun v R K => stringslite_TrimSuffix_b n v.1 v.2 R K) (nt := 16) (n := some 0) (rs := [.tmp 4]) (.s .a (.s (.s (.r [(2, .cl 56 (stringslite_HasSuffix_sp n))]) .a) .a)) Tryd.func39 (by kernel_rfl) rfl rfl rfl (fun _ h => by injection h with h; exact h.symm) (by decide) (by kernel_rfl) (by intro s v w h; unfold stringslite_TrimSuffix_p at h; split at h <;> first | (cases h; exact ⟨Nat.le_of_ble_eq_true rfl, rfl, rfl⟩) | cases h) (fun _ _ _ => by kernel_rfl) (by intros; unfold stringslite_TrimSuffix_b; simp only [nats]) (fun _ => by kernel_rfl) (by kernel_rfl) (by kernel_rfl) (ai (stringslite_HasSuffix_sound n) trivial)

def strings_TrimSuffix_b (n : Nat) (a0 a1 : Str) (R : Type) (K : Str → Option R) : Option R := (stringslite_TrimSuffix_f n a0 a1).bind fun o5 => (K o5)
def strings_TrimSuffix_f (n : Nat) (a0 a1 : Str) : Option (Str) := strings_TrimSuffix_b n a0 a1 _ some
def strings_TrimSuffix_p : List AV → List AObj → Option (Str × Str)
  | [.str a0, .str a1], [] => some (a0, a1)
  | _, _ => none
def strings_TrimSuffix_sp (n : Nat) : FSpec := spOf strings_TrimSuffix_p (fun v => strings_TrimSuffix_f n v.1 v.2) (fun o => .str o) (fun o => [])
theorem strings_TrimSuffix_sound (n : Nat) : FSound Tryd.prog 25 (strings_TrimSuffix_sp n) := fsound_R (t := fun v => ⟨[(0, .str v.1), (1, .str v.2)], []⟩) (b := fun v R K => strings_TrimSuffix_b n v.1 v.2 R K) (nt := 8) (n := some 0) (rs := [.tmp 4]) (.s .a (.s (.r [(2, .cl 39 (stringslite_TrimSuffix_sp n))]) .a)) Tryd.func25 (by kernel_rfl) rfl rfl rfl (fun _ h => by injection h with h; exact h.symm) (by decide) (by kernel_rfl) (by intro s v w h; unfold strings_TrimSuffix_p at h; split at h <;> first | (cases h; exact ⟨Nat.le_of_ble_eq_true rfl, rfl, rfl⟩) | cases h) (fun _ _ _ => by kernel_rfl) (by intros; unfold strings_TrimSuffix_b; simp only [nats]) (fun _ => by kernel_rfl) (by kernel_rfl) (by kernel_rfl) (ai (stringslite_TrimSuffix_sound n) trivial)

def strings_Trim_f (n : Nat) (a0 a1 : Str) : Option Str := cond (decide (a0.length ≤ 9223372036854775807) && decide (a1.length < 4294967281) && a1.all fun b => decide (b.toNat < 128)) (some (Lib.trimS a0 a1)) none
def strings_Trim_sp (n : Nat) : FSpec := fun vs hs R K => match vs with
  | [.str a0, .str a1] => (strings_Trim_f n a0 a1).bind fun o => K (.str o) hs
  | _ => none
theorem strings_Trim_sound (n : Nat) : FSound Tryd.prog 34 (strings_Trim_sp n) := fsound_below (Go.Sh.enters_of Tryd.func34 (by kernel_rfl) rfl) fun args H R k r h => by
  unfold strings_Trim_sp at h
  split at h
  · rename_i a0 a1
    obtain ⟨o, h2, h⟩ := Option.bind_eq_some_iff.1 h
    unfold strings_Trim_f at h2
    obtain ⟨h3, h2⟩ | ⟨_, h2⟩ := cond_some h2
    · injection h2 with h2
      subst h2
      simp only [Bool.and_eq_true, decide_eq_true_eq] at h3
      refine ⟨_, h, fun g w vs hl hv => ?_⟩
      obtain ⟨v0, _, rfl, h0, hv⟩ := vrs_cons hv
      obtain ⟨v1, _, rfl, h1, hv⟩ := vrs_cons hv
      obtain rfl := vrs_nil hv
      obtain ⟨s, rfl, rfl⟩ := vr_str h0
      obtain ⟨u, rfl, rfl⟩ := vr_str h1
      exact ⟨_, (plain_str _).1, (plain_str _).2, Any.strings_Trim_laid Tryd.lays160 (by kernel_rfl) s u w (by rw [Array.length_toList] at h3; exact h3.1.1) (by have := h3.1.2; rw [Array.length_toList] at this; exact this) (ascii_of_all h3.2)⟩
    · cases h2
  · cases h

def lines_trim_b (n : Nat) (a0 : Str) (R : Type) (K : Str → Option R) : Option R := (strings_Trim_f n a0 ([32, 9] : Str)).bind fun o11 => (K o11)
def lines_trim_f (n : Nat) (a0 : Str) : Option (Str) := lines_trim_b n a0 _ some
def lines_trim_p : List AV → List AObj → Option (Str)
  | [.str a0], [] => some a0
  | _, _ => none
def lines_trim_sp (n : Nat) : FSpec := spOf lines_trim_p (fun v => lines_trim_f n v) (fun o => .str o) (fun o => [])
theorem lines_trim_sound (n : Nat) : FSound Tryd.prog 15 (lines_trim_sp n) := fsound_R (t := fun v => ⟨[(0, .str v)], []⟩) (b := fun v R K => lines_trim_b n v R K) (nt := 5) (n := some 0) (rs := [.tmp 2]) (.s .a (.s (.r [(1, .cl 34 (strings_Trim_sp n))]) .a)) Tryd.func15 (by kernel_rfl) rfl rfl rfl (fun _ h => by injection h with h; exact h.symm) (by decide) (by kernel_rfl) (by intro s v w h; unfold lines_trim_p at h; split at h <;> first | (cases h; exact ⟨Nat.le_of_ble_eq_true rfl, rfl, rfl⟩) | cases h) (fun _ _ _ => by kernel_rfl) (by intros; unfold lines_trim_b; simp only [nats]) (fun _ => by kernel_rfl) (by kernel_rfl) (by kernel_rfl) (ai (strings_Trim_sound n) trivial)

def strings_IndexByte_f (n : Nat) (a0 : Str) (a1 : Int) : Option Int := some (Lib.indexByte a0 a1.toNat.toUInt8)
def strings_IndexByte_sp (n : Nat) : FSpec := fun vs hs R K => match vs with
  | [.str a0, .int .u8 a1] => (strings_IndexByte_f n a0 a1).bind fun o => K (.int .i64 o) hs
  | _ => none
theorem strings_IndexByte_sound (n : Nat) : FSound Tryd.prog 40 (strings_IndexByte_sp n) := fsound_below (Go.Sh.enters_of Tryd.func40 (by kernel_rfl) rfl) fun args H R k r h => by
  unfold strings_IndexByte_sp at h
  split at h
  · rename_i a0 a1
    refine ⟨_, h, fun g w vs hl hv => ?_⟩
    obtain ⟨v0, _, rfl, h0, hv⟩ := vrs_cons hv
    obtain ⟨v1, _, rfl, h1, hv⟩ := vrs_cons hv
    obtain rfl := vrs_nil hv
    obtain ⟨s, rfl, rfl⟩ := vr_str h0
    obtain rfl := vr_int h1
    refine ⟨_, (plain_int _ _).1, (plain_int _ _).2, (Tryd.strings_IndexByte s a1 w).mono ?_⟩
    rintro e w' ⟨rfl, rfl⟩
    exact ⟨rfl, Below.refl _ _⟩
  · cases h

def lines_comment_b (n : Nat) (a0 : Str) (R : Type) (K : Bool → Option R) : Option R := (lines_trim_f n a0).bind fun o15 => (cond (!(o15 == ([] : Str))) ((o15[0]?).bind fun b16 => ((strings_IndexByte_f n ([35, 59] : Str) (b16.toNat : Int)).bind fun o17 => (K (decide (o17 ≥ (0 : Int)))))) (K false))
def lines_comment_f (n : Nat) (a0 : Str) : Option (Bool) := lines_comment_b n a0 _ some
def lines_comment_p : List AV → List AObj → Option (Str)
  | [.str a0], [] => some a0
  | _, _ => none
def lines_comment_sp (n : Nat) : FSpec := spOf lines_comment_p (fun v => lines_comment_f n v) (fun o => .bool o) (fun o => [])
theorem lines_comment_sound (n : Nat) : FSound Tryd.prog 26 (lines_comment_sp n) := fsound_R (t := fun v => ⟨[(0, .str v)], []⟩) (b := fun v R K => lines_comment_b n v R K) (nt := 13) (n := some 0) (rs := [.tmp 2]) (.s .a (.s (.r [(1, .cl 15 (lines_trim_sp n))]) (.s (.r [(5, .cl 40 (strings_IndexByte_sp n))]) .a))) Tryd.func26 (by kernel_rfl) rfl rfl rfl (fun _ h => by injection h with h; exact h.symm) (by decide) (by kernel_rfl) (by intro s v w h; unfold lines_comment_p at h; split at h <;> first | (cases h; exact ⟨Nat.le_of_ble_eq_true rfl, rfl, rfl⟩) | cases h) (fun _ _ _ => by kernel_rfl) (by intros; unfold lines_comment_b; simp only [nats]) (fun _ => by kernel_rfl) (by kernel_rfl) (by kernel_rfl) (ai (lines_trim_sound n) (ai (strings_IndexByte_sound n) trivial))

def stringslite_CutSuffix_b (n : Nat) (a0 a1 : Str) (R : Type) (K : (Str × Bool) → Option R) : Option R := (stringslite_HasSuffix_f n a0 a1).bind fun o22 => (cond (!o22) (K (a0, false)) (cond (decide (0 ≤ (IntKind.i64.wrap ((a0.length : Int) - (a1.length : Int))))) (cond (decide ((IntKind.i64.wrap ((a0.length : Int) - (a1.length : Int))) ≤ (a0.length : Int))) (K ((a0.take (IntKind.i64.wrap ((a0.length : Int) - (a1.length : Int))).toNat).drop 0, true)) none) none))
def stringslite_CutSuffix_f (n : Nat) (a0 a1 : Str) : Option (Str × Bool) := stringslite_CutSuffix_b n a0 a1 _ some
def stringslite_CutSuffix_p : List AV → List AObj → Option (Str × Str)
  | [.str a0, .str a1], [] => some (a0, a1)
  | _, _ => none
def stringslite_CutSuffix_sp (n : Nat) : FSpec := spOf stringslite_CutSuffix_p (fun v => stringslite_CutSuffix_f n v.1 v.2) (fun o => .tuple [.str o.1, .bool o.2]) (fun o => [])
theorem stringslite_CutSuffix_sound (n : Nat) : FSound Tryd.prog 41 (stringslite_CutSuffix_sp n) := fsound_R (t := fun v => ⟨[(0, .str v.1), (1, .str v.2)], []⟩) (b := fun v R K => stringslite_CutSuffix_b n v.1 v.2 R K) (nt := 18) (n := some 0) (rs := [.tmp 4, .tmp 5]) (.s .a (.s (.s (.r [(2, .cl 56 (stringslite_HasSuffix_sp n))]) .a) .a)) Tryd.func41 (by kernel_rfl) rfl rfl rfl (fun _ h => by injection h with h; exact h.symm) (by decide) (by kernel_rfl) (by intro s v w h; unfold stringslite_CutSuffix_p at h; split at h <;> first | (cases h; exact ⟨Nat.le_of_ble_eq_true rfl, rfl, rfl⟩) | cases h) (fun _ _ _ => by kernel_rfl) (by intros; unfold stringslite_CutSuffix_b; simp only [nats]) (fun _ => by kernel_rfl) (by kernel_rfl) (by kernel_rfl) (ai (stringslite_HasSuffix_sound n) trivial)

def strings_CutSuffix_b (n : Nat) (a0 a1 : Str) (R : Type) (K : (Str × Bool) → Option R) : Option R := (stringslite_CutSuffix_f n a0 a1).bind fun o23 => (K (o23.1, o23.2))
def strings_CutSuffix_f (n : Nat) (a0 a1 : Str) : Option (Str × Bool) := strings_CutSuffix_b n a0 a1 _ some
def strings_CutSuffix_p : List AV → List AObj → Option (Str × Str)
  | [.str a0, .str a1], [] => some (a0, a1)
  | _, _ => none
def strings_CutSuffix_sp (n : Nat) : FSpec := spOf strings_CutSuffix_p (fun v => strings_CutSuffix_f n v.1 v.2) (fun o => .tuple [.str o.1, .bool o.2]) (fun o => [])
theorem strings_CutSuffix_sound (n : Nat) : FSound Tryd.prog 27 (strings_CutSuffix_sp n) := fsound_R (t := fun v => ⟨[(0, .str v.1), (1, .str v.2)], []⟩) (b := fun v R K => strings_CutSuffix_b n v.1 v.2 R K) (nt := 11) (n := some 0) (rs := [.tmp 4, .tmp 5]) (.s .a (.s (.r [(2, .cl 41 (stringslite_CutSuffix_sp n)), (4, .tk [8])]) .a)) Tryd.func27 (by kernel_rfl) rfl rfl rfl (fun _ h => by injection h with h; exact h.symm) (by decide) (by kernel_rfl) (by intro s v w h; unfold strings_CutSuffix_p at h; split at h <;> first | (cases h; exact ⟨Nat.le_of_ble_eq_true rfl, rfl, rfl⟩) | cases h) (fun _ _ _ => by kernel_rfl) (by intros; unfold strings_CutSuffix_b; simp only [nats]) (fun _ => by kernel_rfl) (by kernel_rfl) (by kernel_rfl) (ai (stringslite_CutSuffix_sound n) trivial)

theorem builder_cc (b : Nat) (x u : Value) (w w1 : World) (hw : w.heap[b]? = some (.cells #[x, u] 60 (0, 0))) (hw1 : w1 = w.setCell ⟨b, 0, none⟩ (.pointer (some ⟨b, 0, none⟩)) ∧ x = .pointer none ∨ w1 = w ∧ x = .pointer (some ⟨b, 0, none⟩)) :
    Calls Tryd.prog 42 #[.pointer (some ⟨b, 0, none⟩)] w fun e w' => e = .returned (.tuple #[]) ∧ w' = w1 := by
  rcases hw1 with ⟨rfl, rfl⟩ | ⟨rfl, rfl⟩
  · have h0 : w.cell? ⟨b, 0, none⟩ = some (.pointer none) := by simp [World.cell?, hw]
    have hsh : w.shape? b = some (60, 2) := by simp [World.shape?, hw]
    have hfz : w.frozen? ⟨b, 0, none⟩ = false := by simp [World.frozen?, hw]
    clear hw
    obtain ⟨j, hj, hjs⟩ := Option.map_eq_some_iff.1 (by kernel_rfl : (Tryd.prog.info? 60).map (·.size) = some 2)
    go_enter Tryd.func42, Tryd.ntmps42
    go_wp2
    rw [Lib.run_to_unsafe w ⟨b, 0, none⟩ Tryd.underlying58 Tryd.underlying81 hj (by rw [hjs]; decide) hsh (Nat.zero_lt_succ 1)]
    simp only [Result.andThen]
    rw [Oper.upon_value]
    go_wp2
    rw [run_callFunc_extern Tryd.func58 (by kernel_rfl) (by kernel_rfl) (by kernel_rfl) (e := Extern.AbiNoEscape.same) (by kernel_rfl)]
    rw [Lib.run_noEscape]
    simp only [Result.andThen]
    rw [Oper.upon_value]
    go_wp2
    rw [Lib.run_from_unsafe w ⟨b, 0, none⟩ Tryd.underlying81 Tryd.underlying58 hj hsh (by kernel_rfl)]
    simp only [Result.andThen]
    rw [Oper.upon_value]
    go_wp2
    go_end0
    exact ⟨rfl, rfl⟩
  · have h0 : w1.cell? ⟨b, 0, none⟩ = some (.pointer (some ⟨b, 0, none⟩)) := by simp [World.cell?, hw]
    clear hw
    obtain ⟨j, hj, _⟩ := Option.map_eq_some_iff.1 (by kernel_rfl : (Tryd.prog.info? 60).map (·.size) = some 2)
    go_enter Tryd.func42, Tryd.ntmps42
    go_wp2
    rw [Lib.run_neq_ptr_same w1 _ Tryd.underlying58 hj]
    go_wp2
    go_end0
    exact ⟨rfl, rfl⟩


theorem strings_Builder_WriteString_walk : WritesS Tryd.prog 28 60 22 9 := by
  refine ⟨Go.Sh.enters_of Tryd.func28 (by kernel_rfl) rfl, Tryd.underlying22, Tryd.underlying9, by kernel_rfl, fun b x ao ao' n n' c c' s w w1 w2 hw hw1 k1 ha hw2 => ?_⟩
  have hcc := builder_cc b x _ w w1 hw hw1
  have c1 : w1.cell? ⟨b, 1, none⟩ = some (.slice ao n c) := by simp [World.cell?, k1]
  have c2 : w2.cell? ⟨b, 1, none⟩ = some (.slice ao n c) := by simp [World.cell?, hw2]
  have f2 : w2.frozen? ⟨b, 1, none⟩ = false := by simp [World.frozen?, hw2]
  clear hw1 hw k1 hw2
  go_enter Tryd.func28, Tryd.ntmps28
  go_wp2_with (first | (go_at_call 42; refine hcc.mono ?_; rintro e w' ⟨rfl, rfl⟩) | (at_builtin; refine wpList_append_run rfl _ _ 22 9 rfl _ _ _ rfl rfl ha ?_))
  go_ret2
  exact ⟨rfl, rfl⟩
def strings_Builder_WriteString_sp (n : Nat) : FSpec := buf_sp 60 writeString_q
theorem strings_Builder_WriteString_sound (n : Nat) : FSound Tryd.prog 28 (strings_Builder_WriteString_sp n) := writeString_sound strings_Builder_WriteString_walk


theorem strings_Builder_WriteByte_walk : WritesB Tryd.prog 29 60 22 := by
  refine ⟨Go.Sh.enters_of Tryd.func29 (by kernel_rfl) rfl, Tryd.underlying22, by kernel_rfl, fun b x ao ao' n n' c c' y w w1 w2 hw hw1 k1 ha hw2 => ?_⟩
  have hcc := builder_cc b x _ w w1 hw hw1
  have c1 : w1.cell? ⟨b, 1, none⟩ = some (.slice ao n c) := by simp [World.cell?, k1]
  have c2 : w2.cell? ⟨b, 1, none⟩ = some (.slice ao n c) := by simp [World.cell?, hw2]
  have f2 : w2.frozen? ⟨b, 1, none⟩ = false := by simp [World.frozen?, hw2]
  unfold byteRow byteT at ha
  clear hw1 hw k1 hw2
  go_enter Tryd.func29, Tryd.ntmps29
  go_wp2_with (first | (go_at_call 42; refine hcc.mono ?_; rintro e w' ⟨rfl, rfl⟩) | (at_builtin; refine wpList_append_run rfl _ _ 22 22 rfl _ _ _ rfl rfl ha ?_))
  go_ret
  exact ⟨rfl, rfl⟩
def strings_Builder_WriteByte_sp (n : Nat) : FSpec := buf_sp 60 writeByte_q
theorem strings_Builder_WriteByte_sound (n : Nat) : FSound Tryd.prog 29 (strings_Builder_WriteByte_sp n) := writeByte_sound strings_Builder_WriteByte_walk


def strings_Builder_String_sp (n : Nat) : FSpec := bstr_sp 60
theorem strings_Builder_String_sound (n : Nat) : FSound Tryd.prog 30 (strings_Builder_String_sp n) := bstr_sound Tryd.lays169 Tryd.Builder_Extra_169 rfl (Go.Sh.enters_of Tryd.func30 (by kernel_rfl) rfl)


def strings_CutPrefix_f (n : Nat) (a0 a1 : Str) : Option (Str × Bool) := some (Lib.trimPrefix a0 a1, Lib.hasPrefix a0 a1)
def strings_CutPrefix_sp (n : Nat) : FSpec := fun vs hs R K => match vs with
  | [.str a0, .str a1] => (strings_CutPrefix_f n a0 a1).bind fun o => K (.tuple [.str o.1, .bool o.2]) hs
  | _ => none
theorem strings_CutPrefix_sound (n : Nat) : FSound Tryd.prog 31 (strings_CutPrefix_sp n) := fsound_below (Go.Sh.enters_of Tryd.func31 (by kernel_rfl) rfl) fun args H R k r h => by
  unfold strings_CutPrefix_sp at h
  split at h
  · rename_i a0 a1
    refine ⟨_, h, fun g w vs hl hv => ?_⟩
    obtain ⟨v0, _, rfl, h0, hv⟩ := vrs_cons hv
    obtain ⟨v1, _, rfl, h1, hv⟩ := vrs_cons hv
    obtain rfl := vrs_nil hv
    obtain ⟨s, rfl, rfl⟩ := vr_str h0
    obtain ⟨u, rfl, rfl⟩ := vr_str h1
    refine ⟨.tuple #[.string ⟨(Lib.trimPrefix s.data.toList u.data.toList).toArray⟩, .bool (Lib.hasPrefix s.data.toList u.data.toList)], rfl, fun g w => ?_, (Tryd.strings_CutPrefix s u w).mono ?_⟩
    · simp only [VR]
      exact ⟨_, rfl, by simp only [VRs]; exact ⟨_, _, rfl, (plain_str _).2 _ _, _, _, rfl, by simp only [VR], rfl⟩⟩
    · rintro e w' ⟨rfl, rfl⟩
      exact ⟨rfl, Below.refl _ _⟩
  · cases h

def strings_ContainsAny_f (n : Nat) (a0 a1 : Str) : Option Bool := cond (decide (a0.length < 4294967281) && decide (a1.length = 2) && a1.all fun b => decide (b.toNat < 128)) (some (Lib.containsAny a0 a1)) none
def strings_ContainsAny_sp (n : Nat) : FSpec := fun vs hs R K => match vs with
  | [.str a0, .str a1] => (strings_ContainsAny_f n a0 a1).bind fun o => K (.bool o) hs
  | _ => none
theorem strings_ContainsAny_sound (n : Nat) : FSound Tryd.prog 32 (strings_ContainsAny_sp n) := fsound_belowG (Go.Sh.enters_of Tryd.func32 (by kernel_rfl) rfl) fun args H R k r h => by
  unfold strings_ContainsAny_sp at h
  split at h
  · rename_i a0 a1
    obtain ⟨o, h2, h⟩ := Option.bind_eq_some_iff.1 h
    unfold strings_ContainsAny_f at h2
    obtain ⟨h3, h2⟩ | ⟨_, h2⟩ := cond_some h2
    · injection h2 with h2
      subst h2
      simp only [Bool.and_eq_true, decide_eq_true_eq] at h3
      refine ⟨_, h, fun g w vs hg hl hv => ?_⟩
      obtain ⟨v0, _, rfl, h0, hv⟩ := vrs_cons hv
      obtain ⟨v1, _, rfl, h1, hv⟩ := vrs_cons hv
      obtain rfl := vrs_nil hv
      obtain ⟨s, rfl, rfl⟩ := vr_str h0
      obtain ⟨u, rfl, rfl⟩ := vr_str h1
      refine (containsAny_two_of Tryd.lays150 (by kernel_rfl) s u w (by have := h3.1.1; rw [Array.length_toList] at this; exact this) (by have := h3.1.2; rw [Array.length_toList] at this; exact this) (ascii_of_all h3.2)).mono ?_
      rintro e w' ⟨rfl, hb⟩
      exact ⟨_, rfl, rfl, fun g w => by simp only [VR], hb⟩
    · cases h2
  · cases h

def lines_section_b (n : Nat) (a0 : Str) (R : Type) (K : (Str × Bool) → Option R) : Option R := (strings_CutPrefix_f n a0 ([91] : Str)).bind fun o33 => ((strings_CutSuffix_f n o33.1 ([93] : Str)).bind fun o34 => (cond o33.2 (cond o34.2 (cond (!(o34.1 == ([] : Str))) ((strings_ContainsAny_f n o34.1 ([91, 93] : Str)).bind fun o35 => (K (o34.1, !o35))) (K (o34.1, false))) (K (o34.1, false))) (K (o34.1, false))))
def lines_section_f (n : Nat) (a0 : Str) : Option (Str × Bool) := lines_section_b n a0 _ some
def lines_section_p : List AV → List AObj → Option (Str)
  | [.str a0], [] => some a0
  | _, _ => none
def lines_section_sp (n : Nat) : FSpec := spOf lines_section_p (fun v => lines_section_f n v) (fun o => .tuple [.str o.1, .bool o.2]) (fun o => [])
theorem lines_section_sound (n : Nat) : FSound Tryd.prog 13 (lines_section_sp n) := fsound_R (t := fun v => ⟨[(0, .str v)], []⟩) (b := fun v R K => lines_section_b n v R K) (nt := 30) (n := some 0) (rs := [.tmp 2, .tmp 3]) (.s .a (.s (.r [(1, .cl 31 (strings_CutPrefix_sp n)), (4, .tk [6])]) (.s (.r [(1, .cl 27 (strings_CutSuffix_sp n)), (4, .tk [11])]) (.s (.r [(11, .cl 32 (strings_ContainsAny_sp n))]) .a)))) Tryd.func13 (by kernel_rfl) rfl rfl rfl (fun _ h => by injection h with h; exact h.symm) (by decide) (by kernel_rfl) (by intro s v w h; unfold lines_section_p at h; split at h <;> first | (cases h; exact ⟨Nat.le_of_ble_eq_true rfl, rfl, rfl⟩) | cases h) (fun _ _ _ => by kernel_rfl) (by intros; unfold lines_section_b; simp only [nats]) (fun _ => by kernel_rfl) (by kernel_rfl) (by kernel_rfl) (ai (strings_CutPrefix_sound n) (ai (strings_CutSuffix_sound n) (ai (strings_ContainsAny_sound n) trivial)))

def strings_Cut_f (n : Nat) (a0 a1 : Str) : Option (Str × Str × Bool) := cond (decide (a0.length < 4294967281)) (some (Lib.cut a0 a1)) none
def strings_Cut_sp (n : Nat) : FSpec := fun vs hs R K => match vs with
  | [.str a0, .str a1] => (strings_Cut_f n a0 a1).bind fun o => K (.tuple [.str o.1, .str o.2.1, .bool o.2.2]) hs
  | _ => none
theorem strings_Cut_sound (n : Nat) : FSound Tryd.prog 14 (strings_Cut_sp n) := fsound_belowG (Go.Sh.enters_of Tryd.func14 (by kernel_rfl) rfl) fun args H R k r h => by
  unfold strings_Cut_sp at h
  split at h
  · rename_i a0 a1
    obtain ⟨o, h2, h⟩ := Option.bind_eq_some_iff.1 h
    unfold strings_Cut_f at h2
    obtain ⟨h3, h2⟩ | ⟨_, h2⟩ := cond_some h2
    · injection h2 with h2
      subst h2
      simp only [decide_eq_true_eq] at h3
      refine ⟨_, h, fun g w vs hg hl hv => ?_⟩
      obtain ⟨v0, _, rfl, h0, hv⟩ := vrs_cons hv
      obtain ⟨v1, _, rfl, h1, hv⟩ := vrs_cons hv
      obtain rfl := vrs_nil hv
      obtain ⟨s, rfl, rfl⟩ := vr_str h0
      obtain ⟨u, rfl, rfl⟩ := vr_str h1
      obtain ⟨m, hm⟩ := good_max hg
      rw [Array.length_toList] at h3
      refine (Tryd.strings_Cut s u m w h3 hm).mono ?_
      rintro e w' ⟨rfl, d, rfl⟩
      exact ⟨_, rfl, rfl, fun g w => by simp only [VR]; exact ⟨_, rfl, by simp only [VRs]; exact ⟨_, _, rfl, (plain_str _).2 _ _, _, _, rfl, (plain_str _).2 _ _, _, _, rfl, by simp only [VR], rfl⟩⟩, below_drewN (Below.refl _ _) d⟩
    · cases h2
  · cases h

def strings_HasPrefix_f (n : Nat) (a0 a1 : Str) : Option Bool := some (Lib.hasPrefix a0 a1)
def strings_HasPrefix_sp (n : Nat) : FSpec := fun vs hs R K => match vs with
  | [.str a0, .str a1] => (strings_HasPrefix_f n a0 a1).bind fun o => K (.bool o) hs
  | _ => none
theorem strings_HasPrefix_sound (n : Nat) : FSound Tryd.prog 16 (strings_HasPrefix_sp n) := fsound_below (Go.Sh.enters_of Tryd.func16 (by kernel_rfl) rfl) fun args H R k r h => by
  unfold strings_HasPrefix_sp at h
  split at h
  · rename_i a0 a1
    refine ⟨_, h, fun g w vs hl hv => ?_⟩
    obtain ⟨v0, _, rfl, h0, hv⟩ := vrs_cons hv
    obtain ⟨v1, _, rfl, h1, hv⟩ := vrs_cons hv
    obtain rfl := vrs_nil hv
    obtain ⟨s, rfl, rfl⟩ := vr_str h0
    obtain ⟨u, rfl, rfl⟩ := vr_str h1
    refine ⟨.bool (Lib.hasPrefix s.data.toList u.data.toList), rfl, fun g w => by simp only [VR], (Tryd.strings_HasPrefix s u w).mono ?_⟩
    rintro e w' ⟨rfl, rfl⟩
    exact ⟨rfl, Below.refl _ _⟩
  · cases h

def lines_isKey_j1_b (n : Nat) (x4 : Int) (R : Type) (K : (Bool) → Option R) : Option R := cond (decide ((IntKind.u8.wrap ((BitVec.ofInt 8 x4 ||| BitVec.ofInt 8 (32 : Int)).toNat : Int)) ≥ (97 : Int))) (K (decide ((IntKind.u8.wrap ((BitVec.ofInt 8 x4 ||| BitVec.ofInt 8 (32 : Int)).toNat : Int)) ≤ (122 : Int)))) (K false)
def lines_isKey_j1 (n : Nat) (x4 : Int) : Option ((Bool)) := lines_isKey_j1_b n x4 _ some
def lines_isKey_j1_d : St → Option ((Int) × (AV × AV × AV × AV × (List AObj)))
  | ⟨[(0, p0), (3, p3), (4, .int .u8 x4), (7, p7), (8, p8)], H⟩ => some (x4, (p0, p3, p7, p8, H))
  | _ => none
def lines_isKey_j1_t (v : Int) (w : AV × AV × AV × AV × (List AObj)) : St := ⟨[(0, w.1), (3, w.2.1), (4, .int .u8 v), (7, w.2.2.1), (8, w.2.2.2.1)], w.2.2.2.2⟩
def lines_isKey_j1_k (v : Int) (o : (Bool)) (w : AV × AV × AV × AV × (List AObj)) (R : Type) (K : AExit → St → Option R) : Option R := K .normal ⟨[(0, w.1), (3, w.2.1), (4, .int .u8 v), (5, .bool o), (7, w.2.2.1), (8, w.2.2.2.1)], w.2.2.2.2⟩
def lines_isKey_j1_x (n : Nat) : Ex := xOf lines_isKey_j1_d (fun v => lines_isKey_j1 n v) lines_isKey_j1_k
def lines_isKey_j0_b (n : Nat) (x3 x4 : Int) (x5 : Bool) (R : Type) (K : (Bool) → Option R) : Option R := cond (!x5) (cond (x3 == (0 : Int)) (K true) (cond (decide (x4 < (48 : Int))) (K true) (K (decide (x4 > (57 : Int)))))) (K false)
def lines_isKey_j0 (n : Nat) (x3 x4 : Int) (x5 : Bool) : Option ((Bool)) := lines_isKey_j0_b n x3 x4 x5 _ some
def lines_isKey_j0_d : St → Option ((Int × Int × Bool) × (AV × AV × AV × (List AObj)))
  | ⟨[(0, p0), (3, .int .i64 x3), (4, .int .u8 x4), (5, .bool x5), (7, p7), (8, p8)], H⟩ => some ((x3, x4, x5), (p0, p7, p8, H))
  | _ => none
def lines_isKey_j0_t (v : Int × Int × Bool) (w : AV × AV × AV × (List AObj)) : St := ⟨[(0, w.1), (3, .int .i64 v.1), (4, .int .u8 v.2.1), (5, .bool v.2.2), (7, w.2.1), (8, w.2.2.1)], w.2.2.2⟩
def lines_isKey_j0_k (v : Int × Int × Bool) (o : (Bool)) (w : AV × AV × AV × (List AObj)) (R : Type) (K : AExit → St → Option R) : Option R := K .normal ⟨[(0, w.1), (7, w.2.1), (8, w.2.2.1), (35, .bool o)], w.2.2.2⟩
def lines_isKey_j0_x (n : Nat) : Ex := xOf lines_isKey_j0_d (fun v => lines_isKey_j0 n v.1 v.2.1 v.2.2) lines_isKey_j0_k
def lines_isKey_l0_b (n : Nat) (x0 : Str) (x7 x8 : Int) (R : Type) (A_ : Str → Int → Int → Option R) (K : ((Unit) ⊕ (Unit)) → Option R) : Option R := cond (decide (x8 < x7)) (cond (decide (0 ≤ x8)) ((x0[x8.toNat]?).bind fun b40 => ((lines_isKey_j1 n (b40.toNat : Int)).bind fun o41 => ((lines_isKey_j0 n x8 (b40.toNat : Int) o41).bind fun o42 => (cond o42 (K (Sum.inl ())) (A_ x0 x7 (IntKind.i64.wrap (x8 + (1 : Int)))))))) none) (K (Sum.inr ()))
def lines_isKey_l0 (n : Nat) : Nat → Str → Int → Int → Option ((Unit) ⊕ (Unit))
  | 0, _, _, _ => none
  | m + 1, x0, x7, x8 => lines_isKey_l0_b n x0 x7 x8 _ (lines_isKey_l0 n m) some
def lines_isKey_l0_d : St → Option ((Str × Int × Int) × ((List AObj)))
  | ⟨[(0, .str x0), (7, .int .i64 x7), (8, .int .i64 x8)], H⟩ => some ((x0, x7, x8), H)
  | _ => none
def lines_isKey_l0_t (v : Str × Int × Int) (w : (List AObj)) : St := ⟨[(0, .str v.1), (7, .int .i64 v.2.1), (8, .int .i64 v.2.2)], w⟩
def lines_isKey_l0_k (v : Str × Int × Int) (o : (Unit) ⊕ (Unit)) (w : (List AObj)) (R : Type) (K : AExit → St → Option R) : Option R := Sum.elim (fun (u0 : Unit) => K .ret ⟨[(2, .bool false)], w⟩) (fun (v0 : (Unit)) => K (.exit 0) ⟨[(0, .str v.1)], w⟩) o
def lines_isKey_l0_x (n : Nat) : Ex := xOf lines_isKey_l0_d (fun v => lines_isKey_l0 n n v.1 v.2.1 v.2.2) lines_isKey_l0_k
theorem lines_isKey_j1_snd (n : Nat) : Snd ⟨Tryd.prog, 0, 39⟩ (lines_isKey_j1_x n) (Tryd.f17.body.getD .skip).a2.a1.a2.a1.a1.a2.a2.a1.a1.a2.a2.a1 := snd_sub (t := lines_isKey_j1_t) (b := fun v R K => lines_isKey_j1_b n v R K) (m := (fun e => match e with | .normal => ([0, 3, 4, 5, 7, 8], none) | _ => ([], none))) .a (by intro s v w h; unfold lines_isKey_j1_d at h; split at h <;> first | (cases h; rfl) | cases h) (fun _ _ _ _ => by kernel_rfl) (by intros; unfold lines_isKey_j1_b; simp only [nats]) (fun _ => by kernel_rfl) (by intro e n h; split at h <;> cases h) (by kernel_rfl) (by kernel_rfl) trivial
theorem lines_isKey_j0_snd (n : Nat) : Snd ⟨Tryd.prog, 0, 39⟩ (lines_isKey_j0_x n) (Tryd.f17.body.getD .skip).a2.a1.a2.a1.a1.a2.a2.a1.a1.a2.a2.a2.a1 := snd_sub (t := lines_isKey_j0_t) (b := fun v R K => lines_isKey_j0_b n v.1 v.2.1 v.2.2 R K) (m := (fun e => match e with | .normal => ([0, 7, 8, 35], none) | _ => ([], none))) .a (by intro s v w h; unfold lines_isKey_j0_d at h; split at h <;> first | (cases h; rfl) | cases h) (fun _ _ _ _ => by kernel_rfl) (by intros; unfold lines_isKey_j0_b; simp only [nats]) (fun _ => by kernel_rfl) (by intro e n h; split at h <;> cases h) (by kernel_rfl) (by kernel_rfl) trivial
theorem lines_isKey_l0_snd (n : Nat) : Snd ⟨Tryd.prog, 0, 39⟩ (lines_isKey_l0_x n) (Tryd.f17.body.getD .skip).a2.a1.a2.a1 := snd_loop2 (t := lines_isKey_l0_t) (b := fun v R A K => lines_isKey_l0_b n v.1 v.2.1 v.2.2 R (fun z0 z1 z2 => A (z0, z1, z2)) K) (f := fun m v => lines_isKey_l0 n m v.1 v.2.1 v.2.2) (m := (fun e => match e with | .ret => ([2], none) | .exit 0 => ([0], none) | .normal => ([0, 7, 8], none) | _ => ([], none))) n (.s .a (.s .a (.s (.u (.s .a (.s .a (.s (.p (emaskIn ([0, 3, 4, 7, 8], none) (lines_isKey_j1_x n))) (.s (.p (emaskIn ([0, 3, 4, 5, 7, 8], none) (lines_isKey_j0_x n))) .a))))) .a))) (by intro s v w h; unfold lines_isKey_l0_d at h; split at h <;> first | (cases h; rfl) | cases h) (fun _ _ _ _ => by kernel_rfl) (by intros; unfold lines_isKey_l0_b; simp only [nats]) (fun _ => rfl) (fun _ _ => rfl) (fun _ => rfl) (fun _ _ _ _ _ _ => by kernel_rfl) (fun _ _ _ _ _ _ => by kernel_rfl) (by intro e n h; split at h <;> cases h) (by kernel_rfl) (by kernel_rfl) (ai (snd_in [0, 3, 4, 7, 8] (lines_isKey_j1_snd n)) (ai (snd_in [0, 3, 4, 5, 7, 8] (lines_isKey_j0_snd n)) trivial))
def lines_isKey_b (n : Nat) (a0 : Str) (R : Type) (K : Bool → Option R) : Option R := (lines_isKey_l0 n n a0 (a0.length : Int) (0 : Int)).bind fun o43 => (Sum.elim (fun o44 => K false) (fun o45 => K (!(a0 == ([] : Str)))) o43)
def lines_isKey_f (n : Nat) (a0 : Str) : Option (Bool) := lines_isKey_b n a0 _ some
def lines_isKey_p : List AV → List AObj → Option (Str)
  | [.str a0], [] => some a0
  | _, _ => none
def lines_isKey_sp (n : Nat) : FSpec := spOf lines_isKey_p (fun v => lines_isKey_f n v) (fun o => .bool o) (fun o => [])
theorem lines_isKey_sound (n : Nat) : FSound Tryd.prog 17 (lines_isKey_sp n) := fsound_R (t := fun v => ⟨[(0, .str v)], []⟩) (b := fun v R K => lines_isKey_b n v R K) (nt := 39) (n := some 0) (rs := [.tmp 2]) (.s .a (.s (.s .a (.u (.p (emaskIn ([0, 7, 8], none) (lines_isKey_l0_x n))))) .a)) Tryd.func17 (by kernel_rfl) rfl rfl rfl (fun _ h => by injection h with h; exact h.symm) (by decide) (by kernel_rfl) (by intro s v w h; unfold lines_isKey_p at h; split at h <;> first | (cases h; exact ⟨Nat.le_of_ble_eq_true rfl, rfl, rfl⟩) | cases h) (fun _ _ _ => by kernel_rfl) (by intros; unfold lines_isKey_b; simp only [nats]) (fun _ => by kernel_rfl) (by kernel_rfl) (by kernel_rfl) (ai (snd_in [0, 7, 8] (lines_isKey_l0_snd n)) trivial)

def lines_Parse_r0_j0_b (n : Nat) (x11 : Str) (x13 : Bool) (h0_0 h1_0 : List (List AV)) (h2_0 : Str) (R : Type) (K : (Bool × (List (List AV)) × (List (List AV)) × Str) → Option R) : Option R := cond (!x13) (K (true, h0_0, h1_0, h2_0)) ((lines_isKey_f n x11).bind fun o46 => (cond (!o46) (K (true, h0_0, h1_0, h2_0)) (K (h2_0 == ([] : Str), h0_0, h1_0, h2_0))))
def lines_Parse_r0_j0 (n : Nat) (x11 : Str) (x13 : Bool) (h0_0 h1_0 : List (List AV)) (h2_0 : Str) : Option ((Bool × (List (List AV)) × (List (List AV)) × Str)) := lines_Parse_r0_j0_b n x11 x13 h0_0 h1_0 h2_0 _ some
def lines_Parse_r0_j0_d : St → Option ((Str × Bool × (List (List AV)) × (List (List AV)) × Str) × (AV × AV × AV × AV))
  | ⟨[(4, p4), (5, p5), (6, .ptr (some (2, 0))), (7, p7), (11, .str x11), (12, p12), (13, .bool x13)], [.cells 24 [.sl true 4 h0_0], .cells 25 [.sl true 2 h1_0], .cells 9 [.str h2_0]]⟩ => some ((x11, x13, h0_0, h1_0, h2_0), (p4, p5, p7, p12))
  | _ => none
def lines_Parse_r0_j0_t (v : Str × Bool × (List (List AV)) × (List (List AV)) × Str) (w : AV × AV × AV × AV) : St := ⟨[(4, w.1), (5, w.2.1), (6, .ptr (some (2, 0))), (7, w.2.2.1), (11, .str v.1), (12, w.2.2.2), (13, .bool v.2.1)], [.cells 24 [.sl true 4 v.2.2.1], .cells 25 [.sl true 2 v.2.2.2.1], .cells 9 [.str v.2.2.2.2]]⟩
def lines_Parse_r0_j0_k (v : Str × Bool × (List (List AV)) × (List (List AV)) × Str) (o : (Bool × (List (List AV)) × (List (List AV)) × Str)) (w : AV × AV × AV × AV) (R : Type) (K : AExit → St → Option R) : Option R := K .normal ⟨[(4, w.1), (5, w.2.1), (6, .ptr (some (2, 0))), (7, w.2.2.1), (11, .str v.1), (12, w.2.2.2), (50, .bool o.1)], [.cells 24 [.sl true 4 o.2.1], .cells 25 [.sl true 2 o.2.2.1], .cells 9 [.str o.2.2.2]]⟩
def lines_Parse_r0_j0_x (n : Nat) : Ex := xOf lines_Parse_r0_j0_d (fun v => lines_Parse_r0_j0 n v.1 v.2.1 v.2.2.1 v.2.2.2.1 v.2.2.2.2) lines_Parse_r0_j0_k
def lines_Parse_r0_j1_b (n : Nat) (x8 x11 : Str) (x13 : Bool) (h0_0 h1_0 : List (List AV)) (h2_0 : Str) (R : Type) (K : (((List (List AV)) × (List (List AV)) × Str) ⊕ ((List (List AV)) × (List (List AV)) × Str)) → Option R) : Option R := (strings_HasPrefix_f n x8 ([91] : Str)).bind fun o39 => (cond o39 (K (Sum.inl (h0_0, h1_0, ([] : Str)))) ((lines_Parse_r0_j0 n x11 x13 h0_0 h1_0 h2_0).bind fun o47 => (cond o47.1 (K (Sum.inl (o47.2.1, o47.2.2.1, o47.2.2.2))) (K (Sum.inr (o47.2.1, o47.2.2.1, o47.2.2.2))))))
def lines_Parse_r0_j1 (n : Nat) (x8 x11 : Str) (x13 : Bool) (h0_0 h1_0 : List (List AV)) (h2_0 : Str) : Option (((List (List AV)) × (List (List AV)) × Str) ⊕ ((List (List AV)) × (List (List AV)) × Str)) := lines_Parse_r0_j1_b n x8 x11 x13 h0_0 h1_0 h2_0 _ some
def lines_Parse_r0_j1_d : St → Option ((Str × Str × Bool × (List (List AV)) × (List (List AV)) × Str) × (AV × AV × AV × AV))
  | ⟨[(4, p4), (5, p5), (6, .ptr (some (2, 0))), (7, p7), (8, .str x8), (11, .str x11), (12, p12), (13, .bool x13)], [.cells 24 [.sl true 4 h0_0], .cells 25 [.sl true 2 h1_0], .cells 9 [.str h2_0]]⟩ => some ((x8, x11, x13, h0_0, h1_0, h2_0), (p4, p5, p7, p12))
  | _ => none
def lines_Parse_r0_j1_t (v : Str × Str × Bool × (List (List AV)) × (List (List AV)) × Str) (w : AV × AV × AV × AV) : St := ⟨[(4, w.1), (5, w.2.1), (6, .ptr (some (2, 0))), (7, w.2.2.1), (8, .str v.1), (11, .str v.2.1), (12, w.2.2.2), (13, .bool v.2.2.1)], [.cells 24 [.sl true 4 v.2.2.2.1], .cells 25 [.sl true 2 v.2.2.2.2.1], .cells 9 [.str v.2.2.2.2.2]]⟩
def lines_Parse_r0_j1_k (v : Str × Str × Bool × (List (List AV)) × (List (List AV)) × Str) (o : ((List (List AV)) × (List (List AV)) × Str) ⊕ ((List (List AV)) × (List (List AV)) × Str)) (w : AV × AV × AV × AV) (R : Type) (K : AExit → St → Option R) : Option R := Sum.elim (fun (u0 : (List (List AV)) × (List (List AV)) × Str) => K .normal ⟨[(5, w.2.1), (7, w.2.2.1)], [.cells 24 [.sl true 4 u0.1], .cells 25 [.sl true 2 u0.2.1], .cells 9 [.str u0.2.2]]⟩) (fun (v0 : ((List (List AV)) × (List (List AV)) × Str)) => K (.exit 5) ⟨[(4, w.1), (6, .ptr (some (2, 0))), (7, w.2.2.1), (11, .str v.2.1), (12, w.2.2.2)], [.cells 24 [.sl true 4 v0.1], .cells 25 [.sl true 2 v0.2.1], .cells 9 [.str v0.2.2]]⟩) o
def lines_Parse_r0_j1_x (n : Nat) : Ex := xOf lines_Parse_r0_j1_d (fun v => lines_Parse_r0_j1 n v.1 v.2.1 v.2.2.1 v.2.2.2.1 v.2.2.2.2.1 v.2.2.2.2.2) lines_Parse_r0_j1_k
theorem lines_Parse_r0_j0_snd (n : Nat) : Snd ⟨Tryd.prog, 3, 78⟩ (lines_Parse_r0_j0_x n) (Tryd.f9.body.getD .skip).a2.a2.a2.a2.a2.a1.a2.a1.rb.a1.a2.a2.a2.a2.a1.a1.a1.a1.a1.a1.a1.a1.a2.a1 := snd_sub (t := lines_Parse_r0_j0_t) (b := fun v R K => lines_Parse_r0_j0_b n v.1 v.2.1 v.2.2.1 v.2.2.2.1 v.2.2.2.2 R K) (m := (fun e => match e with | .normal => ([4, 5, 6, 7, 11, 12, 50], none) | _ => ([], none))) (.r [(4, .cl 17 (lines_isKey_sp n))]) (by intro s v w h; unfold lines_Parse_r0_j0_d at h; split at h <;> first | (cases h; rfl) | cases h) (fun _ _ _ _ => by kernel_rfl) (by intros; unfold lines_Parse_r0_j0_b; simp only [nats]) (fun _ => by kernel_rfl) (by intro e n h; split at h <;> cases h) (by kernel_rfl) (by kernel_rfl) (ai (lines_isKey_sound n) trivial)
theorem lines_Parse_r0_j1_snd (n : Nat) : Snd ⟨Tryd.prog, 3, 78⟩ (lines_Parse_r0_j1_x n) (Tryd.f9.body.getD .skip).a2.a2.a2.a2.a2.a1.a2.a1.rb.a1.a2.a2.a2.a2.a1.a1.a1.a1 := snd_sub (t := lines_Parse_r0_j1_t) (b := fun v R K => lines_Parse_r0_j1_b n v.1 v.2.1 v.2.2.1 v.2.2.2.1 v.2.2.2.2.1 v.2.2.2.2.2 R K) (m := (fun e => match e with | .normal => ([5, 7], none) | .exit 5 => ([4, 6, 7, 11, 12], none) | _ => ([], none))) (.u (.s (.u (.s (.s (.s (.r [(1, .cl 16 (strings_HasPrefix_sp n))]) .a) (.s (.p (emaskIn ([4, 5, 6, 7, 11, 12, 13], none) (lines_Parse_r0_j0_x n))) .a)) .a)) .a)) (by intro s v w h; unfold lines_Parse_r0_j1_d at h; split at h <;> first | (cases h; rfl) | cases h) (fun _ _ _ _ => by kernel_rfl) (by intros; unfold lines_Parse_r0_j1_b; simp only [nats]) (fun _ => by kernel_rfl) (by intro e n h; split at h <;> cases h) (by kernel_rfl) (by kernel_rfl) (ai (strings_HasPrefix_sound n) (ai (snd_in [4, 5, 6, 7, 11, 12, 13] (lines_Parse_r0_j0_snd n)) trivial))
def lines_Parse_r0_b (n : Nat) (a0 : Int) (a1 : Str) (h0 h1 : List (List AV)) (h2 : Str) (R : Type) (K : ((List (List AV)) × (List (List AV)) × Str) → Option R) : Option R := cond (decide ((a1.length : Int) > (4096 : Int))) (cond (decide ((h1.length + ([[.int .i64 a0, .int .i64 (3 : Int)]] : List (List AV)).length) * 16 ≤ 140737488355328)) (K (h0, h1 ++ ([[.int .i64 a0, .int .i64 (3 : Int)]] : List (List AV)), h2)) none) ((lines_section_f n a1).bind fun o36 => (cond o36.2 (K (h0, h1, o36.1)) ((strings_Cut_f n a1 ([61] : Str)).bind fun o37 => ((lines_trim_f n o37.1).bind fun o38 => ((lines_Parse_r0_j1 n a1 o38 o37.2.2 h0 h1 h2).bind fun o48 => (Sum.elim (fun o49 => cond (decide ((o49.2.1.length + ([[.int .i64 a0, .int .i64 (110 : Int)]] : List (List AV)).length) * 16 ≤ 140737488355328)) (K (o49.1, o49.2.1 ++ ([[.int .i64 a0, .int .i64 (110 : Int)]] : List (List AV)), o49.2.2)) none) (fun o50 => (lines_trim_f n o37.2.1).bind fun o51 => (cond (decide ((o50.1.length + ([[.int .i64 a0, .str o50.2.2, .str o38, .str o51]] : List (List AV)).length) * 56 ≤ 140737488355328)) (K (o50.1 ++ ([[.int .i64 a0, .str o50.2.2, .str o38, .str o51]] : List (List AV)), o50.2.1, o50.2.2)) none)) o48))))))
def lines_Parse_r0_f (n : Nat) (a0 : Int) (a1 : Str) (h0 h1 : List (List AV)) (h2 : Str) : Option ((List (List AV)) × (List (List AV)) × Str) := lines_Parse_r0_b n a0 a1 h0 h1 h2 _ some
def lines_Parse_r0_p : List AV → List AObj → Option (Int × Str × (List (List AV)) × (List (List AV)) × Str)
  | [.int .i64 a0, .str a1, .ptr (some (0, 0)), .ptr (some (1, 0)), .ptr (some (2, 0))], [.cells 24 [.sl true 4 h0], .cells 25 [.sl true 2 h1], .cells 9 [.str h2]] => some (a0, a1, h0, h1, h2)
  | _, _ => none
def lines_Parse_r0_sp (n : Nat) : FSpec := spOf lines_Parse_r0_p (fun v => lines_Parse_r0_f n v.1 v.2.1 v.2.2.1 v.2.2.2.1 v.2.2.2.2) (fun _ => .bool true) (fun o => [.cells 24 [.sl true 4 o.1], .cells 25 [.sl true 2 o.2.1], .cells 9 [.str o.2.2]])
theorem lines_Parse_r0_sound (n : Nat) : RSound Tryd.prog 0 (lines_Parse_r0_sp n) := rsound_R (t := fun v => ⟨[(22, .int .i64 v.1), (23, .str v.2.1), (4, .ptr (some (0, 0))), (5, .ptr (some (1, 0))), (6, .ptr (some (2, 0)))], [.cells 24 [.sl true 4 v.2.2.1], .cells 25 [.sl true 2 v.2.2.2.1], .cells 9 [.str v.2.2.2.2]]⟩) (b := fun v R K => lines_Parse_r0_b n v.1 v.2.1 v.2.2.1 v.2.2.2.1 v.2.2.2.2 R K) (nt := 78) (nb := 3) (ps := [22, 23]) (sl := [4, 5, 6]) (ca := (Tryd.f9.body.getD .skip).a2.a2.a2.a2.a2.a1.a2.a1.ra) (cb := (Tryd.f9.body.getD .skip).a2.a2.a2.a2.a2.a1.a2.a1.rb) (n := some 3) .a (.u (.s (.s .a (.s (.s (.r [(0, .lt), (4, .tk [27]), (5, .tk [31])]) .a) .a)) (.s (.s (.r [(1, .cl 13 (lines_section_sp n)), (4, .tk [32])]) .a) (.s (.r [(1, .cl 14 (strings_Cut_sp n)), (5, .tk [39])]) (.s (.r [(1, .cl 15 (lines_trim_sp n))]) (.u (.s (.u (.s (.p (emaskIn ([4, 5, 6, 7, 8, 11, 12, 13], none) (lines_Parse_r0_j1_x n))) (.s (.r [(0, .lt), (4, .tk [62]), (5, .tk [66])]) .a))) (.s (.d [(0, .lt), (5, .cl 15 (lines_trim_sp n)), (8, .tk [67]), (9, .tk [75])] [(0, .part [0]), (2, .part [2]), (9, .part [0])]) .a)))))))) (by kernel_rfl) (by decide) (by decide) (by kernel_rfl) (by kernel_rfl) (fun _ h => by injection h with h; exact h.symm) (by intro s v w h; unfold lines_Parse_r0_p at h; split at h <;> first | (cases h; exact ⟨rfl, rfl, rfl⟩) | cases h) (fun _ _ _ => by kernel_rfl) (by intros; unfold lines_Parse_r0_b; simp only [nats]) (fun _ => by kernel_rfl) (by kernel_rfl) (by kernel_rfl) trivial (by kernel_rfl) (by kernel_rfl) (ai (lines_section_sound n) (ai (strings_Cut_sound n) (ai (lines_trim_sound n) (ai (snd_in [4, 5, 6, 7, 8, 11, 12, 13] (lines_Parse_r0_j1_snd n)) (ai (lines_trim_sound n) trivial)))))

def lines_whole_1_l3_b (n : Nat) (x3 : Nat) (x13 x14 : Int) (h1_0 : Str) (h2_0 h3_0 : List (List AV)) (h4_0 : Str) (h5_0 : List Str) (R : Type) (A_ : Nat → Int → Int → Str → (List (List AV)) → (List (List AV)) → Str → (List Str) → Option R) (K : (Str × (List (List AV)) × (List (List AV)) × Str × (List Str)) → Option R) : Option R := cond (decide (x14 < x13)) (cond (decide (0 ≤ x14)) (cond (decide (x14 < (x3 : Int))) ((h5_0[0 + Int.toNat x14 * 1]?).bind fun y54 => ((strings_TrimSuffix_f n y54 ([13] : Str)).bind fun o55 => (cond (decide (0 ≤ x14)) (cond (decide (x14 < (x3 : Int))) (cond (decide (0 + Int.toNat x14 * 1 < h5_0.length)) (A_ x3 x13 (IntKind.i64.wrap (x14 + (1 : Int))) h1_0 h2_0 h3_0 h4_0 (h5_0.set (0 + Int.toNat x14 * 1) o55)) none) none) none))) none) none) (K (h1_0, h2_0, h3_0, h4_0, h5_0))
def lines_whole_1_l3 (n : Nat) : Nat → Nat → Int → Int → Str → (List (List AV)) → (List (List AV)) → Str → (List Str) → Option ((Str × (List (List AV)) × (List (List AV)) × Str × (List Str)))
  | 0, _, _, _, _, _, _, _, _ => none
  | m + 1, x3, x13, x14, h1_0, h2_0, h3_0, h4_0, h5_0 => lines_whole_1_l3_b n x3 x13 x14 h1_0 h2_0 h3_0 h4_0 h5_0 _ (lines_whole_1_l3 n m) some
def lines_whole_1_l3_d : St → Option ((Nat × Int × Int × Str × (List (List AV)) × (List (List AV)) × Str × (List Str)) × (AV))
  | ⟨[(0, p0), (3, .mut 5 0 x3 1), (13, .int .i64 x13), (14, .int .i64 x14)], [.loop 0 [.ptr (some (2, 0)), .ptr (some (3, 0)), .ptr (some (4, 0))], .cells 9 [.str h1_0], .cells 24 [.sl true 4 h2_0], .cells 25 [.sl true 2 h3_0], .cells 9 [.str h4_0], .rowS 9 h5_0]⟩ => some ((x3, x13, x14, h1_0, h2_0, h3_0, h4_0, h5_0), p0)
  | _ => none
def lines_whole_1_l3_t (v : Nat × Int × Int × Str × (List (List AV)) × (List (List AV)) × Str × (List Str)) (w : AV) : St := ⟨[(0, w), (3, .mut 5 0 v.1 1), (13, .int .i64 v.2.1), (14, .int .i64 v.2.2.1)], [.loop 0 [.ptr (some (2, 0)), .ptr (some (3, 0)), .ptr (some (4, 0))], .cells 9 [.str v.2.2.2.1], .cells 24 [.sl true 4 v.2.2.2.2.1], .cells 25 [.sl true 2 v.2.2.2.2.2.1], .cells 9 [.str v.2.2.2.2.2.2.1], .rowS 9 v.2.2.2.2.2.2.2]⟩
def lines_whole_1_l3_k (v : Nat × Int × Int × Str × (List (List AV)) × (List (List AV)) × Str × (List Str)) (o : (Str × (List (List AV)) × (List (List AV)) × Str × (List Str))) (w : AV) (R : Type) (K : AExit → St → Option R) : Option R := K (.exit 0) ⟨[(0, w), (3, .mut 5 0 v.1 1)], [.loop 0 [.ptr (some (2, 0)), .ptr (some (3, 0)), .ptr (some (4, 0))], .cells 9 [.str o.1], .cells 24 [.sl true 4 o.2.1], .cells 25 [.sl true 2 o.2.2.1], .cells 9 [.str o.2.2.2.1], .rowS 9 o.2.2.2.2]⟩
def lines_whole_1_l3_x (n : Nat) : Ex := xOf lines_whole_1_l3_d (fun v => lines_whole_1_l3 n n v.1 v.2.1 v.2.2.1 v.2.2.2.1 v.2.2.2.2.1 v.2.2.2.2.2.1 v.2.2.2.2.2.2.1 v.2.2.2.2.2.2.2) lines_whole_1_l3_k
def lines_whole_1_j1_b (n : Nat) (x3 : Nat) (x5 : Int) (h1_0 : Str) (h2_0 h3_0 : List (List AV)) (h4_0 : Str) (h5_0 : List Str) (R : Type) (K : (Bool × Str × (List (List AV)) × (List (List AV)) × Str × (List Str)) → Option R) : Option R := cond (decide (0 ≤ x5)) (cond (decide (x5 < (x3 : Int))) ((h5_0[0 + Int.toNat x5 * 1]?).bind fun y59 => ((lines_trim_f n y59).bind fun o60 => (cond (o60 == ([] : Str)) (K (true, h1_0, h2_0, h3_0, h4_0, h5_0)) (cond (decide (0 ≤ x5)) (cond (decide (x5 < (x3 : Int))) ((h5_0[0 + Int.toNat x5 * 1]?).bind fun y62 => ((lines_comment_f n y62).bind fun o63 => (K (o63, h1_0, h2_0, h3_0, h4_0, h5_0)))) none) none)))) none) none
def lines_whole_1_j1 (n : Nat) (x3 : Nat) (x5 : Int) (h1_0 : Str) (h2_0 h3_0 : List (List AV)) (h4_0 : Str) (h5_0 : List Str) : Option ((Bool × Str × (List (List AV)) × (List (List AV)) × Str × (List Str))) := lines_whole_1_j1_b n x3 x5 h1_0 h2_0 h3_0 h4_0 h5_0 _ some
def lines_whole_1_j1_d : St → Option ((Nat × Int × Str × (List (List AV)) × (List (List AV)) × Str × (List Str)) × (AV))
  | ⟨[(0, p0), (3, .mut 5 0 x3 1), (5, .int .i64 x5)], [.loop 0 [.ptr (some (2, 0)), .ptr (some (3, 0)), .ptr (some (4, 0))], .cells 9 [.str h1_0], .cells 24 [.sl true 4 h2_0], .cells 25 [.sl true 2 h3_0], .cells 9 [.str h4_0], .rowS 9 h5_0]⟩ => some ((x3, x5, h1_0, h2_0, h3_0, h4_0, h5_0), p0)
  | _ => none
def lines_whole_1_j1_t (v : Nat × Int × Str × (List (List AV)) × (List (List AV)) × Str × (List Str)) (w : AV) : St := ⟨[(0, w), (3, .mut 5 0 v.1 1), (5, .int .i64 v.2.1)], [.loop 0 [.ptr (some (2, 0)), .ptr (some (3, 0)), .ptr (some (4, 0))], .cells 9 [.str v.2.2.1], .cells 24 [.sl true 4 v.2.2.2.1], .cells 25 [.sl true 2 v.2.2.2.2.1], .cells 9 [.str v.2.2.2.2.2.1], .rowS 9 v.2.2.2.2.2.2]⟩
def lines_whole_1_j1_k (v : Nat × Int × Str × (List (List AV)) × (List (List AV)) × Str × (List Str)) (o : (Bool × Str × (List (List AV)) × (List (List AV)) × Str × (List Str))) (w : AV) (R : Type) (K : AExit → St → Option R) : Option R := K .normal ⟨[(0, w), (3, .mut 5 0 v.1 1), (5, .int .i64 v.2.1), (44, .bool o.1)], [.loop 0 [.ptr (some (2, 0)), .ptr (some (3, 0)), .ptr (some (4, 0))], .cells 9 [.str o.2.1], .cells 24 [.sl true 4 o.2.2.1], .cells 25 [.sl true 2 o.2.2.2.1], .cells 9 [.str o.2.2.2.2.1], .rowS 9 o.2.2.2.2.2]⟩
def lines_whole_1_j1_x (n : Nat) : Ex := xOf lines_whole_1_j1_d (fun v => lines_whole_1_j1 n v.1 v.2.1 v.2.2.1 v.2.2.2.1 v.2.2.2.2.1 v.2.2.2.2.2.1 v.2.2.2.2.2.2) lines_whole_1_j1_k
def lines_whole_1_j0_b (n : Nat) (x3 : Nat) (x5 : Int) (h1_0 : Str) (h2_0 h3_0 : List (List AV)) (h4_0 : Str) (h5_0 : List Str) (h6_0 : List Int) (R : Type) (K : (Bool × Str × (List (List AV)) × (List (List AV)) × Str × (List Str) × (List Int)) → Option R) : Option R := cond (decide (x5 < (x3 : Int))) (cond (decide (0 ≤ x5)) (cond (decide (x5 < (x3 : Int))) ((h5_0[0 + Int.toNat x5 * 1]?).bind fun y70 => ((lines_comment_f n y70).bind fun o71 => (K (o71, h1_0, h2_0, h3_0, h4_0, h5_0, h6_0)))) none) none) (K (false, h1_0, h2_0, h3_0, h4_0, h5_0, h6_0))
def lines_whole_1_j0 (n : Nat) (x3 : Nat) (x5 : Int) (h1_0 : Str) (h2_0 h3_0 : List (List AV)) (h4_0 : Str) (h5_0 : List Str) (h6_0 : List Int) : Option ((Bool × Str × (List (List AV)) × (List (List AV)) × Str × (List Str) × (List Int))) := lines_whole_1_j0_b n x3 x5 h1_0 h2_0 h3_0 h4_0 h5_0 h6_0 _ some
def lines_whole_1_j0_d : St → Option ((Nat × Int × Str × (List (List AV)) × (List (List AV)) × Str × (List Str) × (List Int)) × (AV × AV × AV))
  | ⟨[(0, p0), (3, .mut 5 0 x3 1), (5, .int .i64 x5), (6, p6), (7, p7)], [.loop 0 [.ptr (some (2, 0)), .ptr (some (3, 0)), .ptr (some (4, 0))], .cells 9 [.str h1_0], .cells 24 [.sl true 4 h2_0], .cells 25 [.sl true 2 h3_0], .cells 9 [.str h4_0], .rowS 9 h5_0, .buf 0 60 h6_0]⟩ => some ((x3, x5, h1_0, h2_0, h3_0, h4_0, h5_0, h6_0), (p0, p6, p7))
  | _ => none
def lines_whole_1_j0_t (v : Nat × Int × Str × (List (List AV)) × (List (List AV)) × Str × (List Str) × (List Int)) (w : AV × AV × AV) : St := ⟨[(0, w.1), (3, .mut 5 0 v.1 1), (5, .int .i64 v.2.1), (6, w.2.1), (7, w.2.2)], [.loop 0 [.ptr (some (2, 0)), .ptr (some (3, 0)), .ptr (some (4, 0))], .cells 9 [.str v.2.2.1], .cells 24 [.sl true 4 v.2.2.2.1], .cells 25 [.sl true 2 v.2.2.2.2.1], .cells 9 [.str v.2.2.2.2.2.1], .rowS 9 v.2.2.2.2.2.2.1, .buf 0 60 v.2.2.2.2.2.2.2]⟩
def lines_whole_1_j0_k (v : Nat × Int × Str × (List (List AV)) × (List (List AV)) × Str × (List Str) × (List Int)) (o : (Bool × Str × (List (List AV)) × (List (List AV)) × Str × (List Str) × (List Int))) (w : AV × AV × AV) (R : Type) (K : AExit → St → Option R) : Option R := K .normal ⟨[(0, w.1), (3, .mut 5 0 v.1 1), (5, .int .i64 v.2.1), (6, w.2.1), (7, w.2.2), (73, .bool o.1)], [.loop 0 [.ptr (some (2, 0)), .ptr (some (3, 0)), .ptr (some (4, 0))], .cells 9 [.str o.2.1], .cells 24 [.sl true 4 o.2.2.1], .cells 25 [.sl true 2 o.2.2.2.1], .cells 9 [.str o.2.2.2.2.1], .rowS 9 o.2.2.2.2.2.1, .buf 0 60 o.2.2.2.2.2.2]⟩
def lines_whole_1_j0_x (n : Nat) : Ex := xOf lines_whole_1_j0_d (fun v => lines_whole_1_j0 n v.1 v.2.1 v.2.2.1 v.2.2.2.1 v.2.2.2.2.1 v.2.2.2.2.2.1 v.2.2.2.2.2.2.1 v.2.2.2.2.2.2.2) lines_whole_1_j0_k
def lines_whole_1_l2_b (n : Nat) (x3 : Nat) (x5 : Int) (h1_0 : Str) (h2_0 h3_0 : List (List AV)) (h4_0 : Str) (h5_0 : List Str) (h6_0 : List Int) (R : Type) (A_ : Nat → Int → Str → (List (List AV)) → (List (List AV)) → Str → (List Str) → (List Int) → Option R) (K : (Int × Str × (List (List AV)) × (List (List AV)) × Str × (List Str) × (List Int)) → Option R) : Option R := (lines_whole_1_j0 n x3 x5 h1_0 h2_0 h3_0 h4_0 h5_0 h6_0).bind fun o72 => (cond o72.1 (A_ x3 (IntKind.i64.wrap (x5 + (1 : Int))) o72.2.1 o72.2.2.1 o72.2.2.2.1 o72.2.2.2.2.1 o72.2.2.2.2.2.1 o72.2.2.2.2.2.2) (K (x5, o72.2.1, o72.2.2.1, o72.2.2.2.1, o72.2.2.2.2.1, o72.2.2.2.2.2.1, o72.2.2.2.2.2.2)))
def lines_whole_1_l2 (n : Nat) : Nat → Nat → Int → Str → (List (List AV)) → (List (List AV)) → Str → (List Str) → (List Int) → Option ((Int × Str × (List (List AV)) × (List (List AV)) × Str × (List Str) × (List Int)))
  | 0, _, _, _, _, _, _, _, _ => none
  | m + 1, x3, x5, h1_0, h2_0, h3_0, h4_0, h5_0, h6_0 => lines_whole_1_l2_b n x3 x5 h1_0 h2_0 h3_0 h4_0 h5_0 h6_0 _ (lines_whole_1_l2 n m) some
def lines_whole_1_l2_d : St → Option ((Nat × Int × Str × (List (List AV)) × (List (List AV)) × Str × (List Str) × (List Int)) × (AV × AV × AV))
  | ⟨[(0, p0), (3, .mut 5 0 x3 1), (5, .int .i64 x5), (6, p6), (7, p7)], [.loop 0 [.ptr (some (2, 0)), .ptr (some (3, 0)), .ptr (some (4, 0))], .cells 9 [.str h1_0], .cells 24 [.sl true 4 h2_0], .cells 25 [.sl true 2 h3_0], .cells 9 [.str h4_0], .rowS 9 h5_0, .buf 0 60 h6_0]⟩ => some ((x3, x5, h1_0, h2_0, h3_0, h4_0, h5_0, h6_0), (p0, p6, p7))
  | _ => none
def lines_whole_1_l2_t (v : Nat × Int × Str × (List (List AV)) × (List (List AV)) × Str × (List Str) × (List Int)) (w : AV × AV × AV) : St := ⟨[(0, w.1), (3, .mut 5 0 v.1 1), (5, .int .i64 v.2.1), (6, w.2.1), (7, w.2.2)], [.loop 0 [.ptr (some (2, 0)), .ptr (some (3, 0)), .ptr (some (4, 0))], .cells 9 [.str v.2.2.1], .cells 24 [.sl true 4 v.2.2.2.1], .cells 25 [.sl true 2 v.2.2.2.2.1], .cells 9 [.str v.2.2.2.2.2.1], .rowS 9 v.2.2.2.2.2.2.1, .buf 0 60 v.2.2.2.2.2.2.2]⟩
def lines_whole_1_l2_k (v : Nat × Int × Str × (List (List AV)) × (List (List AV)) × Str × (List Str) × (List Int)) (o : (Int × Str × (List (List AV)) × (List (List AV)) × Str × (List Str) × (List Int))) (w : AV × AV × AV) (R : Type) (K : AExit → St → Option R) : Option R := K (.exit 6) ⟨[(0, w.1), (3, .mut 5 0 v.1 1), (5, .int .i64 o.1), (6, w.2.1), (7, w.2.2)], [.loop 0 [.ptr (some (2, 0)), .ptr (some (3, 0)), .ptr (some (4, 0))], .cells 9 [.str o.2.1], .cells 24 [.sl true 4 o.2.2.1], .cells 25 [.sl true 2 o.2.2.2.1], .cells 9 [.str o.2.2.2.2.1], .rowS 9 o.2.2.2.2.2.1, .buf 0 60 o.2.2.2.2.2.2]⟩
def lines_whole_1_l2_x (n : Nat) : Ex := xOf lines_whole_1_l2_d (fun v => lines_whole_1_l2 n n v.1 v.2.1 v.2.2.1 v.2.2.2.1 v.2.2.2.2.1 v.2.2.2.2.2.1 v.2.2.2.2.2.2.1 v.2.2.2.2.2.2.2) lines_whole_1_l2_k
def lines_whole_1_l1_b (n : Nat) (x3 : Nat) (x5 : Int) (h1_0 : Str) (h2_0 h3_0 : List (List AV)) (h4_0 : Str) (h5_0 : List Str) (h6_0 : List Int) (R : Type) (A_ : Nat → Int → Str → (List (List AV)) → (List (List AV)) → Str → (List Str) → (List Int) → Option R) (K : (Int × Str × (List (List AV)) × (List (List AV)) × Str × (List Str) × (List Int)) → Option R) : Option R := cond (decide (0 ≤ x5)) (cond (decide (x5 < (x3 : Int))) ((h5_0[0 + Int.toNat x5 * 1]?).bind fun y66 => ((strings_CutSuffix_f n y66 ([92] : Str)).bind fun o67 => (cond (decide ((h6_0.length + o67.1.length) * 1 ≤ 140737488355328)) (cond (!o67.2) (K (x5, h1_0, h2_0, h3_0, h4_0, h5_0, h6_0 ++ intsOf o67.1)) ((([32, 9] : Str)[0]?).bind fun b68 => (cond (decide (((h6_0 ++ intsOf o67.1).length + 1) * 1 ≤ 140737488355328)) ((lines_whole_1_l2 n n x3 (IntKind.i64.wrap (x5 + (1 : Int))) h1_0 h2_0 h3_0 h4_0 h5_0 ((h6_0 ++ intsOf o67.1) ++ [(b68.toNat : Int)])).bind fun o73 => (cond (decide (o73.1 ≥ (x3 : Int))) (K (o73.1, o73.2.1, o73.2.2.1, o73.2.2.2.1, o73.2.2.2.2.1, o73.2.2.2.2.2.1, o73.2.2.2.2.2.2)) (A_ x3 o73.1 o73.2.1 o73.2.2.1 o73.2.2.2.1 o73.2.2.2.2.1 o73.2.2.2.2.2.1 o73.2.2.2.2.2.2))) none))) none))) none) none
def lines_whole_1_l1 (n : Nat) : Nat → Nat → Int → Str → (List (List AV)) → (List (List AV)) → Str → (List Str) → (List Int) → Option ((Int × Str × (List (List AV)) × (List (List AV)) × Str × (List Str) × (List Int)))
  | 0, _, _, _, _, _, _, _, _ => none
  | m + 1, x3, x5, h1_0, h2_0, h3_0, h4_0, h5_0, h6_0 => lines_whole_1_l1_b n x3 x5 h1_0 h2_0 h3_0 h4_0 h5_0 h6_0 _ (lines_whole_1_l1 n m) some
def lines_whole_1_l1_d : St → Option ((Nat × Int × Str × (List (List AV)) × (List (List AV)) × Str × (List Str) × (List Int)) × (AV × AV))
  | ⟨[(0, p0), (3, .mut 5 0 x3 1), (5, .int .i64 x5), (6, p6), (7, .ptr (some (6, 0)))], [.loop 0 [.ptr (some (2, 0)), .ptr (some (3, 0)), .ptr (some (4, 0))], .cells 9 [.str h1_0], .cells 24 [.sl true 4 h2_0], .cells 25 [.sl true 2 h3_0], .cells 9 [.str h4_0], .rowS 9 h5_0, .buf 0 60 h6_0]⟩ => some ((x3, x5, h1_0, h2_0, h3_0, h4_0, h5_0, h6_0), (p0, p6))
  | _ => none
def lines_whole_1_l1_t (v : Nat × Int × Str × (List (List AV)) × (List (List AV)) × Str × (List Str) × (List Int)) (w : AV × AV) : St := ⟨[(0, w.1), (3, .mut 5 0 v.1 1), (5, .int .i64 v.2.1), (6, w.2), (7, .ptr (some (6, 0)))], [.loop 0 [.ptr (some (2, 0)), .ptr (some (3, 0)), .ptr (some (4, 0))], .cells 9 [.str v.2.2.1], .cells 24 [.sl true 4 v.2.2.2.1], .cells 25 [.sl true 2 v.2.2.2.2.1], .cells 9 [.str v.2.2.2.2.2.1], .rowS 9 v.2.2.2.2.2.2.1, .buf 0 60 v.2.2.2.2.2.2.2]⟩
def lines_whole_1_l1_k (v : Nat × Int × Str × (List (List AV)) × (List (List AV)) × Str × (List Str) × (List Int)) (o : (Int × Str × (List (List AV)) × (List (List AV)) × Str × (List Str) × (List Int))) (w : AV × AV) (R : Type) (K : AExit → St → Option R) : Option R := K (.exit 4) ⟨[(0, w.1), (3, .mut 5 0 v.1 1), (5, .int .i64 o.1), (6, w.2), (7, .ptr (some (6, 0)))], [.loop 0 [.ptr (some (2, 0)), .ptr (some (3, 0)), .ptr (some (4, 0))], .cells 9 [.str o.2.1], .cells 24 [.sl true 4 o.2.2.1], .cells 25 [.sl true 2 o.2.2.2.1], .cells 9 [.str o.2.2.2.2.1], .rowS 9 o.2.2.2.2.2.1, .buf 0 60 o.2.2.2.2.2.2]⟩
def lines_whole_1_l1_x (n : Nat) : Ex := xOf lines_whole_1_l1_d (fun v => lines_whole_1_l1 n n v.1 v.2.1 v.2.2.1 v.2.2.2.1 v.2.2.2.2.1 v.2.2.2.2.2.1 v.2.2.2.2.2.2.1 v.2.2.2.2.2.2.2) lines_whole_1_l1_k
def lines_whole_1_j2_b (n : Nat) (x3 : Nat) (x5 : Int) (h1_0 : Str) (h2_0 h3_0 : List (List AV)) (h4_0 : Str) (h5_0 : List Str) (R : Type) (K : (Nat × Int × Str × (List (List AV)) × (List (List AV)) × Str × (List Str)) → Option R) : Option R := (lines_whole_1_j1 n x3 x5 h1_0 h2_0 h3_0 h4_0 h5_0).bind fun o64 => (cond o64.1 (K (x3, x5, o64.2.1, o64.2.2.1, o64.2.2.2.1, o64.2.2.2.2.1, o64.2.2.2.2.2)) ((lines_whole_1_l1 n n x3 x5 o64.2.1 o64.2.2.1 o64.2.2.2.1 o64.2.2.2.2.1 o64.2.2.2.2.2 ([] : List Int)).bind fun o74 => (cond (decide (o74.2.2.2.2.2.2.length ≤ 9223372036854775807)) ((lines_trim_f n (strOf o74.2.2.2.2.2.2)).bind fun o75 => ((lines_Parse_r0_f n (IntKind.i64.wrap (x5 + (1 : Int))) o75 o74.2.2.1 o74.2.2.2.1 o74.2.2.2.2.1).bind fun o76 => (K (x3, o74.1, o74.2.1, o76.1, o76.2.1, o76.2.2, o74.2.2.2.2.2.1)))) none)))
def lines_whole_1_j2 (n : Nat) (x3 : Nat) (x5 : Int) (h1_0 : Str) (h2_0 h3_0 : List (List AV)) (h4_0 : Str) (h5_0 : List Str) : Option ((Nat × Int × Str × (List (List AV)) × (List (List AV)) × Str × (List Str))) := lines_whole_1_j2_b n x3 x5 h1_0 h2_0 h3_0 h4_0 h5_0 _ some
def lines_whole_1_j2_d : St → Option ((Nat × Int × Str × (List (List AV)) × (List (List AV)) × Str × (List Str)) × (Unit))
  | ⟨[(0, .yld 0), (3, .mut 5 0 x3 1), (5, .int .i64 x5)], [.loop 0 [.ptr (some (2, 0)), .ptr (some (3, 0)), .ptr (some (4, 0))], .cells 9 [.str h1_0], .cells 24 [.sl true 4 h2_0], .cells 25 [.sl true 2 h3_0], .cells 9 [.str h4_0], .rowS 9 h5_0]⟩ => some ((x3, x5, h1_0, h2_0, h3_0, h4_0, h5_0), ())
  | _ => none
def lines_whole_1_j2_t (v : Nat × Int × Str × (List (List AV)) × (List (List AV)) × Str × (List Str)) (w : Unit) : St := ⟨[(0, .yld 0), (3, .mut 5 0 v.1 1), (5, .int .i64 v.2.1)], [.loop 0 [.ptr (some (2, 0)), .ptr (some (3, 0)), .ptr (some (4, 0))], .cells 9 [.str v.2.2.1], .cells 24 [.sl true 4 v.2.2.2.1], .cells 25 [.sl true 2 v.2.2.2.2.1], .cells 9 [.str v.2.2.2.2.2.1], .rowS 9 v.2.2.2.2.2.2]⟩
def lines_whole_1_j2_k (v : Nat × Int × Str × (List (List AV)) × (List (List AV)) × Str × (List Str)) (o : (Nat × Int × Str × (List (List AV)) × (List (List AV)) × Str × (List Str))) (w : Unit) (R : Type) (K : AExit → St → Option R) : Option R := K .normal ⟨[(0, .yld 0), (3, .mut 5 0 o.1 1), (5, .int .i64 o.2.1)], [.loop 0 [.ptr (some (2, 0)), .ptr (some (3, 0)), .ptr (some (4, 0))], .cells 9 [.str o.2.2.1], .cells 24 [.sl true 4 o.2.2.2.1], .cells 25 [.sl true 2 o.2.2.2.2.1], .cells 9 [.str o.2.2.2.2.2.1], .rowS 9 o.2.2.2.2.2.2]⟩
def lines_whole_1_j2_x (n : Nat) : Ex := xOf lines_whole_1_j2_d (fun v => lines_whole_1_j2 n v.1 v.2.1 v.2.2.1 v.2.2.2.1 v.2.2.2.2.1 v.2.2.2.2.2.1 v.2.2.2.2.2.2) lines_whole_1_j2_k
def lines_whole_1_l0_b (n : Nat) (x3 : Nat) (x5 : Int) (h1_0 : Str) (h2_0 h3_0 : List (List AV)) (h4_0 : Str) (h5_0 : List Str) (R : Type) (A_ : Nat → Int → Str → (List (List AV)) → (List (List AV)) → Str → (List Str) → Option R) (K : (Str × (List (List AV)) × (List (List AV)) × Str × (List Str)) → Option R) : Option R := cond (decide (x5 < (x3 : Int))) ((lines_whole_1_j2 n x3 x5 h1_0 h2_0 h3_0 h4_0 h5_0).bind fun o77 => (A_ o77.1 (IntKind.i64.wrap (o77.2.1 + (1 : Int))) o77.2.2.1 o77.2.2.2.1 o77.2.2.2.2.1 o77.2.2.2.2.2.1 o77.2.2.2.2.2.2)) (K (h1_0, h2_0, h3_0, h4_0, h5_0))
def lines_whole_1_l0 (n : Nat) : Nat → Nat → Int → Str → (List (List AV)) → (List (List AV)) → Str → (List Str) → Option ((Str × (List (List AV)) × (List (List AV)) × Str × (List Str)))
  | 0, _, _, _, _, _, _, _ => none
  | m + 1, x3, x5, h1_0, h2_0, h3_0, h4_0, h5_0 => lines_whole_1_l0_b n x3 x5 h1_0 h2_0 h3_0 h4_0 h5_0 _ (lines_whole_1_l0 n m) some
def lines_whole_1_l0_d : St → Option ((Nat × Int × Str × (List (List AV)) × (List (List AV)) × Str × (List Str)) × (Unit))
  | ⟨[(0, .yld 0), (3, .mut 5 0 x3 1), (5, .int .i64 x5)], [.loop 0 [.ptr (some (2, 0)), .ptr (some (3, 0)), .ptr (some (4, 0))], .cells 9 [.str h1_0], .cells 24 [.sl true 4 h2_0], .cells 25 [.sl true 2 h3_0], .cells 9 [.str h4_0], .rowS 9 h5_0]⟩ => some ((x3, x5, h1_0, h2_0, h3_0, h4_0, h5_0), ())
  | _ => none
def lines_whole_1_l0_t (v : Nat × Int × Str × (List (List AV)) × (List (List AV)) × Str × (List Str)) (w : Unit) : St := ⟨[(0, .yld 0), (3, .mut 5 0 v.1 1), (5, .int .i64 v.2.1)], [.loop 0 [.ptr (some (2, 0)), .ptr (some (3, 0)), .ptr (some (4, 0))], .cells 9 [.str v.2.2.1], .cells 24 [.sl true 4 v.2.2.2.1], .cells 25 [.sl true 2 v.2.2.2.2.1], .cells 9 [.str v.2.2.2.2.2.1], .rowS 9 v.2.2.2.2.2.2]⟩
def lines_whole_1_l0_k (v : Nat × Int × Str × (List (List AV)) × (List (List AV)) × Str × (List Str)) (o : (Str × (List (List AV)) × (List (List AV)) × Str × (List Str))) (w : Unit) (R : Type) (K : AExit → St → Option R) : Option R := K (.exit 2) ⟨[], [.loop 0 [.ptr (some (2, 0)), .ptr (some (3, 0)), .ptr (some (4, 0))], .cells 9 [.str o.1], .cells 24 [.sl true 4 o.2.1], .cells 25 [.sl true 2 o.2.2.1], .cells 9 [.str o.2.2.2.1], .rowS 9 o.2.2.2.2]⟩
def lines_whole_1_l0_x (n : Nat) : Ex := xOf lines_whole_1_l0_d (fun v => lines_whole_1_l0 n n v.1 v.2.1 v.2.2.1 v.2.2.2.1 v.2.2.2.2.1 v.2.2.2.2.2.1 v.2.2.2.2.2.2) lines_whole_1_l0_k
theorem lines_whole_1_j0_snd (n : Nat) : Snd ⟨Tryd.prog, 5, 86⟩ (lines_whole_1_j0_x n) (Tryd.f23.body.getD .skip).a2.a2.a2.a1.a1.a2.a1.a1.a2.a2.a2.a1.a1.a1.a1.a2.a2.a2.a2.a1.a2.a1.a1.a1.a1 := snd_sub (t := lines_whole_1_j0_t) (b := fun v R K => lines_whole_1_j0_b n v.1 v.2.1 v.2.2.1 v.2.2.2.1 v.2.2.2.2.1 v.2.2.2.2.2.1 v.2.2.2.2.2.2.1 v.2.2.2.2.2.2.2 R K) (m := (fun e => match e with | .normal => ([0, 3, 5, 6, 7, 73], none) | _ => ([], none))) (.r [(9, .cl 26 (lines_comment_sp n))]) (by intro s v w h; unfold lines_whole_1_j0_d at h; split at h <;> first | (cases h; rfl) | cases h) (fun _ _ _ _ => by kernel_rfl) (by intros; unfold lines_whole_1_j0_b; simp only [nats]) (fun _ => by kernel_rfl) (by intro e n h; split at h <;> cases h) (by kernel_rfl) (by kernel_rfl) (ai (lines_comment_sound n) trivial)
theorem lines_whole_1_l2_snd (n : Nat) : Snd ⟨Tryd.prog, 5, 86⟩ (lines_whole_1_l2_x n) (Tryd.f23.body.getD .skip).a2.a2.a2.a1.a1.a2.a1.a1.a2.a2.a2.a1.a1.a1.a1.a2.a2.a2.a2.a1.a2.a1 := snd_loop2 (t := lines_whole_1_l2_t) (b := fun v R A K => lines_whole_1_l2_b n v.1 v.2.1 v.2.2.1 v.2.2.2.1 v.2.2.2.2.1 v.2.2.2.2.2.1 v.2.2.2.2.2.2.1 v.2.2.2.2.2.2.2 R (fun z0 z1 z2 z3 z4 z5 z6 z7 => A (z0, z1, z2, z3, z4, z5, z6, z7)) K) (f := fun m v => lines_whole_1_l2 n m v.1 v.2.1 v.2.2.1 v.2.2.2.1 v.2.2.2.2.1 v.2.2.2.2.2.1 v.2.2.2.2.2.2.1 v.2.2.2.2.2.2.2) (m := (fun e => match e with | .exit 6 => ([0, 3, 5, 6, 7], none) | .normal => ([0, 3, 5, 6, 7], none) | _ => ([], none))) n (.s (.s (.p (emaskIn ([0, 3, 5, 6, 7], none) (lines_whole_1_j0_x n))) .a) .a) (by intro s v w h; unfold lines_whole_1_l2_d at h; split at h <;> first | (cases h; rfl) | cases h) (fun _ _ _ _ => by kernel_rfl) (by intros; unfold lines_whole_1_l2_b; simp only [nats]) (fun _ => rfl) (fun _ _ => rfl) (fun _ => rfl) (fun _ _ _ _ _ _ => by kernel_rfl) (fun _ _ _ _ _ _ => by kernel_rfl) (by intro e n h; split at h <;> cases h) (by kernel_rfl) (by kernel_rfl) (ai (snd_in [0, 3, 5, 6, 7] (lines_whole_1_j0_snd n)) trivial)
theorem lines_whole_1_j1_snd (n : Nat) : Snd ⟨Tryd.prog, 5, 86⟩ (lines_whole_1_j1_x n) (Tryd.f23.body.getD .skip).a2.a2.a2.a1.a1.a2.a1.a1.a1.a1 := snd_sub (t := lines_whole_1_j1_t) (b := fun v R K => lines_whole_1_j1_b n v.1 v.2.1 v.2.2.1 v.2.2.2.1 v.2.2.2.2.1 v.2.2.2.2.2.1 v.2.2.2.2.2.2 R K) (m := (fun e => match e with | .normal => ([0, 3, 5, 44], none) | _ => ([], none))) (.r [(4, .cl 15 (lines_trim_sp n)), (11, .cl 26 (lines_comment_sp n))]) (by intro s v w h; unfold lines_whole_1_j1_d at h; split at h <;> first | (cases h; rfl) | cases h) (fun _ _ _ _ => by kernel_rfl) (by intros; unfold lines_whole_1_j1_b; simp only [nats]) (fun _ => by kernel_rfl) (by intro e n h; split at h <;> cases h) (by kernel_rfl) (by kernel_rfl) (ai (lines_trim_sound n) (ai (lines_comment_sound n) trivial))
theorem lines_whole_1_l1_snd (n : Nat) : Snd ⟨Tryd.prog, 5, 86⟩ (lines_whole_1_l1_x n) (Tryd.f23.body.getD .skip).a2.a2.a2.a1.a1.a2.a1.a1.a2.a2.a2.a1.a1 := snd_loop2 (t := lines_whole_1_l1_t) (b := fun v R A K => lines_whole_1_l1_b n v.1 v.2.1 v.2.2.1 v.2.2.2.1 v.2.2.2.2.1 v.2.2.2.2.2.1 v.2.2.2.2.2.2.1 v.2.2.2.2.2.2.2 R (fun z0 z1 z2 z3 z4 z5 z6 z7 => A (z0, z1, z2, z3, z4, z5, z6, z7)) K) (f := fun m v => lines_whole_1_l1 n m v.1 v.2.1 v.2.2.1 v.2.2.2.1 v.2.2.2.2.1 v.2.2.2.2.2.1 v.2.2.2.2.2.2.1 v.2.2.2.2.2.2.2) (m := (fun e => match e with | .exit 4 => ([0, 3, 5, 6, 7], none) | .normal => ([0, 3, 5, 6, 7], none) | _ => ([], none))) n (.u (.s (.r [(4, .cl 27 (strings_CutSuffix_sp n)), (7, .tk [47])]) (.s (.r [(1, .cl 28 (strings_Builder_WriteString_sp n))]) (.s .a (.s (.r [(1, .cl 29 (strings_Builder_WriteByte_sp n))]) (.s (.s .a (.u (.p (emaskIn ([0, 3, 5, 6, 7], none) (lines_whole_1_l2_x n))))) .a)))))) (by intro s v w h; unfold lines_whole_1_l1_d at h; split at h <;> first | (cases h; rfl) | cases h) (fun _ _ _ _ => by kernel_rfl) (by intros; unfold lines_whole_1_l1_b; simp only [nats]) (fun _ => rfl) (fun _ _ => rfl) (fun _ => rfl) (fun _ _ _ _ _ _ => by kernel_rfl) (fun _ _ _ _ _ _ => by kernel_rfl) (by intro e n h; split at h <;> cases h) (by kernel_rfl) (by kernel_rfl) (ai (strings_CutSuffix_sound n) (ai (strings_Builder_WriteString_sound n) (ai (strings_Builder_WriteByte_sound n) (ai (snd_in [0, 3, 5, 6, 7] (lines_whole_1_l2_snd n)) trivial))))
theorem lines_whole_1_j2_snd (n : Nat) : Snd ⟨Tryd.prog, 5, 86⟩ (lines_whole_1_j2_x n) (Tryd.f23.body.getD .skip).a2.a2.a2.a1.a1.a2.a1 := snd_sub (t := lines_whole_1_j2_t) (b := fun v R K => lines_whole_1_j2_b n v.1 v.2.1 v.2.2.1 v.2.2.2.1 v.2.2.2.2.1 v.2.2.2.2.2.1 v.2.2.2.2.2.2 R K) (m := (fun e => match e with | .normal => ([0, 3, 5], some 5) | _ => ([], none))) (.u (.s (.s (.p (emaskIn ([0, 3, 5], none) (lines_whole_1_j1_x n))) .a) (.s .a (.s (.r [(0, .bf 0)]) (.s (.u (.p (emaskIn ([0, 3, 5, 6, 7], none) (lines_whole_1_l1_x n)))) (.s (.r [(2, .cl 30 (strings_Builder_String_sp n)), (3, .cl 15 (lines_trim_sp n)), (4, .cy 0 (lines_Parse_r0_sp n))]) .a)))))) (by intro s v w h; unfold lines_whole_1_j2_d at h; split at h <;> first | (cases h; rfl) | cases h) (fun _ _ _ _ => by kernel_rfl) (by intros; unfold lines_whole_1_j2_b; simp only [nats]) (fun _ => by kernel_rfl) (by intro e n h; cases e <;> (first | cases h | (split at h <;> cases h)) <;> rfl) (by kernel_rfl) (by kernel_rfl) (ai (snd_in [0, 3, 5] (lines_whole_1_j1_snd n)) (ai (snd_in [0, 3, 5, 6, 7] (lines_whole_1_l1_snd n)) (ai (strings_Builder_String_sound n) (ai (lines_trim_sound n) (ai (lines_Parse_r0_sound n) trivial)))))
theorem lines_whole_1_l3_snd (n : Nat) : Snd ⟨Tryd.prog, 5, 86⟩ (lines_whole_1_l3_x n) (Tryd.f23.body.getD .skip).a2.a1.a2.a1 := snd_loop2 (t := lines_whole_1_l3_t) (b := fun v R A K => lines_whole_1_l3_b n v.1 v.2.1 v.2.2.1 v.2.2.2.1 v.2.2.2.2.1 v.2.2.2.2.2.1 v.2.2.2.2.2.2.1 v.2.2.2.2.2.2.2 R (fun z0 z1 z2 z3 z4 z5 z6 z7 => A (z0, z1, z2, z3, z4, z5, z6, z7)) K) (f := fun m v => lines_whole_1_l3 n m v.1 v.2.1 v.2.2.1 v.2.2.2.1 v.2.2.2.2.1 v.2.2.2.2.2.1 v.2.2.2.2.2.2.1 v.2.2.2.2.2.2.2) (m := (fun e => match e with | .exit 0 => ([0, 3], none) | .normal => ([0, 3, 13, 14], none) | _ => ([], none))) n (.s .a (.s .a (.s (.u (.s .a (.r [(6, .cl 25 (strings_TrimSuffix_sp n))]))) .a))) (by intro s v w h; unfold lines_whole_1_l3_d at h; split at h <;> first | (cases h; rfl) | cases h) (fun _ _ _ _ => by kernel_rfl) (by intros; unfold lines_whole_1_l3_b; simp only [nats]) (fun _ => rfl) (fun _ _ => rfl) (fun _ => rfl) (fun _ _ _ _ _ _ => by kernel_rfl) (fun _ _ _ _ _ _ => by kernel_rfl) (by intro e n h; split at h <;> cases h) (by kernel_rfl) (by kernel_rfl) (ai (strings_TrimSuffix_sound n) trivial)
theorem lines_whole_1_l0_snd (n : Nat) : Snd ⟨Tryd.prog, 5, 86⟩ (lines_whole_1_l0_x n) (Tryd.f23.body.getD .skip).a2.a2.a2.a1 := snd_loop2 (t := lines_whole_1_l0_t) (b := fun v R A K => lines_whole_1_l0_b n v.1 v.2.1 v.2.2.1 v.2.2.2.1 v.2.2.2.2.1 v.2.2.2.2.2.1 v.2.2.2.2.2.2 R (fun z0 z1 z2 z3 z4 z5 z6 => A (z0, z1, z2, z3, z4, z5, z6)) K) (f := fun m v => lines_whole_1_l0 n m v.1 v.2.1 v.2.2.1 v.2.2.2.1 v.2.2.2.2.1 v.2.2.2.2.2.1 v.2.2.2.2.2.2) (m := (fun e => match e with | .exit 2 => ([], none) | .normal => ([0, 3, 5], none) | _ => ([], none))) n (.s .a (.s (.p (emaskIn ([0, 3, 5], some 5) (lines_whole_1_j2_x n))) .a)) (by intro s v w h; unfold lines_whole_1_l0_d at h; split at h <;> first | (cases h; rfl) | cases h) (fun _ _ _ _ => by kernel_rfl) (by intros; unfold lines_whole_1_l0_b; simp only [nats]) (fun _ => rfl) (fun _ _ => rfl) (fun _ => rfl) (fun _ _ _ _ _ _ => by kernel_rfl) (fun _ _ _ _ _ _ => by kernel_rfl) (by intro e n h; split at h <;> cases h) (by kernel_rfl) (by kernel_rfl) (ai (snd_inG [0, 3, 5] (lines_whole_1_j2_snd n)) trivial)
def lines_whole_1_b (n : Nat) (h0 : Str) (h1 h2 : List (List AV)) (h3 : Str) (R : Type) (K : (Str × (List (List AV)) × (List (List AV)) × Str) → Option R) : Option R := cond (decide (h0.length < 4294967281) && !([10] : Str).isEmpty) ((lines_whole_1_l3 n n ((Lib.split h0 ([10] : Str)).length) (((Lib.split h0 ([10] : Str)).length) : Int) (0 : Int) h0 h1 h2 h3 (Lib.split h0 ([10] : Str))).bind fun o57 => ((lines_whole_1_l0 n n ((Lib.split h0 ([10] : Str)).length) (0 : Int) o57.1 o57.2.1 o57.2.2.1 o57.2.2.2.1 o57.2.2.2.2).bind fun o78 => (K (o78.1, o78.2.1, o78.2.2.1, o78.2.2.2.1)))) none
def lines_whole_1_f (n : Nat) (h0 : Str) (h1 h2 : List (List AV)) (h3 : Str) : Option (Str × (List (List AV)) × (List (List AV)) × Str) := lines_whole_1_b n h0 h1 h2 h3 _ some
def lines_whole_1_p : List AV → List AObj → Option (Str × (List (List AV)) × (List (List AV)) × Str)
  | [.yld 0, .ptr (some (1, 0))], [.loop 0 [.ptr (some (2, 0)), .ptr (some (3, 0)), .ptr (some (4, 0))], .cells 9 [.str h0], .cells 24 [.sl true 4 h1], .cells 25 [.sl true 2 h2], .cells 9 [.str h3]] => some (h0, h1, h2, h3)
  | _, _ => none
def lines_whole_1_sp (n : Nat) : FSpec := spOf lines_whole_1_p (fun v => lines_whole_1_f n v.1 v.2.1 v.2.2.1 v.2.2.2) (fun o => .tuple []) (fun o => [.loop 0 [.ptr (some (2, 0)), .ptr (some (3, 0)), .ptr (some (4, 0))], .cells 9 [.str o.1], .cells 24 [.sl true 4 o.2.1], .cells 25 [.sl true 2 o.2.2.1], .cells 9 [.str o.2.2.2]])
theorem lines_whole_1_sound (n : Nat) : FSound Tryd.prog 23 (lines_whole_1_sp n) := fsound_R (t := fun v => ⟨[(0, .yld 0), (1, .ptr (some (1, 0)))], [.loop 0 [.ptr (some (2, 0)), .ptr (some (3, 0)), .ptr (some (4, 0))], .cells 9 [.str v.1], .cells 24 [.sl true 4 v.2.1], .cells 25 [.sl true 2 v.2.2.1], .cells 9 [.str v.2.2.2]]⟩) (b := fun v R K => lines_whole_1_b n v.1 v.2.1 v.2.2.1 v.2.2.2 R K) (nt := 86) (n := some 5) (rs := []) (.s (.r [(1, .cl 24 (strings_Split_sp n))]) (.s (.s .a (.u (.p (emaskIn ([0, 3, 13, 14], none) (lines_whole_1_l3_x n))))) (.s .a (.u (.p (emaskIn ([0, 3, 5], none) (lines_whole_1_l0_x n))))))) Tryd.func23 (by kernel_rfl) rfl rfl rfl (fun _ h => by injection h with h; exact h.symm) (by decide) (by kernel_rfl) (by intro s v w h; unfold lines_whole_1_p at h; split at h <;> first | (cases h; exact ⟨Nat.le_of_ble_eq_true rfl, rfl, rfl⟩) | cases h) (fun _ _ _ => by kernel_rfl) (by intros; unfold lines_whole_1_b; simp only [nats]) (fun _ => by kernel_rfl) (by kernel_rfl) (by kernel_rfl) (ai (strings_Split_sound n) (ai (snd_in [0, 3, 13, 14] (lines_whole_1_l3_snd n)) (ai (snd_in [0, 3, 5] (lines_whole_1_l0_snd n)) trivial)))

def lines_Parse_b (n : Nat) (a0 : List Int) (R : Type) (K : ((List (List AV)) × (List (List AV))) → Option R) : Option R := cond (decide ((a0.length : Int) > (65536 : Int))) (K (([] : List (List AV)), ([[.int .i64 (0 : Int), .int .i64 (3 : Int)]] : List (List AV)))) ((lines_whole_f n (strOf a0)).bind fun o1 => ((lines_whole_1_f n o1 ([] : List (List AV)) ([] : List (List AV)) ([] : Str)).bind fun o79 => (K (o79.2.1, o79.2.2.1))))
def lines_Parse_f (n : Nat) (a0 : List Int) : Option ((List (List AV)) × (List (List AV))) := lines_Parse_b n a0 _ some
def lines_Parse_p : List AV → List AObj → Option ((List Int))
  | [.ints false .u8 a0], [] => some a0
  | _, _ => none
def lines_Parse_sp (n : Nat) : FSpec := spOf lines_Parse_p (fun v => lines_Parse_f n v) (fun o => .tuple [.sl true 4 o.1, .sl true 2 o.2]) (fun o => [])
theorem lines_Parse_sound (n : Nat) : FSound Tryd.prog 9 (lines_Parse_sp n) := fsound_R (t := fun v => ⟨[(0, .ints false .u8 v)], []⟩) (b := fun v R K => lines_Parse_b n v R K) (nt := 78) (n := some 0) (rs := [.tmp 2, .tmp 3]) (.s .a (.s (.s .a (.s (.s (.r [(3, .tk [18])]) .a) .a)) (.s .a (.s .a (.s .a (.s (.s (.r [(2, .cl 12 (lines_whole_sp n))]) (.u (.p (erange 0 [4, 5, 6] (lines_whole_1_sp n) 23 (.tmp 21))))) (.s (.d [(0, .lt), (1, .lt), (2, .tk [76]), (3, .tk [77])] [(0, .part [0]), (1, .part [1])]) .a))))))) Tryd.func9 (by kernel_rfl) rfl rfl rfl (fun _ h => by injection h with h; exact h.symm) (by decide) (by kernel_rfl) (by intro s v w h; unfold lines_Parse_p at h; split at h <;> first | (cases h; exact ⟨Nat.le_of_ble_eq_true rfl, rfl, rfl⟩) | cases h) (fun _ _ _ => by kernel_rfl) (by intros; unfold lines_Parse_b; simp only [nats]) (fun _ => by kernel_rfl) (by kernel_rfl) (by kernel_rfl) (ai (lines_whole_sound n) (ai (snd_rangeP (c := ⟨Tryd.prog, 0, 78⟩) (key := 0) (ts := [4, 5, 6]) (u := 21) (cd := (Tryd.f9.body.getD .skip).a2.a2.a2.a2.a2.a1.a2.a1) (by kernel_rfl) (by kernel_rfl) (lines_whole_1_sound n)) trivial))

def clepsydralaw11_works_c0 : List Int := ([(91 : Int), (65 : Int), (93 : Int), (10 : Int), (107 : Int), (61 : Int), (118 : Int), (92 : Int), (10 : Int), (35 : Int), (32 : Int), (110 : Int), (111 : Int), (10 : Int), (119 : Int), (10 : Int)] : List Int)
def clepsydralaw11_works_b (n : Nat) (R : Type) (K : Bool → Option R) : Option R := (lines_Parse_f n clepsydralaw11_works_c0).bind fun o80 => ((lines_Parse_f n ([(107 : Int), (61 : Int), (49 : Int)] : List Int)).bind fun o81 => (cond ((o80.1.length : Int) == (1 : Int)) (cond ((o80.2.length : Int) == (0 : Int)) ((o80.1[0]?).bind fun e82 => (unc e82 fun c83 r84 => getI .i64 c83 fun x85 => unc r84 fun c86 r87 => getT c86 fun x88 => unc r87 fun c89 r90 => getT c89 fun x91 => unc r90 fun c92 r93 => getT c92 fun x94 => unn r93 (cond ((x85 == (2 : Int)) && ((x88 == ([65] : Str)) && ((x91 == ([107] : Str)) && ((x94 == ([118, 32, 119] : Str)) && true)))) (cond ((o81.1.length : Int) == (0 : Int)) (cond ((o81.2.length : Int) == (1 : Int)) ((o81.2[0]?).bind fun e95 => (unc e95 fun c96 r97 => getI .i64 c96 fun x98 => unc r97 fun c99 r100 => getI .i64 c99 fun x101 => unn r100 (K ((x98 == (1 : Int)) && ((x101 == (110 : Int)) && true))))) (K false)) (K false)) (K false)))) (K false)) (K false)))
def clepsydralaw11_works_f (n : Nat) : Option (Bool) := clepsydralaw11_works_b n _ some
def clepsydralaw11_works_p : List AV → List AObj → Option (Unit)
  | [], [] => some ()
  | _, _ => none
def clepsydralaw11_works_sp (n : Nat) : FSpec := spOf clepsydralaw11_works_p (fun v => clepsydralaw11_works_f n) (fun o => .bool o) (fun o => [])
theorem clepsydralaw11_works_sound (n : Nat) : FSound Tryd.prog 8 (clepsydralaw11_works_sp n) := fsound_R (t := fun v => ⟨[], []⟩) (b := fun v R K => clepsydralaw11_works_b n R K) (nt := 49) (n := some 0) (rs := [.tmp 0]) (.s .a (.s (.r [(1, .tk [6]), (2, .cl 9 (lines_Parse_sp n)), (3, .tk [8]), (5, .tk [5]), (7, .tk [10])]) (.s (.r [(1, .tk [12]), (2, .cl 9 (lines_Parse_sp n)), (3, .tk [14]), (5, .tk [11]), (7, .tk [16])]) (.s (.r [(4, .tk [2]), (26, .tk [4])]) .a)))) Tryd.func8 (by kernel_rfl) rfl rfl rfl (fun _ h => by injection h with h; exact h.symm) (by decide) (by kernel_rfl) (by intro s v w h; unfold clepsydralaw11_works_p at h; split at h <;> first | (cases h; exact ⟨Nat.le_of_ble_eq_true rfl, rfl, rfl⟩) | cases h) (fun _ _ _ => by kernel_rfl) (by intros; unfold clepsydralaw11_works_b; simp only [nats]) (fun _ => by kernel_rfl) (by kernel_rfl) (by kernel_rfl) (ai (lines_Parse_sound n) (ai (lines_Parse_sound n) trivial))

end Go.Proofs.YtikiibnmhmioiaaDoor.H

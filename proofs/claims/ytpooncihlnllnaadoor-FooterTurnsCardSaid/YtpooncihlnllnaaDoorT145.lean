/- Shadows of the program's functions, with their proofs, printed by a program of this session (for the laws FooterYears, FooterAt, FooterTurns). -/
import Derived.Test.YtpooncihlnllnaaDoorT012345
namespace Go.Proofs.YtpooncihlnllnaaDoor.H
open Go.Sh Go.RowKit
set_option linter.unusedVariables false
set_option linter.unusedSimpArgs false
set_option maxHeartbeats 4000000

def civil_leap_b (n : Nat) (a0 : Int) (R : Type) (K : Bool → Option R) : Option R := cond ((Int.tmod a0 (4 : Int)) == (0 : Int)) (cond ((Int.tmod a0 (100 : Int)) != (0 : Int)) (K true) (K ((Int.tmod a0 (400 : Int)) == (0 : Int)))) (K false)
def civil_leap_f (n : Nat) (a0 : Int) : Option (Bool) := civil_leap_b n a0 _ some
def civil_leap_p : List AV → List AObj → Option (Int)
  | [.int .i64 a0], [] => some a0
  | _, _ => none
def civil_leap_sp (n : Nat) : FSpec := spOf civil_leap_p (fun v => civil_leap_f n v) (fun o => .bool o) (fun o => [])
theorem civil_leap_sound (n : Nat) : FSound Tryd.prog 80 (civil_leap_sp n) := fsound_R (t := fun v => ⟨[(0, .int .i64 v)], []⟩) (b := fun v R K => civil_leap_b n v R K) (nt := 16) (n := some 0) (rs := [.tmp 2]) .a Tryd.func80 (by kernel_rfl) rfl rfl rfl (fun _ h => by injection h with h; exact h.symm) (by decide) (by kernel_rfl) (by intro s v w h; unfold civil_leap_p at h; split at h <;> first | (cases h; exact ⟨Nat.le_of_ble_eq_true rfl, rfl, rfl⟩) | cases h) (fun _ _ _ => by kernel_rfl) (by intros; unfold civil_leap_b; simp only [nats]) (fun _ => by kernel_rfl) (by kernel_rfl) (by kernel_rfl) trivial

def civil_Long_j0_b (n : Nat) (x0 x1 : Int) (R : Type) (K : (Bool) → Option R) : Option R := cond (decide (x0 < (1 : Int))) (K true) (cond (decide (x0 > (9999 : Int))) (K true) (cond (decide (x1 < (1 : Int))) (K true) (K (decide (x1 > (12 : Int))))))
def civil_Long_j0 (n : Nat) (x0 x1 : Int) : Option ((Bool)) := civil_Long_j0_b n x0 x1 _ some
def civil_Long_j0_d : St → Option ((Int × Int) × ((List AObj)))
  | ⟨[(0, .int .i64 x0), (1, .int .i64 x1)], H⟩ => some ((x0, x1), H)
  | _ => none
def civil_Long_j0_t (v : Int × Int) (w : (List AObj)) : St := ⟨[(0, .int .i64 v.1), (1, .int .i64 v.2)], w⟩
def civil_Long_j0_k (v : Int × Int) (o : (Bool)) (w : (List AObj)) (R : Type) (K : AExit → St → Option R) : Option R := K .normal ⟨[(0, .int .i64 v.1), (1, .int .i64 v.2), (18, .bool o)], w⟩
def civil_Long_j0_x (n : Nat) : Ex := xOf civil_Long_j0_d (fun v => civil_Long_j0 n v.1 v.2) civil_Long_j0_k
theorem civil_Long_j0_snd (n : Nat) : Snd ⟨Tryd.prog, 0, 29⟩ (civil_Long_j0_x n) (Tryd.f64.body.getD .skip).a2.a1.a1 := snd_sub (t := civil_Long_j0_t) (b := fun v R K => civil_Long_j0_b n v.1 v.2 R K) (m := (fun e => match e with | .normal => ([0, 1, 18], none) | _ => ([], none))) .a (by intro s v w h; unfold civil_Long_j0_d at h; split at h <;> first | (cases h; rfl) | cases h) (fun _ _ _ _ => by kernel_rfl) (by intros; unfold civil_Long_j0_b; simp only [nats]) (fun _ => by kernel_rfl) (by intro e n h; split at h <;> cases h) (by kernel_rfl) (by kernel_rfl) trivial
def civil_Long_b (n : Nat) (a0 a1 : Int) (R : Type) (K : Int → Option R) : Option R := (civil_Long_j0 n a0 a1).bind fun o170 => (cond o170 (K (0 : Int)) (cond (a1 == (2 : Int)) ((civil_leap_f n a0).bind fun o171 => (cond o171 (K (29 : Int)) (cond (decide (0 ≤ (IntKind.i64.wrap (a1 - (1 : Int))))) ((([.int .i64 (31 : Int), .int .i64 (28 : Int), .int .i64 (31 : Int), .int .i64 (30 : Int), .int .i64 (31 : Int), .int .i64 (30 : Int), .int .i64 (31 : Int), .int .i64 (31 : Int), .int .i64 (30 : Int), .int .i64 (31 : Int), .int .i64 (30 : Int), .int .i64 (31 : Int)] : List AV)[(IntKind.i64.wrap (a1 - (1 : Int))).toNat]?).bind fun c172 => (getI .i64 c172 fun x173 => K x173)) none))) (cond (decide (0 ≤ (IntKind.i64.wrap (a1 - (1 : Int))))) ((([.int .i64 (31 : Int), .int .i64 (28 : Int), .int .i64 (31 : Int), .int .i64 (30 : Int), .int .i64 (31 : Int), .int .i64 (30 : Int), .int .i64 (31 : Int), .int .i64 (31 : Int), .int .i64 (30 : Int), .int .i64 (31 : Int), .int .i64 (30 : Int), .int .i64 (31 : Int)] : List AV)[(IntKind.i64.wrap (a1 - (1 : Int))).toNat]?).bind fun c174 => (getI .i64 c174 fun x175 => K x175)) none)))
def civil_Long_f (n : Nat) (a0 a1 : Int) : Option (Int) := civil_Long_b n a0 a1 _ some
def civil_Long_p : List AV → List AObj → Option (Int × Int)
  | [.int .i64 a0, .int .i64 a1], [] => some (a0, a1)
  | _, _ => none
def civil_Long_sp (n : Nat) : FSpec := spOf civil_Long_p (fun v => civil_Long_f n v.1 v.2) (fun o => .int .i64 o) (fun o => [])
theorem civil_Long_sound (n : Nat) : FSound Tryd.prog 64 (civil_Long_sp n) := fsound_R (t := fun v => ⟨[(0, .int .i64 v.1), (1, .int .i64 v.2)], []⟩) (b := fun v R K => civil_Long_b n v.1 v.2 R K) (nt := 29) (n := some 0) (rs := [.tmp 4]) (.s .a (.s (.s (.p (emaskIn ([0, 1], none) (civil_Long_j0_x n))) .a) (.s (.s (.r [(4, .cl 80 (civil_leap_sp n))]) .a) .a))) Tryd.func64 (by kernel_rfl) rfl rfl rfl (fun _ h => by injection h with h; exact h.symm) (by decide) (by kernel_rfl) (by intro s v w h; unfold civil_Long_p at h; split at h <;> first | (cases h; exact ⟨Nat.le_of_ble_eq_true rfl, rfl, rfl⟩) | cases h) (fun _ _ _ => by kernel_rfl) (by intros; unfold civil_Long_b; simp only [nats]) (fun _ => by kernel_rfl) (by kernel_rfl) (by kernel_rfl) (ai (snd_in [0, 1] (civil_Long_j0_snd n)) (ai (civil_leap_sound n) trivial))

def civil_Right_b (n : Nat) (a0 a1 a2 : Int) (R : Type) (K : Bool → Option R) : Option R := cond (decide (a2 ≥ (1 : Int))) ((civil_Long_f n a0 a1).bind fun o176 => (K (decide (a2 ≤ o176)))) (K false)
def civil_Right_f (n : Nat) (a0 a1 a2 : Int) : Option (Bool) := civil_Right_b n a0 a1 a2 _ some
def civil_Right_p : List AV → List AObj → Option (Int × Int × Int)
  | [.agg [.int .i64 a0, .int .i64 a1, .int .i64 a2]], [] => some (a0, a1, a2)
  | _, _ => none
def civil_Right_sp (n : Nat) : FSpec := spOf civil_Right_p (fun v => civil_Right_f n v.1 v.2.1 v.2.2) (fun o => .bool o) (fun o => [])
theorem civil_Right_sound (n : Nat) : FSound Tryd.prog 79 (civil_Right_sp n) := fsound_R (t := fun v => ⟨[(0, .agg [.int .i64 v.1, .int .i64 v.2.1, .int .i64 v.2.2])], []⟩) (b := fun v R K => civil_Right_b n v.1 v.2.1 v.2.2 R K) (nt := 16) (n := some 0) (rs := [.tmp 2]) (.s .a (.s (.d [(10, .cl 64 (civil_Long_sp n))] [(0, .look), (4, .look), (6, .look), (8, .look)]) .a)) Tryd.func79 (by kernel_rfl) rfl rfl rfl (fun _ h => by injection h with h; exact h.symm) (by decide) (by kernel_rfl) (by intro s v w h; unfold civil_Right_p at h; split at h <;> first | (cases h; exact ⟨Nat.le_of_ble_eq_true rfl, rfl, rfl⟩) | cases h) (fun _ _ _ => by kernel_rfl) (by intros; unfold civil_Right_b; simp only [nats]) (fun _ => by kernel_rfl) (by kernel_rfl) (by kernel_rfl) (ai (civil_Long_sound n) trivial)

def civil_behind_b (n : Nat) (a0 : Int) (R : Type) (K : Int → Option R) : Option R := K (IntKind.i64.wrap (Int.tdiv (IntKind.i64.wrap ((IntKind.i64.wrap ((153 : Int) * (Int.tmod (IntKind.i64.wrap (a0 + (9 : Int))) (12 : Int)))) + (2 : Int))) (5 : Int)))
def civil_behind_f (n : Nat) (a0 : Int) : Option (Int) := civil_behind_b n a0 _ some
def civil_behind_p : List AV → List AObj → Option (Int)
  | [.int .i64 a0], [] => some a0
  | _, _ => none
def civil_behind_sp (n : Nat) : FSpec := spOf civil_behind_p (fun v => civil_behind_f n v) (fun o => .int .i64 o) (fun o => [])
theorem civil_behind_sound (n : Nat) : FSound Tryd.prog 87 (civil_behind_sp n) := fsound_R (t := fun v => ⟨[(0, .int .i64 v)], []⟩) (b := fun v R K => civil_behind_b n v R K) (nt := 9) (n := some 0) (rs := [.tmp 2]) .a Tryd.func87 (by kernel_rfl) rfl rfl rfl (fun _ h => by injection h with h; exact h.symm) (by decide) (by kernel_rfl) (by intro s v w h; unfold civil_behind_p at h; split at h <;> first | (cases h; exact ⟨Nat.le_of_ble_eq_true rfl, rfl, rfl⟩) | cases h) (fun _ _ _ => by kernel_rfl) (by intros; unfold civil_behind_b; simp only [nats]) (fun _ => by kernel_rfl) (by kernel_rfl) (by kernel_rfl) trivial

def civil_days_j0_b (n : Nat) (x3 h0_0 h0_1 h0_2 : Int) (R : Type) (K : (Int × Int × Int × Int) → Option R) : Option R := cond (decide (h0_1 ≤ (2 : Int))) (K (IntKind.i64.wrap (x3 - (1 : Int)), h0_0, h0_1, h0_2)) (K (x3, h0_0, h0_1, h0_2))
def civil_days_j0 (n : Nat) (x3 h0_0 h0_1 h0_2 : Int) : Option ((Int × Int × Int × Int)) := civil_days_j0_b n x3 h0_0 h0_1 h0_2 _ some
def civil_days_j0_d : St → Option ((Int × Int × Int × Int) × (Unit))
  | ⟨[(1, .ptr (some (0, 0))), (3, .int .i64 x3)], [.cells 78 [.int .i64 h0_0, .int .i64 h0_1, .int .i64 h0_2]]⟩ => some ((x3, h0_0, h0_1, h0_2), ())
  | _ => none
def civil_days_j0_t (v : Int × Int × Int × Int) (w : Unit) : St := ⟨[(1, .ptr (some (0, 0))), (3, .int .i64 v.1)], [.cells 78 [.int .i64 v.2.1, .int .i64 v.2.2.1, .int .i64 v.2.2.2]]⟩
def civil_days_j0_k (v : Int × Int × Int × Int) (o : (Int × Int × Int × Int)) (w : Unit) (R : Type) (K : AExit → St → Option R) : Option R := K .normal ⟨[(1, .ptr (some (0, 0))), (3, .int .i64 o.1)], [.cells 78 [.int .i64 o.2.1, .int .i64 o.2.2.1, .int .i64 o.2.2.2]]⟩
def civil_days_j0_x (n : Nat) : Ex := xOf civil_days_j0_d (fun v => civil_days_j0 n v.1 v.2.1 v.2.2.1 v.2.2.2) civil_days_j0_k
theorem civil_days_j0_snd (n : Nat) : Snd ⟨Tryd.prog, 0, 37⟩ (civil_days_j0_x n) (Tryd.f76.body.getD .skip).a2.a2.a1 := snd_sub (t := civil_days_j0_t) (b := fun v R K => civil_days_j0_b n v.1 v.2.1 v.2.2.1 v.2.2.2 R K) (m := (fun e => match e with | .normal => ([1, 3], none) | _ => ([], none))) .a (by intro s v w h; unfold civil_days_j0_d at h; split at h <;> first | (cases h; rfl) | cases h) (fun _ _ _ _ => by kernel_rfl) (by intros; unfold civil_days_j0_b; simp only [nats]) (fun _ => by kernel_rfl) (by intro e n h; split at h <;> cases h) (by kernel_rfl) (by kernel_rfl) trivial
def civil_days_b (n : Nat) (a0 a1 a2 : Int) (R : Type) (K : Int → Option R) : Option R := (civil_days_j0 n a0 a0 a1 a2).bind fun o178 => ((civil_behind_f n o178.2.2.1).bind fun o179 => (K (IntKind.i64.wrap ((IntKind.i64.wrap ((IntKind.i64.wrap ((IntKind.i64.wrap ((IntKind.i64.wrap ((IntKind.i64.wrap ((IntKind.i64.wrap (Int.tdiv o178.1 (400 : Int))) * (146097 : Int))) + (IntKind.i64.wrap ((IntKind.i64.wrap ((IntKind.i64.wrap ((Int.tmod o178.1 (400 : Int)) * (365 : Int))) + (IntKind.i64.wrap (Int.tdiv (Int.tmod o178.1 (400 : Int)) (4 : Int))))) - (IntKind.i64.wrap (Int.tdiv (Int.tmod o178.1 (400 : Int)) (100 : Int))))))) + o179)) + o178.2.2.2)) - (1 : Int))) - (719468 : Int)))))
def civil_days_f (n : Nat) (a0 a1 a2 : Int) : Option (Int) := civil_days_b n a0 a1 a2 _ some
def civil_days_p : List AV → List AObj → Option (Int × Int × Int)
  | [.agg [.int .i64 a0, .int .i64 a1, .int .i64 a2]], [] => some (a0, a1, a2)
  | _, _ => none
def civil_days_sp (n : Nat) : FSpec := spOf civil_days_p (fun v => civil_days_f n v.1 v.2.1 v.2.2) (fun o => .int .i64 o) (fun o => [])
theorem civil_days_sound (n : Nat) : FSound Tryd.prog 76 (civil_days_sp n) := fsound_R (t := fun v => ⟨[(0, .agg [.int .i64 v.1, .int .i64 v.2.1, .int .i64 v.2.2])], []⟩) (b := fun v R K => civil_days_b n v.1 v.2.1 v.2.2 R K) (nt := 37) (n := some 0) (rs := [.tmp 2]) (.s .a (.s .a (.s (.p (emaskIn ([1, 3], none) (civil_days_j0_x n))) (.s .a (.s (.d [(7, .cl 87 (civil_behind_sp n))] [(5, .look), (9, .look)]) .a))))) Tryd.func76 (by kernel_rfl) rfl rfl rfl (fun _ h => by injection h with h; exact h.symm) (by decide) (by kernel_rfl) (by intro s v w h; unfold civil_days_p at h; split at h <;> first | (cases h; exact ⟨Nat.le_of_ble_eq_true rfl, rfl, rfl⟩) | cases h) (fun _ _ _ => by kernel_rfl) (by intros; unfold civil_days_b; simp only [nats]) (fun _ => by kernel_rfl) (by kernel_rfl) (by kernel_rfl) (ai (snd_in [1, 3] (civil_days_j0_snd n)) (ai (civil_behind_sound n) trivial))

def civil_Days_b (n : Nat) (a0 a1 a2 : Int) (R : Type) (K : (Int × Int) → Option R) : Option R := (civil_Right_f n a0 a1 a2).bind fun o177 => (cond (!o177) (K ((0 : Int), (30 : Int))) ((civil_days_f n a0 a1 a2).bind fun o180 => (K (o180, (0 : Int)))))
def civil_Days_f (n : Nat) (a0 a1 a2 : Int) : Option (Int × Int) := civil_Days_b n a0 a1 a2 _ some
def civil_Days_p : List AV → List AObj → Option (Int × Int × Int)
  | [.agg [.int .i64 a0, .int .i64 a1, .int .i64 a2]], [] => some (a0, a1, a2)
  | _, _ => none
def civil_Days_sp (n : Nat) : FSpec := spOf civil_Days_p (fun v => civil_Days_f n v.1 v.2.1 v.2.2) (fun o => .tuple [.int .i64 o.1, .int .i64 o.2]) (fun o => [])
theorem civil_Days_sound (n : Nat) : FSound Tryd.prog 63 (civil_Days_sp n) := fsound_R (t := fun v => ⟨[(0, .agg [.int .i64 v.1, .int .i64 v.2.1, .int .i64 v.2.2])], []⟩) (b := fun v R K => civil_Days_b n v.1 v.2.1 v.2.2 R K) (nt := 9) (n := some 0) (rs := [.tmp 2, .tmp 3]) (.s .a (.s (.s (.r [(1, .cl 79 (civil_Right_sp n))]) .a) (.s (.r [(1, .cl 76 (civil_days_sp n))]) .a))) Tryd.func63 (by kernel_rfl) rfl rfl rfl (fun _ h => by injection h with h; exact h.symm) (by decide) (by kernel_rfl) (by intro s v w h; unfold civil_Days_p at h; split at h <;> first | (cases h; exact ⟨Nat.le_of_ble_eq_true rfl, rfl, rfl⟩) | cases h) (fun _ _ _ => by kernel_rfl) (by intros; unfold civil_Days_b; simp only [nats]) (fun _ => by kernel_rfl) (by kernel_rfl) (by kernel_rfl) (ai (civil_Right_sound n) (ai (civil_days_sound n) trivial))

def usec_minus_b (n : Nat) (a0 : Int) (R : Type) (K : Int → Option R) : Option R := K (Int.fdiv (IntKind.u64.wrap a0) (2 ^ 63))
def usec_minus_f (n : Nat) (a0 : Int) : Option (Int) := usec_minus_b n a0 _ some
def usec_minus_p : List AV → List AObj → Option (Int)
  | [.int .i64 a0], [] => some a0
  | _, _ => none
def usec_minus_sp (n : Nat) : FSpec := spOf usec_minus_p (fun v => usec_minus_f n v) (fun o => .int .u64 o) (fun o => [])
theorem usec_minus_sound (n : Nat) : FSound Tryd.prog 91 (usec_minus_sp n) := fsound_R (t := fun v => ⟨[(0, .int .i64 v)], []⟩) (b := fun v R K => usec_minus_b n v R K) (nt := 6) (n := some 0) (rs := [.tmp 2]) .a Tryd.func91 (by kernel_rfl) rfl rfl rfl (fun _ h => by injection h with h; exact h.symm) (by decide) (by kernel_rfl) (by intro s v w h; unfold usec_minus_p at h; split at h <;> first | (cases h; exact ⟨Nat.le_of_ble_eq_true rfl, rfl, rfl⟩) | cases h) (fun _ _ _ => by kernel_rfl) (by intros; unfold usec_minus_b; simp only [nats]) (fun _ => by kernel_rfl) (by kernel_rfl) (by kernel_rfl) trivial

def usec_Div_j1_b (n : Nat) (x0 x1 : Int) (R : Type) (K : (Bool) → Option R) : Option R := cond (x1 == (0 : Int)) (K true) (cond (x1 == (-1 : Int)) (K (x0 == (-9223372036854775808 : Int))) (K false))
def usec_Div_j1 (n : Nat) (x0 x1 : Int) : Option ((Bool)) := usec_Div_j1_b n x0 x1 _ some
def usec_Div_j1_d : St → Option ((Int × Int) × ((List AObj)))
  | ⟨[(0, .int .i64 x0), (1, .int .i64 x1)], H⟩ => some ((x0, x1), H)
  | _ => none
def usec_Div_j1_t (v : Int × Int) (w : (List AObj)) : St := ⟨[(0, .int .i64 v.1), (1, .int .i64 v.2)], w⟩
def usec_Div_j1_k (v : Int × Int) (o : (Bool)) (w : (List AObj)) (R : Type) (K : AExit → St → Option R) : Option R := K .normal ⟨[(0, .int .i64 v.1), (1, .int .i64 v.2), (16, .bool o)], w⟩
def usec_Div_j1_x (n : Nat) : Ex := xOf usec_Div_j1_d (fun v => usec_Div_j1 n v.1 v.2) usec_Div_j1_k
def usec_Div_j0_b (n : Nat) (x1 x5 : Int) (R : Type) (K : (Bool) → Option R) : Option R := cond (x5 != (0 : Int)) ((usec_minus_f n x5).bind fun o187 => ((usec_minus_f n x1).bind fun o188 => (K (o187 != o188)))) (K false)
def usec_Div_j0 (n : Nat) (x1 x5 : Int) : Option ((Bool)) := usec_Div_j0_b n x1 x5 _ some
def usec_Div_j0_d : St → Option ((Int × Int) × (AV × (List AObj)))
  | ⟨[(1, .int .i64 x1), (4, p4), (5, .int .i64 x5)], H⟩ => some ((x1, x5), (p4, H))
  | _ => none
def usec_Div_j0_t (v : Int × Int) (w : AV × (List AObj)) : St := ⟨[(1, .int .i64 v.1), (4, w.1), (5, .int .i64 v.2)], w.2⟩
def usec_Div_j0_k (v : Int × Int) (o : (Bool)) (w : AV × (List AObj)) (R : Type) (K : AExit → St → Option R) : Option R := K .normal ⟨[(1, .int .i64 v.1), (4, w.1), (5, .int .i64 v.2), (31, .bool o)], w.2⟩
def usec_Div_j0_x (n : Nat) : Ex := xOf usec_Div_j0_d (fun v => usec_Div_j0 n v.1 v.2) usec_Div_j0_k
theorem usec_Div_j1_snd (n : Nat) : Snd ⟨Tryd.prog, 0, 39⟩ (usec_Div_j1_x n) (Tryd.f81.body.getD .skip).a2.a1.a1 := snd_sub (t := usec_Div_j1_t) (b := fun v R K => usec_Div_j1_b n v.1 v.2 R K) (m := (fun e => match e with | .normal => ([0, 1, 16], none) | _ => ([], none))) .a (by intro s v w h; unfold usec_Div_j1_d at h; split at h <;> first | (cases h; rfl) | cases h) (fun _ _ _ _ => by kernel_rfl) (by intros; unfold usec_Div_j1_b; simp only [nats]) (fun _ => by kernel_rfl) (by intro e n h; split at h <;> cases h) (by kernel_rfl) (by kernel_rfl) trivial
theorem usec_Div_j0_snd (n : Nat) : Snd ⟨Tryd.prog, 0, 39⟩ (usec_Div_j0_x n) (Tryd.f81.body.getD .skip).a2.a2.a2.a1.a1 := snd_sub (t := usec_Div_j0_t) (b := fun v R K => usec_Div_j0_b n v.1 v.2 R K) (m := (fun e => match e with | .normal => ([1, 4, 5, 31], none) | _ => ([], none))) (.r [(4, .cl 91 (usec_minus_sp n)), (6, .cl 91 (usec_minus_sp n))]) (by intro s v w h; unfold usec_Div_j0_d at h; split at h <;> first | (cases h; rfl) | cases h) (fun _ _ _ _ => by kernel_rfl) (by intros; unfold usec_Div_j0_b; simp only [nats]) (fun _ => by kernel_rfl) (by intro e n h; split at h <;> cases h) (by kernel_rfl) (by kernel_rfl) (ai (usec_minus_sound n) (ai (usec_minus_sound n) trivial))
def usec_Div_b (n : Nat) (a0 a1 : Int) (R : Type) (K : (Int × Int × Bool) → Option R) : Option R := (usec_Div_j1 n a0 a1).bind fun o186 => (cond o186 (K ((0 : Int), (0 : Int), false)) (cond (a1 == 0) none (cond (a1 == 0) none ((usec_Div_j0 n a1 (Int.tmod a0 a1)).bind fun o189 => (cond o189 (K (IntKind.i64.wrap ((IntKind.i64.wrap (Int.tdiv a0 a1)) - (1 : Int)), IntKind.i64.wrap ((Int.tmod a0 a1) + a1), true)) (K (IntKind.i64.wrap (Int.tdiv a0 a1), Int.tmod a0 a1, true)))))))
def usec_Div_f (n : Nat) (a0 a1 : Int) : Option (Int × Int × Bool) := usec_Div_b n a0 a1 _ some
def usec_Div_p : List AV → List AObj → Option (Int × Int)
  | [.int .i64 a0, .int .i64 a1], [] => some (a0, a1)
  | _, _ => none
def usec_Div_sp (n : Nat) : FSpec := spOf usec_Div_p (fun v => usec_Div_f n v.1 v.2) (fun o => .tuple [.int .i64 o.1, .int .i64 o.2.1, .bool o.2.2]) (fun o => [])
theorem usec_Div_sound (n : Nat) : FSound Tryd.prog 81 (usec_Div_sp n) := fsound_R (t := fun v => ⟨[(0, .int .i64 v.1), (1, .int .i64 v.2)], []⟩) (b := fun v R K => usec_Div_b n v.1 v.2 R K) (nt := 39) (n := some 0) (rs := [.tmp 4, .tmp 5, .tmp 6]) (.s .a (.s (.s (.p (emaskIn ([0, 1], none) (usec_Div_j1_x n))) .a) (.s .a (.s (.s (.p (emaskIn ([1, 4, 5], none) (usec_Div_j0_x n))) .a) .a)))) Tryd.func81 (by kernel_rfl) rfl rfl rfl (fun _ h => by injection h with h; exact h.symm) (by decide) (by kernel_rfl) (by intro s v w h; unfold usec_Div_p at h; split at h <;> first | (cases h; exact ⟨Nat.le_of_ble_eq_true rfl, rfl, rfl⟩) | cases h) (fun _ _ _ => by kernel_rfl) (by intros; unfold usec_Div_b; simp only [nats]) (fun _ => by kernel_rfl) (by kernel_rfl) (by kernel_rfl) (ai (snd_in [0, 1] (usec_Div_j1_snd n)) (ai (snd_in [1, 4, 5] (usec_Div_j0_snd n)) trivial))

def civil_Weekday_b (n : Nat) (a0 a1 a2 : Int) (R : Type) (K : Int → Option R) : Option R := (civil_Right_f n a0 a1 a2).bind fun o184 => (cond (!o184) (K (0 : Int)) ((civil_days_f n a0 a1 a2).bind fun o185 => ((usec_Div_f n (IntKind.i64.wrap (o185 + (3 : Int))) (7 : Int)).bind fun o190 => (K (IntKind.i64.wrap (o190.2.1 + (1 : Int)))))))
def civil_Weekday_f (n : Nat) (a0 a1 a2 : Int) : Option (Int) := civil_Weekday_b n a0 a1 a2 _ some
def civil_Weekday_p : List AV → List AObj → Option (Int × Int × Int)
  | [.agg [.int .i64 a0, .int .i64 a1, .int .i64 a2]], [] => some (a0, a1, a2)
  | _, _ => none
def civil_Weekday_sp (n : Nat) : FSpec := spOf civil_Weekday_p (fun v => civil_Weekday_f n v.1 v.2.1 v.2.2) (fun o => .int .i64 o) (fun o => [])
theorem civil_Weekday_sound (n : Nat) : FSound Tryd.prog 65 (civil_Weekday_sp n) := fsound_R (t := fun v => ⟨[(0, .agg [.int .i64 v.1, .int .i64 v.2.1, .int .i64 v.2.2])], []⟩) (b := fun v R K => civil_Weekday_b n v.1 v.2.1 v.2.2 R K) (nt := 19) (n := some 0) (rs := [.tmp 2]) (.s .a (.s (.s (.r [(1, .cl 79 (civil_Right_sp n))]) .a) (.s (.r [(1, .cl 76 (civil_days_sp n)), (3, .cl 81 (usec_Div_sp n)), (7, .tk [9])]) .a))) Tryd.func65 (by kernel_rfl) rfl rfl rfl (fun _ h => by injection h with h; exact h.symm) (by decide) (by kernel_rfl) (by intro s v w h; unfold civil_Weekday_p at h; split at h <;> first | (cases h; exact ⟨Nat.le_of_ble_eq_true rfl, rfl, rfl⟩) | cases h) (fun _ _ _ => by kernel_rfl) (by intros; unfold civil_Weekday_b; simp only [nats]) (fun _ => by kernel_rfl) (by kernel_rfl) (by kernel_rfl) (ai (civil_Right_sound n) (ai (civil_days_sound n) (ai (usec_Div_sound n) trivial)))

def footer_Day_days_j0_b (n : Nat) (x7 : Bool) (h0_0 h0_1 h0_2 h0_3 h0_4 : Int) (R : Type) (K : (Bool × Int × Int × Int × Int × Int) → Option R) : Option R := cond x7 (K (decide (h0_3 > (59 : Int)), h0_0, h0_1, h0_2, h0_3, h0_4)) (K (false, h0_0, h0_1, h0_2, h0_3, h0_4))
def footer_Day_days_j0 (n : Nat) (x7 : Bool) (h0_0 h0_1 h0_2 h0_3 h0_4 : Int) : Option ((Bool × Int × Int × Int × Int × Int)) := footer_Day_days_j0_b n x7 h0_0 h0_1 h0_2 h0_3 h0_4 _ some
def footer_Day_days_j0_d : St → Option ((Bool × Int × Int × Int × Int × Int) × (AV))
  | ⟨[(2, .ptr (some (0, 0))), (5, p5), (7, .bool x7)], [.cells 24 [.int .u8 h0_0, .int .i64 h0_1, .int .i64 h0_2, .int .i64 h0_3, .int .i64 h0_4]]⟩ => some ((x7, h0_0, h0_1, h0_2, h0_3, h0_4), p5)
  | _ => none
def footer_Day_days_j0_t (v : Bool × Int × Int × Int × Int × Int) (w : AV) : St := ⟨[(2, .ptr (some (0, 0))), (5, w), (7, .bool v.1)], [.cells 24 [.int .u8 v.2.1, .int .i64 v.2.2.1, .int .i64 v.2.2.2.1, .int .i64 v.2.2.2.2.1, .int .i64 v.2.2.2.2.2]]⟩
def footer_Day_days_j0_k (v : Bool × Int × Int × Int × Int × Int) (o : (Bool × Int × Int × Int × Int × Int)) (w : AV) (R : Type) (K : AExit → St → Option R) : Option R := K .normal ⟨[(2, .ptr (some (0, 0))), (5, w), (35, .bool o.1)], [.cells 24 [.int .u8 o.2.1, .int .i64 o.2.2.1, .int .i64 o.2.2.2.1, .int .i64 o.2.2.2.2.1, .int .i64 o.2.2.2.2.2]]⟩
def footer_Day_days_j0_x (n : Nat) : Ex := xOf footer_Day_days_j0_d (fun v => footer_Day_days_j0 n v.1 v.2.1 v.2.2.1 v.2.2.2.1 v.2.2.2.2.1 v.2.2.2.2.2) footer_Day_days_j0_k
def footer_Day_days_l0_b (n : Nat) (x9 x10 : Int) (R : Type) (A_ : Int → Int → Option R) (K : (Int) → Option R) : Option R := cond (decide (x9 ≥ x10)) (A_ (IntKind.i64.wrap (x9 - (7 : Int))) x10) (K x9)
def footer_Day_days_l0 (n : Nat) : Nat → Int → Int → Option ((Int))
  | 0, _, _ => none
  | m + 1, x9, x10 => footer_Day_days_l0_b n x9 x10 _ (footer_Day_days_l0 n m) some
def footer_Day_days_l0_d : St → Option ((Int × Int) × (AV × (List AObj)))
  | ⟨[(8, p8), (9, .int .i64 x9), (10, .int .i64 x10)], H⟩ => some ((x9, x10), (p8, H))
  | _ => none
def footer_Day_days_l0_t (v : Int × Int) (w : AV × (List AObj)) : St := ⟨[(8, w.1), (9, .int .i64 v.1), (10, .int .i64 v.2)], w.2⟩
def footer_Day_days_l0_k (v : Int × Int) (o : (Int)) (w : AV × (List AObj)) (R : Type) (K : AExit → St → Option R) : Option R := K (.exit 1) ⟨[(8, w.1), (9, .int .i64 o)], w.2⟩
def footer_Day_days_l0_x (n : Nat) : Ex := xOf footer_Day_days_l0_d (fun v => footer_Day_days_l0 n n v.1 v.2) footer_Day_days_l0_k
theorem footer_Day_days_j0_snd (n : Nat) : Snd ⟨Tryd.prog, 0, 80⟩ (footer_Day_days_j0_x n) (Tryd.f33.body.getD .skip).a2.a2.a2.a1.a2.a1.a2.a2.a2.a1.a1.a1 := snd_sub (t := footer_Day_days_j0_t) (b := fun v R K => footer_Day_days_j0_b n v.1 v.2.1 v.2.2.1 v.2.2.2.1 v.2.2.2.2.1 v.2.2.2.2.2 R K) (m := (fun e => match e with | .normal => ([2, 5, 35], none) | _ => ([], none))) .a (by intro s v w h; unfold footer_Day_days_j0_d at h; split at h <;> first | (cases h; rfl) | cases h) (fun _ _ _ _ => by kernel_rfl) (by intros; unfold footer_Day_days_j0_b; simp only [nats]) (fun _ => by kernel_rfl) (by intro e n h; split at h <;> cases h) (by kernel_rfl) (by kernel_rfl) trivial
theorem footer_Day_days_l0_snd (n : Nat) : Snd ⟨Tryd.prog, 0, 80⟩ (footer_Day_days_l0_x n) (Tryd.f33.body.getD .skip).a2.a2.a2.a2.a2.a2.a2.a1.a2.a1 := snd_loop2 (t := footer_Day_days_l0_t) (b := fun v R A K => footer_Day_days_l0_b n v.1 v.2 R (fun z0 z1 => A (z0, z1)) K) (f := fun m v => footer_Day_days_l0 n m v.1 v.2) (m := (fun e => match e with | .exit 1 => ([8, 9], none) | .normal => ([8, 9, 10], none) | _ => ([], none))) n .a (by intro s v w h; unfold footer_Day_days_l0_d at h; split at h <;> first | (cases h; rfl) | cases h) (fun _ _ _ _ => by kernel_rfl) (by intros; unfold footer_Day_days_l0_b; simp only [nats]) (fun _ => rfl) (fun _ _ => rfl) (fun _ => rfl) (fun _ _ _ _ _ _ => by kernel_rfl) (fun _ _ _ _ _ _ => by kernel_rfl) (by intro e n h; split at h <;> cases h) (by kernel_rfl) (by kernel_rfl) trivial
def footer_Day_days_b (n : Nat) (a0 a1 a2 a3 a4 a5 : Int) (R : Type) (K : Int → Option R) : Option R := (civil_Days_f n a5 (1 : Int) (1 : Int)).bind fun o181 => ((civil_Long_f n a5 (2 : Int)).bind fun o182 => (cond (a0 == (2 : Int)) (K (IntKind.i64.wrap (o181.1 + a3))) (cond (a0 == (1 : Int)) ((footer_Day_days_j0 n (o182 == (29 : Int)) a0 a1 a2 a3 a4).bind fun o183 => (cond o183.1 (K (IntKind.i64.wrap (o181.1 + o183.2.2.2.2.1))) (K (IntKind.i64.wrap ((IntKind.i64.wrap (o181.1 + o183.2.2.2.2.1)) - (1 : Int)))))) ((civil_Weekday_f n a5 a1 (1 : Int)).bind fun o191 => ((civil_Long_f n a5 a1).bind fun o192 => ((footer_Day_days_l0 n n (IntKind.i64.wrap ((Int.tmod (IntKind.i64.wrap ((IntKind.i64.wrap (a3 + (7 : Int))) - (Int.tmod o191 (7 : Int)))) (7 : Int)) + (IntKind.i64.wrap ((7 : Int) * (IntKind.i64.wrap (a2 - (1 : Int))))))) o192).bind fun o193 => ((civil_Days_f n a5 a1 (1 : Int)).bind fun o194 => (K (IntKind.i64.wrap (o194.1 + o193))))))))))
def footer_Day_days_f (n : Nat) (a0 a1 a2 a3 a4 a5 : Int) : Option (Int) := footer_Day_days_b n a0 a1 a2 a3 a4 a5 _ some
def footer_Day_days_p : List AV → List AObj → Option (Int × Int × Int × Int × Int × Int)
  | [.agg [.int .u8 a0, .int .i64 a1, .int .i64 a2, .int .i64 a3, .int .i64 a4], .int .i64 a5], [] => some (a0, a1, a2, a3, a4, a5)
  | _, _ => none
def footer_Day_days_sp (n : Nat) : FSpec := spOf footer_Day_days_p (fun v => footer_Day_days_f n v.1 v.2.1 v.2.2.1 v.2.2.2.1 v.2.2.2.2.1 v.2.2.2.2.2) (fun o => .int .i64 o) (fun o => [])
theorem footer_Day_days_sound (n : Nat) : FSound Tryd.prog 33 (footer_Day_days_sp n) := fsound_R (t := fun v => ⟨[(0, .agg [.int .u8 v.1, .int .i64 v.2.1, .int .i64 v.2.2.1, .int .i64 v.2.2.2.1, .int .i64 v.2.2.2.2.1]), (1, .int .i64 v.2.2.2.2.2)], []⟩) (b := fun v R K => footer_Day_days_b n v.1 v.2.1 v.2.2.1 v.2.2.2.1 v.2.2.2.2.1 v.2.2.2.2.2 R K) (nt := 80) (n := some 0) (rs := [.tmp 4]) (.s .a (.s (.r [(2, .cl 63 (civil_Days_sp n)), (5, .tk [11])]) (.s (.r [(1, .cl 64 (civil_Long_sp n))]) (.s (.s .a (.u (.s .a (.s .a (.s .a (.s (.s (.s (.p (emaskIn ([2, 5, 7], none) (footer_Day_days_j0_x n))) .a) .a) .a)))))) (.s .a (.s (.d [(4, .cl 65 (civil_Weekday_sp n))] [(0, .look)]) (.s (.r [(3, .cl 64 (civil_Long_sp n))]) (.s (.s .a (.u (.p (emaskIn ([8, 9, 10], none) (footer_Day_days_l0_x n))))) (.s (.r [(1, .cl 63 (civil_Days_sp n)), (4, .tk [72])]) .a))))))))) Tryd.func33 (by kernel_rfl) rfl rfl rfl (fun _ h => by injection h with h; exact h.symm) (by decide) (by kernel_rfl) (by intro s v w h; unfold footer_Day_days_p at h; split at h <;> first | (cases h; exact ⟨Nat.le_of_ble_eq_true rfl, rfl, rfl⟩) | cases h) (fun _ _ _ => by kernel_rfl) (by intros; unfold footer_Day_days_b; simp only [nats]) (fun _ => by kernel_rfl) (by kernel_rfl) (by kernel_rfl) (ai (civil_Days_sound n) (ai (civil_Long_sound n) (ai (snd_in [2, 5, 7] (footer_Day_days_j0_snd n)) (ai (civil_Weekday_sound n) (ai (civil_Long_sound n) (ai (snd_in [8, 9, 10] (footer_Day_days_l0_snd n)) (ai (civil_Days_sound n) trivial)))))))

def footer_Switch_j0_b (n : Nat) (x1 : Int) (R : Type) (K : (Bool) → Option R) : Option R := cond (decide (x1 < (2 : Int))) (K true) (K (decide (x1 > (9998 : Int))))
def footer_Switch_j0 (n : Nat) (x1 : Int) : Option ((Bool)) := footer_Switch_j0_b n x1 _ some
def footer_Switch_j0_d : St → Option ((Int) × (AV × (List AObj)))
  | ⟨[(1, .int .i64 x1), (2, p2)], H⟩ => some (x1, (p2, H))
  | _ => none
def footer_Switch_j0_t (v : Int) (w : AV × (List AObj)) : St := ⟨[(1, .int .i64 v), (2, w.1)], w.2⟩
def footer_Switch_j0_k (v : Int) (o : (Bool)) (w : AV × (List AObj)) (R : Type) (K : AExit → St → Option R) : Option R := K .normal ⟨[(1, .int .i64 v), (2, w.1), (10, .bool o)], w.2⟩
def footer_Switch_j0_x (n : Nat) : Ex := xOf footer_Switch_j0_d (fun v => footer_Switch_j0 n v) footer_Switch_j0_k
theorem footer_Switch_j0_snd (n : Nat) : Snd ⟨Tryd.prog, 0, 24⟩ (footer_Switch_j0_x n) (Tryd.f13.body.getD .skip).a2.a1.a1.a2.a2.a1 := snd_sub (t := footer_Switch_j0_t) (b := fun v R K => footer_Switch_j0_b n v R K) (m := (fun e => match e with | .normal => ([1, 2, 10], none) | _ => ([], none))) .a (by intro s v w h; unfold footer_Switch_j0_d at h; split at h <;> first | (cases h; rfl) | cases h) (fun _ _ _ _ => by kernel_rfl) (by intros; unfold footer_Switch_j0_b; simp only [nats]) (fun _ => by kernel_rfl) (by intro e n h; split at h <;> cases h) (by kernel_rfl) (by kernel_rfl) trivial
def footer_Switch_b (n : Nat) (a0 a1 a2 a3 a4 a5 : Int) (R : Type) (K : (Int × Int) → Option R) : Option R := (footer_Day_right_f n a0 a1 a2 a3 a4).bind fun o168 => (cond (!o168) (K ((0 : Int), (2 : Int))) ((footer_Switch_j0 n a5).bind fun o169 => (cond o169 (K ((0 : Int), (30 : Int))) ((footer_Day_days_f n a0 a1 a2 a3 a4 a5).bind fun o195 => (K (IntKind.i64.wrap ((IntKind.i64.wrap (o195 * (86400 : Int))) + a4), (0 : Int)))))))
def footer_Switch_f (n : Nat) (a0 a1 a2 a3 a4 a5 : Int) : Option (Int × Int) := footer_Switch_b n a0 a1 a2 a3 a4 a5 _ some
def footer_Switch_p : List AV → List AObj → Option (Int × Int × Int × Int × Int × Int)
  | [.agg [.int .u8 a0, .int .i64 a1, .int .i64 a2, .int .i64 a3, .int .i64 a4], .int .i64 a5], [] => some (a0, a1, a2, a3, a4, a5)
  | _, _ => none
def footer_Switch_sp (n : Nat) : FSpec := spOf footer_Switch_p (fun v => footer_Switch_f n v.1 v.2.1 v.2.2.1 v.2.2.2.1 v.2.2.2.2.1 v.2.2.2.2.2) (fun o => .tuple [.int .i64 o.1, .int .i64 o.2]) (fun o => [])
theorem footer_Switch_sound (n : Nat) : FSound Tryd.prog 13 (footer_Switch_sp n) := fsound_R (t := fun v => ⟨[(0, .agg [.int .u8 v.1, .int .i64 v.2.1, .int .i64 v.2.2.1, .int .i64 v.2.2.2.1, .int .i64 v.2.2.2.2.1]), (1, .int .i64 v.2.2.2.2.2)], []⟩) (b := fun v R K => footer_Switch_b n v.1 v.2.1 v.2.2.1 v.2.2.2.1 v.2.2.2.2.1 v.2.2.2.2.2 R K) (nt := 24) (n := some 0) (rs := [.tmp 4, .tmp 5]) (.s .a (.s (.u (.s (.r [(1, .cl 32 (footer_Day_right_sp n))]) (.s .a (.s (.p (emaskIn ([1, 2], none) (footer_Switch_j0_x n))) .a)))) (.s (.d [(2, .cl 33 (footer_Day_days_sp n))] [(4, .look)]) .a))) Tryd.func13 (by kernel_rfl) rfl rfl rfl (fun _ h => by injection h with h; exact h.symm) (by decide) (by kernel_rfl) (by intro s v w h; unfold footer_Switch_p at h; split at h <;> first | (cases h; exact ⟨Nat.le_of_ble_eq_true rfl, rfl, rfl⟩) | cases h) (fun _ _ _ => by kernel_rfl) (by intros; unfold footer_Switch_b; simp only [nats]) (fun _ => by kernel_rfl) (by kernel_rfl) (by kernel_rfl) (ai (footer_Day_right_sound n) (ai (snd_in [1, 2] (footer_Switch_j0_snd n)) (ai (footer_Day_days_sound n) trivial)))

end Go.Proofs.YtpooncihlnllnaaDoor.H

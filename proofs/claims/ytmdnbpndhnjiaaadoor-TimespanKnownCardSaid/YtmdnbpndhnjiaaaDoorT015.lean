/- Shadows of the program's functions, with their proofs, printed by a program of this session (for the laws TimespanParse, TimespanBack, TimespanKnown). -/
import Derived.Test.YtmdnbpndhnjiaaaDoorT012345
namespace Go.Proofs.YtmdnbpndhnjiaaaDoor.H
open Go.Sh Go.RowKit
set_option linter.unusedVariables false
set_option linter.unusedSimpArgs false
set_option maxHeartbeats 4000000

def clepsydraref02_unit_j7_b (n : Nat) (x3 : Str) (R : Type) (K : (Bool) → Option R) : Option R := cond (x3 == ([117, 115] : Str)) (K true) (K (x3 == ([117, 115, 101, 99] : Str)))
def clepsydraref02_unit_j7 (n : Nat) (x3 : Str) : Option ((Bool)) := clepsydraref02_unit_j7_b n x3 _ some
def clepsydraref02_unit_j7_d : St → Option ((Str) × ((List AObj)))
  | ⟨[(3, .str x3)], H⟩ => some (x3, H)
  | _ => none
def clepsydraref02_unit_j7_t (v : Str) (w : (List AObj)) : St := ⟨[(3, .str v)], w⟩
def clepsydraref02_unit_j7_k (v : Str) (o : (Bool)) (w : (List AObj)) (R : Type) (K : AExit → St → Option R) : Option R := K .normal ⟨[(3, .str v), (4, .bool o)], w⟩
def clepsydraref02_unit_j7_x (n : Nat) : Ex := xOf clepsydraref02_unit_j7_d (fun v => clepsydraref02_unit_j7 n v) clepsydraref02_unit_j7_k
def clepsydraref02_unit_j6_b (n : Nat) (x3 : Str) (R : Type) (K : (Bool) → Option R) : Option R := cond (x3 == ([109, 115] : Str)) (K true) (K (x3 == ([109, 115, 101, 99] : Str)))
def clepsydraref02_unit_j6 (n : Nat) (x3 : Str) : Option ((Bool)) := clepsydraref02_unit_j6_b n x3 _ some
def clepsydraref02_unit_j6_d : St → Option ((Str) × ((List AObj)))
  | ⟨[(3, .str x3)], H⟩ => some (x3, H)
  | _ => none
def clepsydraref02_unit_j6_t (v : Str) (w : (List AObj)) : St := ⟨[(3, .str v)], w⟩
def clepsydraref02_unit_j6_k (v : Str) (o : (Bool)) (w : (List AObj)) (R : Type) (K : AExit → St → Option R) : Option R := K .normal ⟨[(3, .str v), (7, .bool o)], w⟩
def clepsydraref02_unit_j6_x (n : Nat) : Ex := xOf clepsydraref02_unit_j6_d (fun v => clepsydraref02_unit_j6 n v) clepsydraref02_unit_j6_k
def clepsydraref02_unit_j5_b (n : Nat) (x3 : Str) (R : Type) (K : (Bool) → Option R) : Option R := cond (x3 == ([115] : Str)) (K true) (cond (x3 == ([115, 101, 99] : Str)) (K true) (cond (x3 == ([115, 101, 99, 111, 110, 100] : Str)) (K true) (cond (x3 == ([115, 101, 99, 111, 110, 100, 115] : Str)) (K true) (K (x3 == ([] : Str))))))
def clepsydraref02_unit_j5 (n : Nat) (x3 : Str) : Option ((Bool)) := clepsydraref02_unit_j5_b n x3 _ some
def clepsydraref02_unit_j5_d : St → Option ((Str) × ((List AObj)))
  | ⟨[(3, .str x3)], H⟩ => some (x3, H)
  | _ => none
def clepsydraref02_unit_j5_t (v : Str) (w : (List AObj)) : St := ⟨[(3, .str v)], w⟩
def clepsydraref02_unit_j5_k (v : Str) (o : (Bool)) (w : (List AObj)) (R : Type) (K : AExit → St → Option R) : Option R := K .normal ⟨[(3, .str v), (10, .bool o)], w⟩
def clepsydraref02_unit_j5_x (n : Nat) : Ex := xOf clepsydraref02_unit_j5_d (fun v => clepsydraref02_unit_j5 n v) clepsydraref02_unit_j5_k
def clepsydraref02_unit_j4_b (n : Nat) (x3 : Str) (R : Type) (K : (Bool) → Option R) : Option R := cond (x3 == ([109] : Str)) (K true) (cond (x3 == ([109, 105, 110] : Str)) (K true) (cond (x3 == ([109, 105, 110, 117, 116, 101] : Str)) (K true) (K (x3 == ([109, 105, 110, 117, 116, 101, 115] : Str)))))
def clepsydraref02_unit_j4 (n : Nat) (x3 : Str) : Option ((Bool)) := clepsydraref02_unit_j4_b n x3 _ some
def clepsydraref02_unit_j4_d : St → Option ((Str) × ((List AObj)))
  | ⟨[(3, .str x3)], H⟩ => some (x3, H)
  | _ => none
def clepsydraref02_unit_j4_t (v : Str) (w : (List AObj)) : St := ⟨[(3, .str v)], w⟩
def clepsydraref02_unit_j4_k (v : Str) (o : (Bool)) (w : (List AObj)) (R : Type) (K : AExit → St → Option R) : Option R := K .normal ⟨[(3, .str v), (16, .bool o)], w⟩
def clepsydraref02_unit_j4_x (n : Nat) : Ex := xOf clepsydraref02_unit_j4_d (fun v => clepsydraref02_unit_j4 n v) clepsydraref02_unit_j4_k
def clepsydraref02_unit_j3_b (n : Nat) (x3 : Str) (R : Type) (K : (Bool) → Option R) : Option R := cond (x3 == ([104] : Str)) (K true) (cond (x3 == ([104, 114] : Str)) (K true) (cond (x3 == ([104, 111, 117, 114] : Str)) (K true) (K (x3 == ([104, 111, 117, 114, 115] : Str)))))
def clepsydraref02_unit_j3 (n : Nat) (x3 : Str) : Option ((Bool)) := clepsydraref02_unit_j3_b n x3 _ some
def clepsydraref02_unit_j3_d : St → Option ((Str) × ((List AObj)))
  | ⟨[(3, .str x3)], H⟩ => some (x3, H)
  | _ => none
def clepsydraref02_unit_j3_t (v : Str) (w : (List AObj)) : St := ⟨[(3, .str v)], w⟩
def clepsydraref02_unit_j3_k (v : Str) (o : (Bool)) (w : (List AObj)) (R : Type) (K : AExit → St → Option R) : Option R := K .normal ⟨[(3, .str v), (21, .bool o)], w⟩
def clepsydraref02_unit_j3_x (n : Nat) : Ex := xOf clepsydraref02_unit_j3_d (fun v => clepsydraref02_unit_j3 n v) clepsydraref02_unit_j3_k
def clepsydraref02_unit_j2_b (n : Nat) (x3 : Str) (R : Type) (K : (Bool) → Option R) : Option R := cond (x3 == ([100] : Str)) (K true) (cond (x3 == ([100, 97, 121] : Str)) (K true) (K (x3 == ([100, 97, 121, 115] : Str))))
def clepsydraref02_unit_j2 (n : Nat) (x3 : Str) : Option ((Bool)) := clepsydraref02_unit_j2_b n x3 _ some
def clepsydraref02_unit_j2_d : St → Option ((Str) × ((List AObj)))
  | ⟨[(3, .str x3)], H⟩ => some (x3, H)
  | _ => none
def clepsydraref02_unit_j2_t (v : Str) (w : (List AObj)) : St := ⟨[(3, .str v)], w⟩
def clepsydraref02_unit_j2_k (v : Str) (o : (Bool)) (w : (List AObj)) (R : Type) (K : AExit → St → Option R) : Option R := K .normal ⟨[(3, .str v), (26, .bool o)], w⟩
def clepsydraref02_unit_j2_x (n : Nat) : Ex := xOf clepsydraref02_unit_j2_d (fun v => clepsydraref02_unit_j2 n v) clepsydraref02_unit_j2_k
def clepsydraref02_unit_j1_b (n : Nat) (x3 : Str) (R : Type) (K : (Bool) → Option R) : Option R := cond (x3 == ([119] : Str)) (K true) (cond (x3 == ([119, 101, 101, 107] : Str)) (K true) (K (x3 == ([119, 101, 101, 107, 115] : Str))))
def clepsydraref02_unit_j1 (n : Nat) (x3 : Str) : Option ((Bool)) := clepsydraref02_unit_j1_b n x3 _ some
def clepsydraref02_unit_j1_d : St → Option ((Str) × ((List AObj)))
  | ⟨[(3, .str x3)], H⟩ => some (x3, H)
  | _ => none
def clepsydraref02_unit_j1_t (v : Str) (w : (List AObj)) : St := ⟨[(3, .str v)], w⟩
def clepsydraref02_unit_j1_k (v : Str) (o : (Bool)) (w : (List AObj)) (R : Type) (K : AExit → St → Option R) : Option R := K .normal ⟨[(3, .str v), (30, .bool o)], w⟩
def clepsydraref02_unit_j1_x (n : Nat) : Ex := xOf clepsydraref02_unit_j1_d (fun v => clepsydraref02_unit_j1 n v) clepsydraref02_unit_j1_k
def clepsydraref02_unit_j0_b (n : Nat) (x3 : Str) (R : Type) (K : (Bool) → Option R) : Option R := cond (x3 == ([77] : Str)) (K true) (cond (x3 == ([109, 111, 110, 116, 104] : Str)) (K true) (K (x3 == ([109, 111, 110, 116, 104, 115] : Str))))
def clepsydraref02_unit_j0 (n : Nat) (x3 : Str) : Option ((Bool)) := clepsydraref02_unit_j0_b n x3 _ some
def clepsydraref02_unit_j0_d : St → Option ((Str) × ((List AObj)))
  | ⟨[(3, .str x3)], H⟩ => some (x3, H)
  | _ => none
def clepsydraref02_unit_j0_t (v : Str) (w : (List AObj)) : St := ⟨[(3, .str v)], w⟩
def clepsydraref02_unit_j0_k (v : Str) (o : (Bool)) (w : (List AObj)) (R : Type) (K : AExit → St → Option R) : Option R := K .normal ⟨[(3, .str v), (34, .bool o)], w⟩
def clepsydraref02_unit_j0_x (n : Nat) : Ex := xOf clepsydraref02_unit_j0_d (fun v => clepsydraref02_unit_j0 n v) clepsydraref02_unit_j0_k
theorem clepsydraref02_unit_j7_snd (n : Nat) : Snd ⟨Tryd.prog, 0, 42⟩ (clepsydraref02_unit_j7_x n) (Tryd.f27.body.getD .skip).a2.a1.a2.a1.a1 := snd_sub (t := clepsydraref02_unit_j7_t) (b := fun v R K => clepsydraref02_unit_j7_b n v R K) (m := (fun e => match e with | .normal => ([3, 4], none) | _ => ([], none))) .a (by intro s v w h; unfold clepsydraref02_unit_j7_d at h; split at h <;> first | (cases h; rfl) | cases h) (fun _ _ _ _ => by kernel_rfl) (by intros; unfold clepsydraref02_unit_j7_b; simp only [nats]) (fun _ => rfl) (by intro e n h; split at h <;> cases h) (by kernel_rfl) (by kernel_rfl) trivial
theorem clepsydraref02_unit_j6_snd (n : Nat) : Snd ⟨Tryd.prog, 0, 42⟩ (clepsydraref02_unit_j6_x n) (Tryd.f27.body.getD .skip).a2.a1.a2.a1.a2.a2.a1 := snd_sub (t := clepsydraref02_unit_j6_t) (b := fun v R K => clepsydraref02_unit_j6_b n v R K) (m := (fun e => match e with | .normal => ([3, 7], none) | _ => ([], none))) .a (by intro s v w h; unfold clepsydraref02_unit_j6_d at h; split at h <;> first | (cases h; rfl) | cases h) (fun _ _ _ _ => by kernel_rfl) (by intros; unfold clepsydraref02_unit_j6_b; simp only [nats]) (fun _ => rfl) (by intro e n h; split at h <;> cases h) (by kernel_rfl) (by kernel_rfl) trivial
theorem clepsydraref02_unit_j5_snd (n : Nat) : Snd ⟨Tryd.prog, 0, 42⟩ (clepsydraref02_unit_j5_x n) (Tryd.f27.body.getD .skip).a2.a1.a2.a1.a2.a2.a2.a2.a1 := snd_sub (t := clepsydraref02_unit_j5_t) (b := fun v R K => clepsydraref02_unit_j5_b n v R K) (m := (fun e => match e with | .normal => ([3, 10], none) | _ => ([], none))) .a (by intro s v w h; unfold clepsydraref02_unit_j5_d at h; split at h <;> first | (cases h; rfl) | cases h) (fun _ _ _ _ => by kernel_rfl) (by intros; unfold clepsydraref02_unit_j5_b; simp only [nats]) (fun _ => rfl) (by intro e n h; split at h <;> cases h) (by kernel_rfl) (by kernel_rfl) trivial
theorem clepsydraref02_unit_j4_snd (n : Nat) : Snd ⟨Tryd.prog, 0, 42⟩ (clepsydraref02_unit_j4_x n) (Tryd.f27.body.getD .skip).a2.a1.a2.a1.a2.a2.a2.a2.a2.a2.a1 := snd_sub (t := clepsydraref02_unit_j4_t) (b := fun v R K => clepsydraref02_unit_j4_b n v R K) (m := (fun e => match e with | .normal => ([3, 16], none) | _ => ([], none))) .a (by intro s v w h; unfold clepsydraref02_unit_j4_d at h; split at h <;> first | (cases h; rfl) | cases h) (fun _ _ _ _ => by kernel_rfl) (by intros; unfold clepsydraref02_unit_j4_b; simp only [nats]) (fun _ => rfl) (by intro e n h; split at h <;> cases h) (by kernel_rfl) (by kernel_rfl) trivial
theorem clepsydraref02_unit_j3_snd (n : Nat) : Snd ⟨Tryd.prog, 0, 42⟩ (clepsydraref02_unit_j3_x n) (Tryd.f27.body.getD .skip).a2.a1.a2.a1.a2.a2.a2.a2.a2.a2.a2.a2.a1 := snd_sub (t := clepsydraref02_unit_j3_t) (b := fun v R K => clepsydraref02_unit_j3_b n v R K) (m := (fun e => match e with | .normal => ([3, 21], none) | _ => ([], none))) .a (by intro s v w h; unfold clepsydraref02_unit_j3_d at h; split at h <;> first | (cases h; rfl) | cases h) (fun _ _ _ _ => by kernel_rfl) (by intros; unfold clepsydraref02_unit_j3_b; simp only [nats]) (fun _ => rfl) (by intro e n h; split at h <;> cases h) (by kernel_rfl) (by kernel_rfl) trivial
theorem clepsydraref02_unit_j2_snd (n : Nat) : Snd ⟨Tryd.prog, 0, 42⟩ (clepsydraref02_unit_j2_x n) (Tryd.f27.body.getD .skip).a2.a1.a2.a1.a2.a2.a2.a2.a2.a2.a2.a2.a2.a2.a1 := snd_sub (t := clepsydraref02_unit_j2_t) (b := fun v R K => clepsydraref02_unit_j2_b n v R K) (m := (fun e => match e with | .normal => ([3, 26], none) | _ => ([], none))) .a (by intro s v w h; unfold clepsydraref02_unit_j2_d at h; split at h <;> first | (cases h; rfl) | cases h) (fun _ _ _ _ => by kernel_rfl) (by intros; unfold clepsydraref02_unit_j2_b; simp only [nats]) (fun _ => rfl) (by intro e n h; split at h <;> cases h) (by kernel_rfl) (by kernel_rfl) trivial
theorem clepsydraref02_unit_j1_snd (n : Nat) : Snd ⟨Tryd.prog, 0, 42⟩ (clepsydraref02_unit_j1_x n) (Tryd.f27.body.getD .skip).a2.a1.a2.a1.a2.a2.a2.a2.a2.a2.a2.a2.a2.a2.a2.a2.a1 := snd_sub (t := clepsydraref02_unit_j1_t) (b := fun v R K => clepsydraref02_unit_j1_b n v R K) (m := (fun e => match e with | .normal => ([3, 30], none) | _ => ([], none))) .a (by intro s v w h; unfold clepsydraref02_unit_j1_d at h; split at h <;> first | (cases h; rfl) | cases h) (fun _ _ _ _ => by kernel_rfl) (by intros; unfold clepsydraref02_unit_j1_b; simp only [nats]) (fun _ => rfl) (by intro e n h; split at h <;> cases h) (by kernel_rfl) (by kernel_rfl) trivial
theorem clepsydraref02_unit_j0_snd (n : Nat) : Snd ⟨Tryd.prog, 0, 42⟩ (clepsydraref02_unit_j0_x n) (Tryd.f27.body.getD .skip).a2.a1.a2.a1.a2.a2.a2.a2.a2.a2.a2.a2.a2.a2.a2.a2.a2.a2.a1 := snd_sub (t := clepsydraref02_unit_j0_t) (b := fun v R K => clepsydraref02_unit_j0_b n v R K) (m := (fun e => match e with | .normal => ([3, 34], none) | _ => ([], none))) .a (by intro s v w h; unfold clepsydraref02_unit_j0_d at h; split at h <;> first | (cases h; rfl) | cases h) (fun _ _ _ _ => by kernel_rfl) (by intros; unfold clepsydraref02_unit_j0_b; simp only [nats]) (fun _ => rfl) (by intro e n h; split at h <;> cases h) (by kernel_rfl) (by kernel_rfl) trivial
def clepsydraref02_unit_b (n : Nat) (a0 : Str) (R : Type) (K : Int → Option R) : Option R := (clepsydraref02_unit_j7 n a0).bind fun o119 => (cond o119 (K (1 : Int)) ((clepsydraref02_unit_j6 n a0).bind fun o120 => (cond o120 (K (1000 : Int)) ((clepsydraref02_unit_j5 n a0).bind fun o121 => (cond o121 (K (1000000 : Int)) ((clepsydraref02_unit_j4 n a0).bind fun o122 => (cond o122 (K (60000000 : Int)) ((clepsydraref02_unit_j3 n a0).bind fun o123 => (cond o123 (K (3600000000 : Int)) ((clepsydraref02_unit_j2 n a0).bind fun o124 => (cond o124 (K (86400000000 : Int)) ((clepsydraref02_unit_j1 n a0).bind fun o125 => (cond o125 (K (604800000000 : Int)) ((clepsydraref02_unit_j0 n a0).bind fun o126 => (cond o126 (K (2629800000000 : Int)) (cond (a0 == ([121] : Str)) (K (31557600000000 : Int)) (cond (a0 == ([121, 101, 97, 114] : Str)) (K (31557600000000 : Int)) (cond (a0 == ([121, 101, 97, 114, 115] : Str)) (K (31557600000000 : Int)) (K (0 : Int))))))))))))))))))))
def clepsydraref02_unit_f (n : Nat) (a0 : Str) : Option (Int) := clepsydraref02_unit_b n a0 _ some
def clepsydraref02_unit_p : List AV → List AObj → Option (Str)
  | [.str a0], [] => some a0
  | _, _ => none
def clepsydraref02_unit_sp (n : Nat) : FSpec := spOf clepsydraref02_unit_p (fun v => clepsydraref02_unit_f n v) (fun o => .int .i64 o) (fun o => [])
theorem clepsydraref02_unit_sound (n : Nat) : FSound Tryd.prog 27 (clepsydraref02_unit_sp n) := fsound_R (t := fun v => ⟨[(0, .str v)], []⟩) (b := fun v R K => clepsydraref02_unit_b n v R K) (nt := 42) (n := some 0) (rs := [.tmp 2]) (.s .a (.s (.s .a (.u (.s (.p (emaskIn ([3], none) (clepsydraref02_unit_j7_x n))) (.s .a (.s (.p (emaskIn ([3], none) (clepsydraref02_unit_j6_x n))) (.s .a (.s (.p (emaskIn ([3], none) (clepsydraref02_unit_j5_x n))) (.s .a (.s (.p (emaskIn ([3], none) (clepsydraref02_unit_j4_x n))) (.s .a (.s (.p (emaskIn ([3], none) (clepsydraref02_unit_j3_x n))) (.s .a (.s (.p (emaskIn ([3], none) (clepsydraref02_unit_j2_x n))) (.s .a (.s (.p (emaskIn ([3], none) (clepsydraref02_unit_j1_x n))) (.s .a (.s (.p (emaskIn ([3], none) (clepsydraref02_unit_j0_x n))) .a))))))))))))))))) .a)) Tryd.func27 (by kernel_rfl) rfl rfl rfl (fun _ h => by injection h with h; exact h.symm) (by decide) (by kernel_rfl) (by intro s v w h; unfold clepsydraref02_unit_p at h; split at h <;> first | (cases h; exact ⟨Nat.le_of_ble_eq_true rfl, rfl, rfl⟩) | cases h) (fun _ _ _ => by kernel_rfl) (by intros; unfold clepsydraref02_unit_b; simp only [nats]) (fun _ => rfl) (by kernel_rfl) (by kernel_rfl) (ai (snd_in [3] (clepsydraref02_unit_j7_snd n)) (ai (snd_in [3] (clepsydraref02_unit_j6_snd n)) (ai (snd_in [3] (clepsydraref02_unit_j5_snd n)) (ai (snd_in [3] (clepsydraref02_unit_j4_snd n)) (ai (snd_in [3] (clepsydraref02_unit_j3_snd n)) (ai (snd_in [3] (clepsydraref02_unit_j2_snd n)) (ai (snd_in [3] (clepsydraref02_unit_j1_snd n)) (ai (snd_in [3] (clepsydraref02_unit_j0_snd n)) trivial))))))))

end Go.Proofs.YtmdnbpndhnjiaaaDoor.H

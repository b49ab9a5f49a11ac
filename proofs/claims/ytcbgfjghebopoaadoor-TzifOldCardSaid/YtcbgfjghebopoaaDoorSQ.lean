/- What an operation leaves alone. -/
import Derived.Test.YtcbgfjghebopoaaDoorSP
namespace Go.Sh
open Go.RowKit
set_option linter.unusedSimpArgs false
set_option linter.unusedVariables false

theorem st_get (x : AX) (s : St) (t : Nat) (h : t ∉ x.takes) : (x.st s).get t = s.get t := by
  cases x with
  | take u =>
    simp only [AX.takes, List.mem_singleton] at h
    simp only [AX.st]
    rw [get_cons, if_neg (fun e => h e.symm)]
  | _ => rfl
theorem sts_get : ∀ (xs : List AX) (s : St) (t : Nat), t ∉ takesL xs → (sts s xs).get t = s.get t
  | [], s, t, _ => rfl
  | x :: xs, s, t, h => by
    simp only [takesL, List.mem_append, not_or] at h
    rw [sts, sts_get xs _ t h.2, st_get x s t h.1]
theorem st_heap (x : AX) (s : St) : (x.st s).heap = s.heap := by cases x <;> rfl
theorem disown_bool {a : AV} {b : Bool} (h : disown a = .bool b) : a = .bool b := by
  cases a <;> simp [disown] at h
  exact congrArg AV.bool h
theorem know_get (x : AX) (s : St) (b : Bool) (t : Nat) (h : x.ev s = .bool b) : (x.know s b).get t = s.get t := by
  cases x with
  | tmp u =>
    show (s.know u b).get t = s.get t
    unfold St.know
    rw [get_cons]
    by_cases e : u = t
    · subst e; rw [if_pos rfl]; exact (disown_bool h).symm
    · rw [if_neg e]
  | _ => rfl
theorem know_heap (x : AX) (s : St) (b : Bool) : (x.know s b).heap = s.heap := by cases x <;> rfl

/-- Slots and objects that an operation leaves alone. -/
theorem run_local (p : AOp) (s : St) (R : Type) (k k2 : AV → St → Option R) (h : ∀ v s', (∀ t, t ∉ p.takes → s'.get t = s.get t) → (p.still = true → s'.heap = s.heap) → k v s' = k2 v s') : p.run s R k = p.run s R k2 := by
  have same : ∀ v, k v s = k2 v s := fun v => h v s (fun _ _ => rfl) (fun _ => rfl)
  cases p with
  | mv x => exact h _ _ (fun t ht => st_get x s t ht) (fun _ => st_heap x s)
  | chk x =>
    have h1 : ∀ v, k v (x.st s) = k2 v (x.st s) := fun v => h v _ (fun t ht => st_get x s t ht) (fun _ => st_heap x s)
    simp only [AOp.run, h1]
  | pick c a b =>
    simp only [AOp.run]
    cases hc : c.ev s with
    | bool t =>
      cases t with
      | true => exact h _ _ (fun t _ => know_get c s true t hc) (fun _ => know_heap c s true)
      | false => exact h _ _ (fun t _ => know_get c s false t hc) (fun _ => know_heap c s false)
    | _ => rfl
  | mark x =>
    have h1 : ∀ v, k v (x.st s) = k2 v (x.st s) := fun v => h v _ (fun t ht => st_get x s t ht) (fun _ => st_heap x s)
    simp only [AOp.run, h1]
  | extract i x =>
    have h1 : ∀ v, k v (x.st s) = k2 v (x.st s) := fun v => h v _ (fun t ht => st_get x s t ht) (fun _ => st_heap x s)
    simp only [AOp.run, h1]
  | append z b x y =>
    have h1 : ∀ v, k v (x.st s) = k2 v (x.st s) := fun v => h v _ (fun t ht => st_get x s t ht) (fun _ => st_heap x s)
    simp only [AOp.run, h1]
  | appendZ b x y =>
    have h1 : ∀ v, k v (x.st s) = k2 v (x.st s) := fun v => h v _ (fun t ht => st_get x s t ht) (fun _ => st_heap x s)
    simp only [AOp.run, h1]
  | appendS b x y =>
    have h1 : ∀ v, k v (x.st s) = k2 v (x.st s) := fun v => h v _ (fun t ht => st_get x s t ht) (fun _ => st_heap x s)
    simp only [AOp.run, h1]
  | appendM z b x y =>
    have h1 : ∀ v, k v (x.st s) = k2 v (x.st s) := fun v => h v _ (fun t ht => st_get x s t ht) (fun _ => st_heap x s)
    simp only [AOp.run, h1]
  | appendN z b x y =>
    have h1 : ∀ v H, k v ⟨(x.st s).slots, H⟩ = k2 v ⟨(x.st s).slots, H⟩ := fun v H => h v _ (fun t ht => st_get x s t ht) (fun hh => by simp [AOp.still] at hh)
    simp only [AOp.run, h1]
  | appendO z b x y =>
    have h1 : ∀ v H, k v ⟨s.slots, H⟩ = k2 v ⟨s.slots, H⟩ := fun v H => h v _ (fun t ht => rfl) (fun hh => by simp [AOp.still] at hh)
    simp only [AOp.run, h1]
  | buildB =>
    have h1 : ∀ v H, k v ⟨s.slots, H⟩ = k2 v ⟨s.slots, H⟩ := fun v H => h v _ (fun t ht => rfl) (fun hh => by simp [AOp.still] at hh)
    simp only [AOp.run, h1]
  | boxB t x =>
    have h1 : ∀ v H, k v ⟨s.slots, H⟩ = k2 v ⟨s.slots, H⟩ := fun v H => h v _ (fun t ht => rfl) (fun hh => by simp [AOp.still] at hh)
    simp only [AOp.run, h1]
  | nilO sh z =>
    have h1 : ∀ v H, k v ⟨s.slots, H⟩ = k2 v ⟨s.slots, H⟩ := fun v H => h v _ (fun t ht => rfl) (fun hh => by simp [AOp.still] at hh)
    simp only [AOp.run, h1]
  | build zero ps =>
    have h1 : ∀ v, k v (sts s (ps.map fun p => p.2.2)) = k2 v (sts s (ps.map fun p => p.2.2)) := fun v => h v _ (fun t ht => sts_get _ s t ht) (fun _ => sts_heap _ s)
    simp only [AOp.run, h1]
  | box t n x =>
    have h1 : ∀ v H, k v ⟨(x.st s).slots, H⟩ = k2 v ⟨(x.st s).slots, H⟩ := fun v H => h v _ (fun t ht => st_get x s t ht) (fun hh => by simp [AOp.still] at hh)
    simp only [AOp.run, h1]
  | alloc t zero =>
    have h1 : ∀ v H, k v ⟨s.slots, H⟩ = k2 v ⟨s.slots, H⟩ := fun v H => h v _ (fun t ht => rfl) (fun hh => by simp [AOp.still] at hh)
    simp only [AOp.run, h1]
  | litP t xs =>
    have h1 : ∀ v H, k v ⟨s.slots, H⟩ = k2 v ⟨s.slots, H⟩ := fun v H => h v _ (fun t ht => rfl) (fun hh => by simp [AOp.still] at hh)
    simp only [AOp.run, h1]
  | allocO ob =>
    have h1 : ∀ v H, k v ⟨s.slots, H⟩ = k2 v ⟨s.slots, H⟩ := fun v H => h v _ (fun t ht => rfl) (fun hh => by simp [AOp.still] at hh)
    simp only [AOp.run, h1]
  | callY sp key fv xs =>
    have h1 : ∀ v H, k v ⟨(sts s xs).slots, H⟩ = k2 v ⟨(sts s xs).slots, H⟩ := fun v H => h v _ (fun t ht => sts_get xs s t ht) (fun hh => by simp [AOp.still] at hh)
    simp only [AOp.run, callK, h1]
  | loadT n ag x =>
    have h1 : ∀ v H, k v ⟨s.slots, H⟩ = k2 v ⟨s.slots, H⟩ := fun v H => h v _ (fun t ht => rfl) (fun hh => by simp [AOp.still] at hh)
    simp only [AOp.run, h1]
  | store n x v =>
    have h1 : ∀ u H, k u ⟨(v.st s).slots, H⟩ = k2 u ⟨(v.st s).slots, H⟩ := fun u H => h u _ (fun t ht => st_get v s t ht) (fun hh => by simp [AOp.still] at hh)
    have h2 : ∀ u H, k u ⟨s.slots, H⟩ = k2 u ⟨s.slots, H⟩ := fun u H => h u _ (fun t ht => rfl) (fun hh => by simp [AOp.still] at hh)
    simp only [AOp.run, h1, h2]
  | makeMap =>
    have h1 : ∀ v H, k v ⟨s.slots, H⟩ = k2 v ⟨s.slots, H⟩ := fun v H => h v _ (fun t ht => rfl) (fun hh => by simp [AOp.still] at hh)
    simp only [AOp.run, h1]
  | mapPut i m key v =>
    have h1 : ∀ v H, k v ⟨s.slots, H⟩ = k2 v ⟨s.slots, H⟩ := fun v H => h v _ (fun t ht => rfl) (fun hh => by simp [AOp.still] at hh)
    simp only [AOp.run, h1]
  | callV sp f fv xs =>
    have h1 : ∀ v H, k v ⟨(sts s xs).slots, H⟩ = k2 v ⟨(sts s xs).slots, H⟩ := fun v H => h v _ (fun t ht => sts_get xs s t ht) (fun hh => by simp [AOp.still] at hh)
    simp only [AOp.run, callK, h1]
  | call sp f xs =>
    have h1 : ∀ v H, k v ⟨(sts s xs).slots, H⟩ = k2 v ⟨(sts s xs).slots, H⟩ := fun v H => h v _ (fun t ht => sts_get xs s t ht) (fun hh => by simp [AOp.still] at hh)
    simp only [AOp.run, callK, h1]
  | _ => simp only [AOp.run, same]

theorem put_get {s : St} {d : Option Nat} {v : AV} {t : Nat} (h : ∀ u, d = some u → t ≠ u) : (s.put d v).get t = s.get t := by
  cases d with
  | none => rfl
  | some d =>
    show (⟨(d, v) :: s.slots, s.heap⟩ : St).get t = s.get t
    rw [get_cons, if_neg (fun e => h d rfl e.symm)]
theorem put_heap {s : St} {d : Option Nat} {v : AV} : (s.put d v).heap = s.heap := by cases d <;> rfl
theorem wr_spec {d : DOper} {t : Nat} (h : t ∉ d.wr) : t ∉ d.op.op.takes ∧ ∀ u, d.op.dst = some u → t ≠ u := by
  unfold DOper.wr at h
  cases hd : d.op.dst with
  | none => rw [hd] at h; exact ⟨h, fun u hu => by cases hu⟩
  | some u =>
    rw [hd] at h
    simp only [List.mem_cons, not_or] at h
    exact ⟨h.2, fun u' hu => by injection hu with hu; subst hu; exact h.1⟩
theorem knowS_get {s : St} {t u : Nat} {b : Bool} (h : s.get t = .bool b) : (s.know t b).get u = s.get u := by
  unfold St.know
  rw [get_cons]
  by_cases e : t = u
  · subst e; rw [if_pos rfl]; exact h.symm
  · rw [if_neg e]
/-- The same of one operation of a region, guard and all. -/
theorem runOne_local (d : DOper) (s : St) (R : Type) (k k2 : St → Option R) (h : ∀ s', (∀ t, t ∉ d.wr → s'.get t = s.get t) → (d.op.op.still = true → s'.heap = s.heap) → k s' = k2 s') : runOps [d.op] s R k = runOps [d.op] s R k2 := by
  have go : ∀ (s0 : St), (∀ t, s0.get t = s.get t) → s0.heap = s.heap → (d.op.op.run s0 R fun v s' => k (s'.put d.op.dst v)) = (d.op.op.run s0 R fun v s' => k2 (s'.put d.op.dst v)) := by
    intro s0 h0 h1
    refine run_local _ _ _ _ _ fun v s' h2 h3 => h _ (fun t ht => ?_) (fun hs => by rw [put_heap, h3 hs, h1])
    obtain ⟨h4, h5⟩ := wr_spec ht
    rw [put_get h5, h2 t h4, h0 t]
  have skip : ∀ (s0 : St), (∀ t, s0.get t = s.get t) → s0.heap = s.heap → k (s0.put d.op.dst (.tuple [])) = k2 (s0.put d.op.dst (.tuple [])) := by
    intro s0 h0 h1
    refine h _ (fun t ht => ?_) (fun _ => by rw [put_heap, h1])
    rw [put_get (wr_spec ht).2, h0 t]
  simp only [runOps]
  cases d.op.guard with
  | none => exact go s (fun _ => rfl) rfl
  | some tw =>
    obtain ⟨t, want⟩ := tw
    simp only
    cases hb : s.get t with
    | bool b =>
      have kt : ∀ b', b = b' → (∀ u, (s.know t b').get u = s.get u) := fun b' e u => knowS_get (by rw [hb, e])
      cases want <;> cases b <;> simp only [cond_true, cond_false]
      · exact go _ (kt false rfl) rfl
      · exact skip _ (kt true rfl) rfl
      · exact skip _ (kt false rfl) rfl
      · exact go _ (kt true rfl) rfl
    | tuple vs => cases vs <;> simp only; exact skip s (fun _ => rfl) rfl
    | _ => rfl
open Classical in
/-- So what is told of one operation can be told with what it leaves alone. -/
theorem runOne_keeps {d : DOper} {s : St} {R : Type} {k : St → Option R} {r : R} (h : runOps [d.op] s R k = some r) :
    runOps [d.op] s R (fun s' => if (∀ t, t ∉ d.wr → s'.get t = s.get t) ∧ (d.op.op.still = true → s'.heap = s.heap) then k s' else none) = some r := by
  rw [← h]
  exact runOne_local d s R _ _ fun s' h1 h2 => by rw [if_pos ⟨h1, h2⟩]
end Go.Sh

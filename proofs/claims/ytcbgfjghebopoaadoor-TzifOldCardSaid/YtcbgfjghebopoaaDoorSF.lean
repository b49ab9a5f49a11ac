/- Operations that only read. -/
import Derived.Test.YtcbgfjghebopoaaDoorSE
import Derived.Laws.Cells
import Derived.Laws.Slices
import Derived.Laws.Strings
import Derived.Laws.BytesString
namespace Go.Sh
open Go.RowKit
set_option linter.unusedSimpArgs false
set_option linter.unusedVariables false
variable {c : Cx} {o : Oper}

theorem add_block (a : Addr) (n : Nat) : (a.add n).block = a.block := by unfold Addr.add; split <;> rfl
theorem add_off (a : Addr) (n : Nat) : (a.add n).off = a.off + n := by unfold Addr.add; split <;> simp_all
theorem add_spot {a : Addr} (n : Nat) (h : a.spot = none) : (a.add n).spot = none := by unfold Addr.add; split <;> simp_all
theorem addr_eq {a : Addr} (h : a.spot = none) : a = ⟨a.block, a.off, none⟩ := by cases a; simp_all
theorem add_eq {a : Addr} (n : Nat) (h : a.spot = none) : a.add n = ⟨a.block, a.off + n, none⟩ := by
  rw [addr_eq (add_spot n h), add_block, add_off]

theorem run_sizeOf' {P : Program} {t : TypeId} {z : Nat} (h : (P.info? t).map (·.size) = some z) (w : World) : (sizeOf t).run P w = .ok z w := by
  obtain ⟨i, h1, h2⟩ := Option.map_eq_some_iff.1 h
  simp [sizeOf, typeInfo, h1, h2]
def isAggD : TypeDesc → Bool
  | .struct _ | .array _ _ => true
  | _ => false
theorem run_isAgg' {P : Program} {t : TypeId} {d : TypeDesc} (h : P.underlying t = some d) (w : World) : (isAgg t).run P w = .ok (isAggD d) w := by
  simp only [isAgg, Sem.run_bind, run_underlying h, Result.andThen]
  cases d <;> rfl
theorem elem_eq {P : Program} {t e : TypeId} (h : P.underlying t = some (.slice e)) : P.elem t = e := by simp [Program.elem, h]

/-- Not taken. -/
def AX.free : AX → Bool
  | .take _ => false
  | _ => true
theorem free_owns {F : Nat → Prop} {nt : Nat} {g : Gh} {s : St} {a : Act} {w : World} {os : List Rec} {x : AX} {y : Operand} (h : SimX F nt g s a w os) (hx : fitX x y = true) (hf : x.free = true) : owns (x.ev s) (a.eval y) = [] := by
  cases x with
  | tmp t => exact owns_disown _ _
  | take t => simp [AX.free] at hf
  | cst v =>
    cases y with
    | const c => exact (fitC_ok g w v c (by simpa [fitX] using hx)).2
    | func f =>
      cases v with
      | func fn f1 c1 => rfl
      | _ => simp [fitX] at hx
    | _ => simp [fitX] at hx

theorem idxK_some {α : Type} {l : List α} {i : AV} {R : Type} {k : α → Option R} {r : R} (h : idxK l i k = some r) : ∃ kd n x, i = .int kd n ∧ 0 ≤ n ∧ n.toNat < l.length ∧ l[n.toNat]? = some x ∧ k x = some r := by
  unfold idxK at h
  split at h
  · rename_i kd n
    obtain ⟨h1, h2⟩ | ⟨h1, h2⟩ := cond_some h
    · obtain ⟨x, h3, h4⟩ := Option.bind_eq_some_iff.1 h2
      exact ⟨kd, n, x, rfl, by simpa using h1, (List.getElem?_eq_some_iff.1 h3).1, h3, h4⟩
    · exact absurd h2 (by simp)
  · exact absurd h (by simp)

theorem Reads.sub {g : Gh} {w : World} {a : Addr} {vs : List Value} (h : Reads g w a vs) (k m : Nat) (hk : k + m ≤ vs.length) : Reads g w (a.add k) ((vs.drop k).take m) := by
  obtain ⟨h1, h2, h3⟩ := h
  refine ⟨add_spot _ h1, ?_, fun j hj => ?_⟩
  · rw [add_off, add_block, List.length_take, List.length_drop]; omega
  · rw [List.length_take, List.length_drop] at hj
    rw [add_off, add_block, Nat.add_assoc, h3 _ (by omega), List.getElem?_take, if_pos (by omega), List.getElem?_drop]

theorem VRss.length {g : Gh} {w : World} {sz : Nat} : ∀ {els : List (List AV)} {vs : List Value}, VRss g w els vs → (∀ e ∈ els, e.length = sz) → vs.length = els.length * sz
  | [], vs, h, _ => by simp only [VRss] at h; subst h; simp
  | e :: els, vs, h, hl => by
    simp only [VRss] at h
    obtain ⟨p, q, rfl, h1, h2⟩ := h
    rw [List.length_append, ← h1.length, hl e (by simp), VRss.length h2 (fun e he => hl e (by simp [he])), List.length_cons, Nat.add_mul]
    omega
theorem VRss.get {g : Gh} {w : World} {sz : Nat} : ∀ {els : List (List AV)} {vs : List Value}, VRss g w els vs → (∀ e ∈ els, e.length = sz) → ∀ (i : Nat) (cs : List AV), els[i]? = some cs → VRs g w cs ((vs.drop (i * sz)).take sz)
  | [], _, _, _, i, cs, hc => by simp at hc
  | e :: els, vs, h, hl, i, cs, hc => by
    simp only [VRss] at h
    obtain ⟨p, q, rfl, h1, h2⟩ := h
    have hp : p.length = sz := by rw [← h1.length, hl e (by simp)]
    cases i with
    | zero => simp at hc; subst hc; simpa [← hp] using h1
    | succ i =>
      have := VRss.get h2 (fun e he => hl e (by simp [he])) i cs (by simpa using hc)
      rw [show (i + 1) * sz = p.length + i * sz by rw [hp, Nat.add_mul]; omega, List.drop_length_add_append]
      exact this
theorem VRss.drop {g : Gh} {w : World} {sz : Nat} : ∀ {els : List (List AV)} {vs : List Value} (n : Nat), VRss g w els vs → (∀ e ∈ els, e.length = sz) → VRss g w (els.drop n) (vs.drop (n * sz))
  | [], vs, n, h, _ => by simp only [VRss] at h; subst h; simp [VRss]
  | e :: els, vs, n, h, hl => by
    cases n with
    | zero => simpa using h
    | succ n =>
      simp only [VRss] at h
      obtain ⟨p, q, rfl, h1, h2⟩ := h
      have hp : p.length = sz := by rw [← h1.length, hl e (by simp)]
      rw [show (n + 1) * sz = p.length + n * sz by rw [hp, Nat.add_mul]; omega, List.drop_length_add_append, List.drop_succ_cons]
      exact VRss.drop n h2 (fun e he => hl e (by simp [he]))
theorem VRss.take {g : Gh} {w : World} {sz : Nat} : ∀ {els : List (List AV)} {vs : List Value} (n : Nat), VRss g w els vs → (∀ e ∈ els, e.length = sz) → VRss g w (els.take n) (vs.take (n * sz))
  | [], vs, n, h, _ => by simp only [VRss] at h; subst h; simp [VRss]
  | e :: els, vs, n, h, hl => by
    cases n with
    | zero => simp [VRss]
    | succ n =>
      simp only [VRss] at h
      obtain ⟨p, q, rfl, h1, h2⟩ := h
      have hp : p.length = sz := by rw [← h1.length, hl e (by simp)]
      rw [show (n + 1) * sz = p.length + n * sz by rw [hp, Nat.add_mul]; omega, List.take_length_add_append, List.take_succ_cons]
      simp only [VRss]
      exact ⟨p, _, rfl, h1, VRss.take n h2 (fun e he => hl e (by simp [he]))⟩

theorem ok_idxA {z : Nat} {x i : AX} {p q : Operand} {t e : TypeId} (h : o.op = .indexAddr t p q) (ht : c.P.underlying t = some (.slice e)) (hz : (c.P.info? e).map (·.size) = some z) (h0 : 0 < z) (hx : fitX x p = true) (hi : fitX i q = true) : OpOK c (.idxA z x i) o := by
  refine ok_tells fun s R k r hr => ?_
  have key : ∀ (g : Gh) (w : World) (a : Act) (ao : Option Addr) (n cp : Nat) (vs : List Value) (kd : IntKind) (m : Int), a.eval p = .slice ao n cp → a.eval q = .int kd m → 0 ≤ m → m.toNat < n → (∃ own, Row g w own ao n cp z vs) →
      ∃ ad, (execOp a.eval o).run c.P w = .ok (.value (.pointer (some ad))) w ∧ Reads g w ad ((vs.drop (m.toNat * z)).take z) := by
    intro g w a ao n cp vs kd m hp hq hm hn hrow
    obtain ⟨own, h1, h2, _, h3, _, _⟩ := hrow
    have hle : (m.toNat + 1) * z ≤ n * z := Nat.mul_le_mul_right _ hn
    rw [Nat.add_mul] at hle
    obtain ⟨ad, rfl, h4⟩ := h3 (by omega)
    refine ⟨ad.add (m.toNat * z), ?_, h4.sub _ _ (by omega)⟩
    simp only [execOp, h]
    refine run_value ?_
    rw [hp, hq, run_indexAt_slice w t ad n cp kd m (by rw [elem_eq ht]; exact ht), if_pos ⟨hm, by omega⟩, elem_eq ht, run_sizeOf' hz]
    rfl
  simp only [AOp.run] at hr
  split at hr
  · rename_i own kd l hv
    obtain ⟨hc, hr⟩ | ⟨_, hr⟩ := cond_some hr
    case inr => exact absurd hr (by simp)
    simp only [beq_iff_eq] at hc
    subst hc
    obtain ⟨ki, n, e1, h1, h2, hlt, h3, h4⟩ := idxK_some hr
    refine ⟨_, h4, fun F g a w hs => ?_⟩
    have hp := ev_read hs hx
    have hq := ev_read hs hi
    rw [hv] at hp
    rw [h1] at hq
    simp only [VR] at hp hq
    obtain ⟨ao, m, cp, hp, hrow⟩ := hp
    have hm : m = l.length := by have := hrow.1; simp at this; exact this.symm
    obtain ⟨ad, h5, h6⟩ := key g w a ao m cp _ ki n hp hq h2 (by omega) ⟨_, hrow⟩
    refine ⟨_, h5, ?_, rfl⟩
    simp only [VR]
    have hone : ((l.map (Value.int kd)).drop (n.toNat * 1)).take 1 = [Value.int kd e1] := by
      rw [Nat.mul_one, List.take_one, List.head?_drop, List.getElem?_map, h3]; rfl
    rw [hone] at h6
    exact ⟨ad, [Value.int kd e1], rfl, h6, by simp [VRs, VR, noPtrL, noPtr]⟩
  · rename_i own l hv
    obtain ⟨hc, hr⟩ | ⟨_, hr⟩ := cond_some hr
    case inr => exact absurd hr (by simp)
    simp only [beq_iff_eq] at hc
    subst hc
    obtain ⟨ki, n, e1, h1, h2, hlt, h3, h4⟩ := idxK_some hr
    refine ⟨_, h4, fun F g a w hs => ?_⟩
    have hp := ev_read hs hx
    have hq := ev_read hs hi
    rw [hv] at hp
    rw [h1] at hq
    simp only [VR] at hp hq
    obtain ⟨ao, m, cp, hp, hrow⟩ := hp
    have hm : m = l.length := by have := hrow.1; simp at this; exact this.symm
    obtain ⟨ad, h5, h6⟩ := key g w a ao m cp _ ki n hp hq h2 (by omega) ⟨_, hrow⟩
    refine ⟨_, h5, ?_, rfl⟩
    simp only [VR]
    have hone : ((l.map fun s => Value.string ⟨s.toArray⟩).drop (n.toNat * 1)).take 1 = [Value.string ⟨e1.toArray⟩] := by
      rw [Nat.mul_one, List.take_one, List.head?_drop, List.getElem?_map, h3]; rfl
    rw [hone] at h6
    exact ⟨ad, [Value.string ⟨e1.toArray⟩], rfl, h6, by simp [VRs, VR, noPtrL, noPtr]⟩
  · rename_i own sz els hv
    obtain ⟨hc, hr2⟩ | ⟨_, hr2⟩ := cond_some hr
    case inr => exact absurd hr2 (by simp)
    simp only [beq_iff_eq] at hc
    subst hc
    obtain ⟨ki, n, e1, h1, h2, hlt, h3, h4⟩ := idxK_some hr2
    refine ⟨_, h4, fun F g a w hs => ?_⟩
    have hp := ev_read hs hx
    have hq := ev_read hs hi
    rw [hv] at hp
    rw [h1] at hq
    simp only [VR] at hp hq
    obtain ⟨ao, m, cp, vs, hp, hrow, hm, hsz, hvs⟩ := hp
    obtain ⟨ad, h5, h6⟩ := key g w a ao m cp _ ki n hp hq h2 (by omega) ⟨_, hrow⟩
    refine ⟨_, h5, ?_, rfl⟩
    simp only [VR]
    exact ⟨ad, _, rfl, h6, hvs.get (fun e he => (hsz e he).1) _ _ h3, (hsz e1 (List.mem_of_getElem? h3)).2⟩
  · rename_i id off m sz hv
    split at hr
    · rename_i ki n hn
      obtain ⟨hc, hr⟩ | ⟨_, hr⟩ := cond_some hr
      case inr => exact absurd hr (by simp)
      obtain ⟨h1, hr⟩ | ⟨_, hr⟩ := cond_some hr
      case inr => exact absurd hr (by simp)
      obtain ⟨h2, hr⟩ | ⟨_, hr⟩ := cond_some hr
      case inr => exact absurd hr (by simp)
      simp only [beq_iff_eq, decide_eq_true_eq] at hc h1 h2
      subst hc
      refine ⟨_, hr, fun F g a w hs => ?_⟩
      have hp := ev_read hs hx
      have hq := ev_read hs hi
      rw [hv] at hp
      rw [hn] at hq
      simp only [VR] at hp hq
      obtain ⟨ao, b, cp, hp, hao, hle, hb⟩ := hp
      obtain rfl := hao (by omega)
      refine ⟨.pointer (some ⟨b, off + n.toNat * z, none⟩), ?_, by simp only [VR]; exact ⟨b, rfl, hb⟩, rfl⟩
      simp only [execOp, h]
      refine run_value ?_
      rw [hp, hq, run_indexAt_slice w t _ m cp ki n (by rw [elem_eq ht]; exact ht), if_pos ⟨h1, h2⟩, elem_eq ht, run_sizeOf' hz]
      simp only [Result.andThen]
      rw [add_eq _ rfl]
    · exact absurd hr (by simp)
  · rename_i id m tot sz hv
    split at hr
    · rename_i ki n hn
      obtain ⟨hc, hr⟩ | ⟨_, hr⟩ := cond_some hr
      case inr => exact absurd hr (by simp)
      obtain ⟨h1, hr⟩ | ⟨_, hr⟩ := cond_some hr
      case inr => exact absurd hr (by simp)
      obtain ⟨h2, hr⟩ | ⟨_, hr⟩ := cond_some hr
      case inr => exact absurd hr (by simp)
      simp only [beq_iff_eq, decide_eq_true_eq] at hc h1 h2
      subst hc
      refine ⟨_, hr, fun F g a w hs => ?_⟩
      have hp := ev_read hs hx
      have hq := ev_read hs hi
      rw [hv] at hp
      rw [hn] at hq
      simp only [VR] at hp hq
      obtain ⟨ao, b, cp, hp, hle, hmt, hb, _, hao⟩ := hp
      obtain ⟨rfl, _⟩ := hao (by omega)
      refine ⟨.pointer (some ⟨b, n.toNat * z, none⟩), ?_, by simp only [VR]; exact ⟨b, rfl, hb⟩, rfl⟩
      simp only [execOp, h]
      refine run_value ?_
      rw [hp, hq, run_indexAt_slice w t _ m cp ki n (by rw [elem_eq ht]; exact ht), if_pos ⟨h1, h2⟩, elem_eq ht, run_sizeOf' hz]
      simp only [Result.andThen]
      rw [add_eq _ rfl, Nat.zero_add]
    · exact absurd hr (by simp)
  · exact absurd hr (by simp)

theorem ok_idxS {x i : AX} {p q : Operand} {t : TypeId} (h : o.op = .index t p q) (ht : c.P.underlying t = some .string) (hx : fitX x p = true) (hi : fitX i q = true) : OpOK c (.idxS x i) o := by
  refine ok_tells fun s R k r hr => ?_
  simp only [AOp.run] at hr
  split at hr
  · rename_i l hv
    obtain ⟨ki, n, e1, h1, h2, hlt, h3, h4⟩ := idxK_some hr
    refine ⟨_, h4, fun F g a w hs => ?_⟩
    have hp := ev_read hs hx
    have hq := ev_read hs hi
    rw [hv] at hp
    rw [h1] at hq
    simp only [VR] at hp hq
    obtain ⟨s1, hp, hl⟩ := hp
    have hsz : s1.size = l.length := by rw [← hl]; exact (Array.length_toList (xs := s1.data)).symm
    refine ⟨.int .u8 (e1.toNat : Int), ?_, by simp [VR], rfl⟩
    simp only [execOp, h]
    refine run_value ?_
    have hlt' : 0 ≤ n ∧ n < (s1.size : Int) := ⟨h2, by omega⟩
    rw [hp, hq, run_index_string w t s1 ki n ht, dif_pos hlt']
    have he : s1[n.toNat]'(by omega) = e1 := by
      have h5 : s1.data[n.toNat]? = some e1 := by rw [← Array.getElem?_toList, hl, h3]
      have h6 := (Array.getElem?_eq_some_iff.1 h5)
      exact h6.2
    rw [he]
  · exact absurd hr (by simp)

theorem asK_some {aggr : Bool} {n : Nat} {cs : List AV} {R : Type} {k : AV → Option R} {r : R} (h : asK aggr n cs k = some r) : ∃ v, k v = some r ∧ ((aggr = true ∧ cs.length = n ∧ v = .agg cs) ∨ (aggr = false ∧ ∃ rest, cs = v :: rest)) := by
  unfold asK at h
  cases aggr with
  | true =>
    obtain ⟨h1, h2⟩ | ⟨h1, h2⟩ := cond_some h
    · exact ⟨_, h2, .inl ⟨rfl, by simpa using h1, rfl⟩⟩
    · exact absurd h2 (by simp)
  | false =>
    cases cs with
    | nil => exact absurd h (by simp)
    | cons v rest => exact ⟨v, h, .inr ⟨rfl, rest, rfl⟩⟩

/-- A variable is read. -/
theorem loadVar_ok {P : Program} {t : TypeId} {d : TypeDesc} {n : Nat} {aggr : Bool} (ht : P.underlying t = some d) (ha : isAggD d = aggr) (hn : (P.info? t).map (·.size) = some n) {g : Gh} {w : World} {cs : List AV} {v : AV} {b off : Nat} {vs : List Value}
    (hv : (aggr = true ∧ cs.length = n ∧ v = .agg cs) ∨ (aggr = false ∧ ∃ rest, cs = v :: rest)) (hcs : VRs g w cs vs) (hw : ∀ j, j < vs.length → w.cell? ⟨b, off + j, none⟩ = vs[j]?) :
    ∃ v', (loadVar t ⟨b, off, none⟩).run P w = .ok v' w ∧ VR g w v v' := by
  rcases hv with ⟨rfl, h1, rfl⟩ | ⟨rfl, rest, rfl⟩
  · refine ⟨.agg vs.toArray, ?_, by simp only [VR]; exact ⟨_, rfl, by simpa using hcs⟩⟩
    have hl := hcs.length
    simp only [loadVar, Sem.run_bind, run_isAgg' ht, ha, Result.andThen, if_true, run_sizeOf' hn]
    rw [show n = vs.length by omega, run_loadCells_list w ⟨b, off, none⟩ vs (fun j x hj => by
      have hlt : j < vs.length := (List.getElem?_eq_some_iff.1 hj).1
      rw [add_eq _ rfl, hw j hlt, hj])]
    rfl
  · simp only [VRs] at hcs
    obtain ⟨v', us, rfl, h2, h3⟩ := hcs
    refine ⟨v', ?_, h2⟩
    have h0 := hw 0 (by simp)
    simp only [Nat.add_zero, List.getElem?_cons_zero] at h0
    simp only [loadVar, Sem.run_bind, run_isAgg' ht, ha, Result.andThen, Bool.false_eq_true, if_false, run_load, h0]

theorem getObj_ok {g : Gh} {w : World} : ∀ {H : List AObj} {bs : List Nat}, ObjsR g w H bs → ∀ (id b : Nat) (ob : AObj), H[id]? = some ob → bs[id]? = some b → ObjR g w b ob
  | [], _, _, id, b, ob, h1, _ => by simp at h1
  | x :: H, bs, h, id, b, ob, h1, h2 => by
    simp only [ObjsR] at h
    obtain ⟨b', cs, rfl, h3, h4⟩ := h
    cases id with
    | zero => simp at h1 h2; subst h1; subst h2; exact h3
    | succ id => exact getObj_ok h4 id b ob (by simpa using h1) (by simpa using h2)

theorem ok_load {n : Nat} {aggr : Bool} {x : AX} {p : Operand} {t : TypeId} {d : TypeDesc} (h : o.op = .load t p) (ht : c.P.underlying t = some d) (ha : isAggD d = aggr) (hn : (c.P.info? t).map (·.size) = some n) (hx : fitX x p = true) : OpOK c (.load n aggr x) o := by
  refine ok_tells fun s R k r hr => ?_
  simp only [AOp.run] at hr
  split at hr
  · rename_i cs hv
    obtain ⟨v, h1, h2⟩ := asK_some hr
    refine ⟨_, h1, fun F g a w hs => ?_⟩
    have hp := ev_read hs hx
    rw [hv] at hp
    simp only [VR] at hp
    obtain ⟨ad, vs, hp, hrd, hvs, _⟩ := hp
    obtain ⟨v', h3, h4⟩ := loadVar_ok (b := ad.block) (off := ad.off) ht ha hn h2 (hvs.take n) (fun j hj => by
      rw [List.length_take] at hj
      rw [hrd.2.2 j (by omega), List.getElem?_take, if_pos (by omega)])
    refine ⟨v', ?_, VR.disown _ _ h4, owns_disown _ _⟩
    simp only [execOp, h]
    refine run_value ?_
    rw [hp]
    simp only [Instr.loadAt, Instr.sureAddr, Sem.run_bind, Sem.run_pure, Result.andThen]
    rw [addr_eq hrd.1]
    exact h3
  · rename_i id off hv
    split at hr
    · rename_i ot cs hob
      obtain ⟨v, h1, h2⟩ := asK_some hr
      refine ⟨_, h1, fun F g a w hs => ?_⟩
      have hp := ev_read hs hx
      rw [hv] at hp
      simp only [VR] at hp
      obtain ⟨b, hp, hb⟩ := hp
      have hobj := getObj_ok hs.core.heap id b _ hob hb
      simp only [ObjR] at hobj
      obtain ⟨arr, hw, hvs⟩ := hobj
      obtain ⟨v', h3, h4⟩ := loadVar_ok (b := b) (off := off) ht ha hn h2 ((hvs.drop off).take n) (fun j hj => by
        rw [List.length_take] at hj
        rw [List.getElem?_take, if_pos (by omega), List.getElem?_drop]
        simp [World.cell?, hw])
      refine ⟨v', ?_, VR.disown _ _ h4, owns_disown _ _⟩
      simp only [execOp, h]
      refine run_value ?_
      rw [hp]
      simp only [Instr.loadAt, Instr.sureAddr, Sem.run_bind, Sem.run_pure, Result.andThen]
      exact h3
    · rename_i ot xs hob
      obtain ⟨hag, hr2⟩ | ⟨hag, hr2⟩ := cond_some hr
      · exact absurd hr2 (by simp)
      obtain ⟨y, h1, h2⟩ := Option.bind_eq_some_iff.1 hr2
      refine ⟨_, h2, fun F g a w hs => ?_⟩
      have hp := ev_read hs hx
      rw [hv] at hp
      simp only [VR] at hp
      obtain ⟨b, hp, hb⟩ := hp
      have hobj := getObj_ok hs.core.heap id b _ hob hb
      simp only [ObjR] at hobj
      obtain ⟨arr, rest, hw, harr⟩ := hobj
      have hlt := (List.getElem?_eq_some_iff.1 h1).1
      have hc : w.cell? ⟨b, off, none⟩ = some (Value.string ⟨y.toArray⟩) := by
        have : arr.toList[off]? = some (Value.string ⟨y.toArray⟩) := by
          rw [harr, List.getElem?_append_left (by simpa using hlt), List.getElem?_map, h1]; rfl
        simpa [World.cell?, hw] using this
      refine ⟨Value.string ⟨y.toArray⟩, ?_, by simp only [VR]; exact ⟨_, rfl, by simp⟩, rfl⟩
      simp only [execOp, h]
      refine run_value ?_
      rw [hp]
      simp only [Instr.loadAt, Instr.sureAddr, Sem.run_bind, Sem.run_pure, Result.andThen, loadVar, run_isAgg' ht, ha, hag, Bool.false_eq_true, if_false, run_load, hc]
    · rename_i ot kd xs hob
      obtain ⟨hag, hr2⟩ | ⟨hag, hr2⟩ := cond_some hr
      · exact absurd hr2 (by simp)
      obtain ⟨y, h1, h2⟩ := Option.bind_eq_some_iff.1 hr2
      refine ⟨_, h2, fun F g a w hs => ?_⟩
      have hp := ev_read hs hx
      rw [hv] at hp
      simp only [VR] at hp
      obtain ⟨b, hp, hb⟩ := hp
      have hobj := getObj_ok hs.core.heap id b _ hob hb
      simp only [ObjR] at hobj
      obtain ⟨arr, rest, hw, harr⟩ := hobj
      have hlt := (List.getElem?_eq_some_iff.1 h1).1
      have hc : w.cell? ⟨b, off, none⟩ = some (Value.int kd y) := by
        have : arr.toList[off]? = some (Value.int kd y) := by
          rw [harr, List.getElem?_append_left (by simpa using hlt), List.getElem?_map, h1]; rfl
        simpa [World.cell?, hw] using this
      refine ⟨Value.int kd y, ?_, by simp only [VR], rfl⟩
      simp only [execOp, h]
      refine run_value ?_
      rw [hp]
      simp only [Instr.loadAt, Instr.sureAddr, Sem.run_bind, Sem.run_pure, Result.andThen, loadVar, run_isAgg' ht, ha, hag, Bool.false_eq_true, if_false, run_load, hc]
    · rename_i kd xs hob
      obtain ⟨hag, hr2⟩ | ⟨hag, hr2⟩ := cond_some hr
      · exact absurd hr2 (by simp)
      obtain ⟨y, h1, h2⟩ := Option.bind_eq_some_iff.1 hr2
      refine ⟨_, h2, fun F g a w hs => ?_⟩
      have hp := ev_read hs hx
      rw [hv] at hp
      simp only [VR] at hp
      obtain ⟨b, hp, hb⟩ := hp
      have hobj := getObj_ok hs.core.heap id b _ hob hb
      simp only [ObjR] at hobj
      have hlt := (List.getElem?_eq_some_iff.1 h1).1
      obtain ⟨arr, tt, rest, hw, harr⟩ := hobj.resolve_left (fun e0 => by subst e0; simp at hlt)
      have hc : w.cell? ⟨b, off, none⟩ = some (Value.int kd y) := by
        have : arr.toList[off]? = some (Value.int kd y) := by
          rw [harr, List.getElem?_append_left (by simpa using hlt), List.getElem?_map, h1]; rfl
        rw [hw.cell]; simpa using this
      refine ⟨Value.int kd y, ?_, by simp only [VR], rfl⟩
      simp only [execOp, h]
      refine run_value ?_
      rw [hp]
      simp only [Instr.loadAt, Instr.sureAddr, Sem.run_bind, Sem.run_pure, Result.andThen, loadVar, run_isAgg' ht, ha, hag, Bool.false_eq_true, if_false, run_load, hc]
    · exact absurd hr (by simp)
  · exact absurd hr (by simp)

theorem VR.sl_len {g : Gh} {w : World} {own : Bool} {sz : Nat} {els : List (List AV)} {v : Value} (h : VR g w (.sl own sz els) v) : ∃ ao cp, v = .slice ao els.length cp := by
  simp only [VR] at h
  obtain ⟨ao, m, cp, vs, h1, h2, h3, _⟩ := h
  exact ⟨ao, cp, by rw [h3]; exact h1⟩
theorem VR.ints_len {g : Gh} {w : World} {own : Bool} {kd : IntKind} {l : List Int} {v : Value} (h : VR g w (.ints own kd l) v) : ∃ ao cp, v = .slice ao l.length cp := by
  simp only [VR] at h
  obtain ⟨ao, m, cp, h1, h2⟩ := h
  have hm : m = l.length := by have := h2.1; simp at this; exact this.symm
  exact ⟨ao, cp, by rw [← hm]; exact h1⟩
theorem VR.strs_len {g : Gh} {w : World} {own : Bool} {l : List Str} {v : Value} (h : VR g w (.strs own l) v) : ∃ ao cp, v = .slice ao l.length cp := by
  simp only [VR] at h
  obtain ⟨ao, m, cp, h1, h2⟩ := h
  have hm : m = l.length := by have := h2.1; simp at this; exact this.symm
  exact ⟨ao, cp, by rw [← hm]; exact h1⟩
theorem VR.str_len {g : Gh} {w : World} {l : Str} {v : Value} (h : VR g w (.str l) v) : ∃ s : ByteArray, v = .string s ∧ s.size = l.length := by
  simp only [VR] at h
  obtain ⟨s, h1, h2⟩ := h
  exact ⟨s, h1, by rw [← h2]; exact (Array.length_toList (xs := s.data)).symm⟩

end Go.Sh

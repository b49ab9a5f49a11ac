/- Rows of structs, arrays, equality of structs, nil interfaces. -/
import Derived.Test.YtcbgfjghebopoaaDoorSW
import Derived.Laws.StructEq
import Derived.Laws.Entries
import Derived.Stop.IfaceNil
namespace Go.Sh
open Go.RowKit
set_option linter.unusedSimpArgs false
set_option linter.unusedVariables false
variable {c : Cx} {o : Oper}

theorem unc_some {l : List AV} {R : Type} {k : AV → List AV → Option R} {r : R} (h : unc l k = some r) : ∃ c cs, l = c :: cs ∧ k c cs = some r := by
  cases l with
  | nil => cases h
  | cons c cs => exact ⟨c, cs, rfl, h⟩
theorem unn_some {l : List AV} {R : Type} {k : Option R} {r : R} (h : unn l k = some r) : l = [] ∧ k = some r := by
  cases l with
  | nil => exact ⟨rfl, h⟩
  | cons c cs => cases h
theorem getK_some {s : SH} {a : AV} {R : Type} {k : AV → Option R} {r : R} (h : getK s a k = some r) : k a = some r ∧ ∀ v, owns a v = [] := by
  cases s <;> simp only [getK] at h
  · unfold getI at h
    split at h
    · obtain ⟨h1, h2⟩ | ⟨_, h2⟩ := cond_some h
      · simp only [decide_eq_true_eq] at h1; subst h1; exact ⟨h2, fun v => by cases v <;> rfl⟩
      · cases h2
    · cases h
  · unfold getB at h
    split at h
    · exact ⟨h, fun v => by cases v <;> rfl⟩
    · cases h
  · unfold getT at h
    split at h
    · exact ⟨h, fun v => by cases v <;> rfl⟩
    · cases h
  · unfold getIs at h
    split at h
    · obtain ⟨h1, h2⟩ | ⟨_, h2⟩ := cond_some h
      · simp only [decide_eq_true_eq] at h1; subst h1; exact ⟨h2, fun v => by cases v <;> rfl⟩
      · cases h2
    · cases h
  · unfold getTs at h
    split at h
    · exact ⟨h, fun v => by cases v <;> rfl⟩
    · cases h
  · unfold getSl at h
    split at h
    · obtain ⟨h1, h2⟩ | ⟨_, h2⟩ := cond_some h
      · have := Nat.eq_of_beq_eq_true h1; subst this; exact ⟨h2, fun v => by cases v <;> rfl⟩
      · cases h2
    · cases h
theorem shK_some : ∀ {sh : List SH} {cs : List AV} {R : Type} {k : List AV → Option R} {r : R}, shK sh cs k = some r → k cs = some r
  | [], cs, R, k, r, h => by
    simp only [shK] at h
    obtain ⟨rfl, h⟩ := unn_some h
    exact h
  | s :: sh, cs, R, k, r, h => by
    simp only [shK] at h
    obtain ⟨c, cs', rfl, h⟩ := unc_some h
    have h1 := (getK_some h).1
    exact shK_some (k := fun az => k (c :: az)) h1

theorem idxK_mono {α : Type} {l : List α} {i : AV} {R : Type} {k k' : α → Option R} {r : R} (h : idxK l i k = some r) (hk : ∀ x, k x = some r → k' x = some r) : idxK l i k' = some r := by
  unfold idxK at h ⊢
  split at h
  · obtain ⟨h1, h2⟩ | ⟨h1, h2⟩ := cond_some h
    · rw [h1]
      obtain ⟨x, h3, h4⟩ := Option.bind_eq_some_iff.1 h2
      simp only [cond_true]
      rw [h3]
      exact hk x h4
    · cases h2
  · cases h
theorem ownsL_plain : ∀ (l : List AV) (us : List Value), l.all AV.plain = true → ownsL l us = []
  | [], us, _ => by cases us <;> rfl
  | a :: l, [], _ => rfl
  | a :: l, u :: us, h => by
    simp only [List.all_cons, Bool.and_eq_true] at h
    have h1 : owns a u = [] := by cases a <;> simp [AV.plain] at h <;> cases u <;> rfl
    rw [ownsL, h1, ownsL_plain l us h.2]
    rfl
theorem ok_idxT {z : Nat} {sh : List SH} {x i : AX} {p q : Operand} {t e : TypeId} (h : o.op = .indexAddr t p q) (ht : c.P.underlying t = some (.slice e)) (hz : (c.P.info? e).map (·.size) = some z) (h0 : 0 < z) (hx : fitX x p = true) (hi : fitX i q = true) : OpOK c (.idxT z sh x i) o := by
  intro s R k r hr
  refine ok_idxA h ht hz h0 hx hi s R k r ?_
  simp only [AOp.run] at hr ⊢
  split at hr
  · rename_i own sz els hv
    simp only [hv]
    obtain ⟨h1, h2⟩ | ⟨h1, h2⟩ := cond_some hr
    · rw [h1]
      exact idxK_mono h2 fun cs hcs => shK_some hcs
    · cases h2
  · rename_i id off m sz hv
    simp only [hv]
    exact hr
  · rename_i id m tot sz hv
    simp only [hv]
    exact hr
  · cases hr
theorem shK_len : ∀ {sh : List SH} {cs : List AV} {R : Type} {k : List AV → Option R} {r : R}, shK sh cs k = some r → cs.length = sh.length
  | [], cs, R, k, r, h => by
    cases cs with
    | nil => rfl
    | cons a b => simp [shK, unn] at h
  | s :: sh, cs, R, k, r, h => by
    cases cs with
    | nil => simp [shK, unc] at h
    | cons a b =>
      simp only [shK, unc] at h
      have h1 := (getK_some h).1
      simpa using shK_len h1
theorem plain_own {g : Gh} {w : World} {a : AV} {v : Value} (h : a.plain = true) : owns a v = [] := by
  cases a <;> simp [AV.plain] at h <;> cases v <;> rfl
/-- A load out of a row of cells that turns. -/
theorem ok_loadC {n : Nat} {aggr : Bool} {sh : List SH} {x : AX} {p : Operand} {t : TypeId} {d : TypeDesc} (h : o.op = .load t p) (ht : c.P.underlying t = some d) (ha : isAggD d = aggr) (hn : (c.P.info? t).map (·.size) = some n) (hsh : sh.length = n) (h0 : 0 < n) (hx : fitX x p = true) : OpOK c (.loadC sh n aggr x) o := by
  refine ok_tells fun s R k r hr => ?_
  simp only [AOp.run] at hr
  split at hr
  · rename_i id off hv
    split at hr
    · rename_i sz els hob
      obtain ⟨e, he, hr⟩ := Option.bind_eq_some_iff.1 hr
      have hlen := shK_len hr
      have hr := shK_some hr
      obtain ⟨v, h1, h2⟩ := asK_some hr
      have hne : els ≠ [] := by intro e0; subst e0; simp at he
      refine ⟨_, h1, fun F g a w hs => ?_⟩
      have hp := ev_read hs hx
      rw [hv] at hp
      simp only [VR] at hp
      obtain ⟨b, hp, hb⟩ := hp
      have hobj := getObj_ok hs.core.heap id b _ hob hb
      simp only [ObjR] at hobj
      obtain h9 | ⟨hpl, arr, tt, vs, rest, hw, harr, hvs⟩ := hobj
      · exact absurd h9 hne
      have hel : ∀ e ∈ els, e.length = sz := fun e he => (hpl e he).1
      have hez := hpl e (List.mem_of_getElem? he)
      have hg := hvs.get hel (off / sz) e he
      have hvl := hvs.length hel
      have hlt := (List.getElem?_eq_some_iff.1 he).1
      rw [List.length_take, List.length_drop, hez.1, hsh] at hlen
      have hj : off % sz + n ≤ sz := by omega
      have hdm : off / sz * sz + off % sz = off := by rw [Nat.mul_comm]; exact Nat.div_add_mod off sz
      have hfit : off / sz * sz + sz ≤ vs.length := by
        rw [hvl, ← Nat.succ_mul]
        exact Nat.mul_le_mul_right sz hlt
      have hsub : ((((vs.drop (off / sz * sz)).take sz).drop (off % sz)).take n) = (vs.drop off).take n := by
        rw [List.drop_take, List.take_take, Nat.min_eq_left (by omega), List.drop_drop, hdm]
      have hvv := (hg.drop (off % sz)).take n
      rw [hsub] at hvv
      obtain ⟨v', h3, h4⟩ := loadVar_ok (b := b) (off := off) (w := w) ht ha hn h2 hvv (fun j hj' => by
        rw [List.length_take, List.length_drop] at hj'
        rw [List.getElem?_take, if_pos (by omega), List.getElem?_drop]
        have : arr.toList[off + j]? = vs[off + j]? := by rw [harr, List.getElem?_append_left (by omega)]
        rw [hw.cell]; simpa using this)
      refine ⟨v', ?_, h4, ?_⟩
      · simp only [execOp, h]
        refine run_value ?_
        rw [hp]
        simp only [Instr.loadAt, Instr.sureAddr, Sem.run_bind, Sem.run_pure, Result.andThen]
        exact h3
      · have hall : ((e.drop (off % sz)).take n).all AV.plain = true := by
          rw [List.all_eq_true]
          exact fun y hy => List.all_eq_true.1 hez.2 y (List.mem_of_mem_drop (List.mem_of_mem_take hy))
        rcases h2 with ⟨_, _, rfl⟩ | ⟨_, rest', e2⟩
        · cases v' with
          | agg us =>
            simp only [owns]
            exact ownsL_plain _ _ hall
          | _ => rfl
        · rw [e2, List.all_cons, Bool.and_eq_true] at hall
          exact plain_own (g := g) (w := w) hall.1
    · cases hr
  · cases hr

theorem ok_idxG {m : Nat} {sh : SH} {x i : AX} {p q : Operand} {t e : TypeId} {d : TypeDesc} (h : o.op = .index t p q) (ht : c.P.underlying t = some (.array m e)) (hd : c.P.underlying e = some d) (ha : isAggD d = false) (hz : (c.P.info? e).map (·.size) = some 1) (hx : fitX x p = true) (hi : fitX i q = true) : OpOK c (.idxG m sh x i) o := by
  refine ok_tells fun s R k r hr => ?_
  simp only [AOp.run] at hr
  split at hr
  · rename_i cs hv
    obtain ⟨hm, hr⟩ | ⟨_, hr⟩ := cond_some hr
    case inr => cases hr
    have hm := Nat.eq_of_beq_eq_true hm
    obtain ⟨ki, n, e1, h1, h2, hlt, h3, h4⟩ := idxK_some hr
    obtain ⟨h5, h6⟩ := getK_some h4
    refine ⟨_, h5, fun F g a w hs => ?_⟩
    have hp := ev_read hs hx
    have hq := ev_read hs hi
    rw [hv] at hp
    rw [h1] at hq
    simp only [VR] at hp hq
    obtain ⟨vs, hp, hvs⟩ := hp
    have hsub := (hvs.drop n.toNat).take 1
    have he : (cs.drop n.toNat).take 1 = [e1] := by rw [List.take_one, List.head?_drop, h3]; rfl
    rw [he] at hsub
    simp only [VRs] at hsub
    obtain ⟨v', us, k1, k2, _⟩ := hsub
    have hv' : vs[n.toNat]? = some v' := by
      have h7 : ((vs.toList.drop n.toNat).take 1)[0]? = some v' := by rw [k1]; rfl
      rw [List.getElem?_take, if_pos (by omega), List.getElem?_drop] at h7
      simpa using h7
    refine ⟨v', ?_, k2, h6 v'⟩
    simp only [execOp, h]
    refine run_value ?_
    have hn : 0 ≤ n ∧ n < (m : Int) := ⟨h2, by omega⟩
    have hsz := run_sizeOf' hz w
    rw [hp, hq]
    simp [Instr.index, asIntOf, run_underlying ht, hn, elem_eq, Sem.run_bind, hsz, part, run_isAgg' hd, ha, hv']
  · cases hr

theorem nthK_some : ∀ {n m : Nat} {R : Type} {k : Nat → Option R} {r : R}, nthK n m k = some r → m < n ∧ k m = some r
  | 0, m, R, k, r, h => by cases h
  | n + 1, m, R, k, r, h => by
    simp only [nthK] at h
    obtain ⟨h1, h2⟩ | ⟨h1, h2⟩ := cond_some h
    · have := Nat.eq_of_beq_eq_true h1
      subst this
      exact ⟨by omega, h2⟩
    · obtain ⟨h3, h4⟩ := nthK_some h2
      exact ⟨by omega, h4⟩
theorem ok_idxP {z n : Nat} {x i : AX} {p q : Operand} {t e : TypeId} (h : o.op = .indexAddr t p q) (ht : c.P.underlying t = some (.array n e)) (hz : (c.P.info? e).map (·.size) = some z) (hx : fitX x p = true) (hi : fitX i q = true) : OpOK c (.idxP z n x i) o := by
  refine ok_tells fun s R k r hr => ?_
  simp only [AOp.run] at hr
  split at hr
  · rename_i id off hv
    split at hr
    · rename_i ki m hn
      obtain ⟨h1, hr⟩ | ⟨_, hr⟩ := cond_some hr
      case inr => exact absurd hr (by simp)
      simp only [decide_eq_true_eq] at h1
      obtain ⟨h2, hr⟩ := nthK_some hr
      refine ⟨_, hr, fun F g a w hs => ?_⟩
      have hp := ev_read hs hx
      have hq := ev_read hs hi
      rw [hv] at hp
      rw [hn] at hq
      simp only [VR] at hp hq
      obtain ⟨b, hp, hb⟩ := hp
      refine ⟨.pointer (some ⟨b, off + m.toNat * z, none⟩), ?_, by simp only [VR]; exact ⟨b, rfl, hb⟩, rfl⟩
      simp only [execOp, h]
      refine run_value ?_
      have hel : c.P.elem t = e := by simp [Program.elem, ht]
      have hal : c.P.arrayLen t = n := by simp [Program.arrayLen, ht]
      rw [hp, hq, run_indexAt_array w t _ ki m (by rw [hel, hal]; exact ht), if_pos ⟨h1, by rw [hal]; omega⟩, hel, run_sizeOf' hz]
      simp only [Result.andThen]
      rw [add_eq _ rfl]
    · exact absurd hr (by simp)
  · exact absurd hr (by simp)

theorem ok_isNil {neg : Bool} {x : AX} {p : Operand} {t t' : TypeId} (h : o.op = .binOp (if neg then .neq else .eql) t p (.const .nilIface) t') (ht : c.P.isIface t = true) (hx : fitX x p = true) : OpOK c (.isNil neg x) o := by
  refine ok_tells fun s R k r hr => ?_
  simp only [AOp.run] at hr
  split at hr
  · rename_i hv
    refine ⟨_, hr, fun F g a w hs => ?_⟩
    have hp := ev_read hs hx
    rw [hv] at hp
    simp only [VR] at hp
    refine ⟨.bool (!neg), ?_, by cases neg <;> simp [VR], by cases neg <;> rfl⟩
    simp only [execOp, h]
    refine run_value ?_
    rw [hp, show a.eval (.const .nilIface) = .nilIface from rfl]
    cases neg
    · have hg : (eqGuard .eql t p (.const .nilIface) .nilIface .nilIface).run c.P w = .ok () w := by simp [eqGuard, Sem.run_bind]
      simp [Sem.run_bind, hg, run_eql_nil_nil_at w t ht]
    · have hg : (eqGuard .neq t p (.const .nilIface) .nilIface .nilIface).run c.P w = .ok () w := by simp [eqGuard, Sem.run_bind]
      simp [Sem.run_bind, hg, run_neq_nil_nil_at w t ht]
  · rename_i u v hv
    refine ⟨_, hr, fun F g a w hs => ?_⟩
    have hp := ev_read hs hx
    rw [hv] at hp
    simp only [VR] at hp
    obtain ⟨y, hp, _⟩ := hp
    refine ⟨.bool neg, ?_, by cases neg <;> simp [VR], by cases neg <;> rfl⟩
    simp only [execOp, h]
    refine run_value ?_
    rw [hp, show a.eval (.const .nilIface) = .nilIface from rfl]
    cases neg
    · have hg : (eqGuard .eql t p (.const .nilIface) (.iface u y) .nilIface).run c.P w = .ok () w := by simp [eqGuard, Sem.run_bind]
      simp [Sem.run_bind, hg, run_eql_iface_nil w t ht]
    · have hg : (eqGuard .neq t p (.const .nilIface) (.iface u y) .nilIface).run c.P w = .ok () w := by simp [eqGuard, Sem.run_bind]
      simp [Sem.run_bind, hg, run_neq_iface_nil w t ht]
  · cases hr

/-! ### a row of bytes of a constant text: marked -/
theorem freeze_heap {w : World} {b k : Nat} {arr : Array Value} {tt : TypeId} {fz : Nat × Nat} (hw : w.heap[b]? = some (.cells arr tt fz)) :
    (∃ fz', (w.freeze ⟨b, k, none⟩ 1).heap[b]? = some (.cells arr tt fz') ∧ (k = arr.size → fz.2 = fz.1 ∨ arr.size ≤ fz.1 → fz'.2 = fz'.1 ∨ arr.size ≤ fz'.1)) ∧ (∀ j, j ≠ b → (w.freeze ⟨b, k, none⟩ 1).heap[j]? = w.heap[j]?) ∧ (w.freeze ⟨b, k, none⟩ 1).heap.size = w.heap.size := by
  have hlt := (Array.getElem?_eq_some_iff.1 hw).1
  have hg := (Array.getElem?_eq_some_iff.1 hw).2
  unfold World.freeze
  rw [if_neg (by decide)]
  refine ⟨?_, fun j hj => ?_, by simp⟩
  · simp only [Array.getElem?_modify, if_true, hw, Option.map_some]
    refine ⟨_, rfl, fun hk hf => ?_⟩
    subst hk
    obtain ⟨lo, hi⟩ := fz
    simp only at hf ⊢
    right
    split
    · exact Nat.le_refl _
    · rename_i hne
      have : lo ≠ hi := by simpa using hne
      have : arr.size ≤ lo := by omega
      exact Nat.le_min.2 ⟨this, Nat.le_refl _⟩
  · simp only [Array.getElem?_modify, if_neg (Ne.symm hj)]
theorem freeze_cell {w : World} {b k : Nat} {arr : Array Value} {tt : TypeId} {fz : Nat × Nat} (hw : w.heap[b]? = some (.cells arr tt fz)) (i j : Nat) : (w.freeze ⟨b, k, none⟩ 1).cell? ⟨i, j, none⟩ = w.cell? ⟨i, j, none⟩ := by
  obtain ⟨⟨fz', h1, _⟩, h2, _⟩ := freeze_heap (k := k) hw
  by_cases h : i = b
  · subst h; simp [World.cell?, h1, hw]
  · simp [World.cell?, h2 i h]
theorem ok_mark {x : AX} {p : Operand} {t e : TypeId} (h : o.op = .convert t t p) (ht : c.P.underlying t = some (.slice e)) (he : c.P.underlying e = some (.int .u8)) (hx : fitX x p = true) : OpOK c (.mark x) o := by
  intro s R k r hr
  simp only [AOp.run] at hr
  split at hr
  · rename_i n0 l hv
    refine ⟨_, _, hr, OpSem.run fun F g a w B _ hp hs => ?_⟩
    obtain ⟨h1, h2⟩ := AX.ok hs hx
    rw [hv] at h1 h2
    have h1' := h1
    simp only [VR] at h1
    obtain ⟨ad, n, cc, e1, hl, hc, _, hne, hown, hno, hcell⟩ := h1
    obtain ⟨a', rfl, hreads⟩ := hne (by simp)
    obtain ⟨ho1, ho2⟩ := hown rfl a' rfl
    obtain ⟨b, off, spot⟩ := a'
    simp only at ho1 ho2
    subst ho1 ho2
    rw [e1] at h2 h1'
    have howns : owns (.ints true .u8 (n0 :: l)) (.slice (some ⟨b, 0, none⟩) n cc) = [(b, (n0 :: l).length, cc)] := rfl
    rw [howns] at h2
    have hc2 := h2.core
    obtain ⟨w1, w2, arr, tt, hw, w4⟩ := hc2.own (b, (n0 :: l).length, cc) (.inl (by simp))
    simp only at hw
    obtain ⟨fz0, hw, hz0⟩ := hw
    obtain ⟨⟨fz', f1, f1z⟩, f2, f3⟩ := freeze_heap (k := arr.size) hw
    have hsh : w.shape? b = some (tt, arr.size) := by unfold World.shape?; rw [hw]
    have hrun : (convert t t (.slice (some ⟨b, 0, none⟩) n cc)).run c.P w = .ok (.slice (some ⟨b, 0, none⟩) n cc) (w.freeze ⟨b, arr.size, none⟩ 1) := by
      simp [convert, run_underlying ht, run_underlying he, markStringish, hsh]
    have hext : Ext g w g (w.freeze ⟨b, arr.size, none⟩ 1) := ⟨fun i j _ => freeze_cell hw i j, fun i _ => by
      by_cases e : i = b
      · subst e; rw [tyOf_cells hw, tyOf_cells f1]
      · exact tyOf_block (f2 i e), bsz_one f2 (by rw [bsz_cells hw, bsz_cells f1]; exact Nat.le_refl _), fun _ => Nat.le_refl _, fun _ _ h => h⟩
    have hd := hc2.dist b
    have hone : oc b ([(b, (n0 :: l).length, cc)] ++ [] ++ slotOwns (x.st s) 0 a.tmps.toList) = 1 + oc b (slotOwns (x.st s) 0 a.tmps.toList) := by simp [oc, Nat.add_comm]
    rw [hone] at hd
    have hobjne : ∀ i ∈ lives (x.st s).heap g.obj, i ≠ b := fun i hi e => by
      subst e
      have := List.count_pos_iff.2 hi
      omega
    have hobj := ObjsR.move hext (x.st s).heap g.obj hc2.heap (fun i hi => f2 i (hobjne i hi))
    have hFb : ∀ i, F i → i ≠ b := fun i hi e => by
      subst e
      have := hc2.notF i hi
      rw [hone] at this
      omega
    refine ⟨.slice (some ⟨b, 0, none⟩) n cc, g, w.freeze ⟨b, arr.size, none⟩ 1, ?_, ?_, hp, ?_, ?_⟩
    · simp only [execOp, h]
      refine run_value ?_
      rw [e1]
      exact hrun
    · exact VR.ext hext _ _ h1'
    · rw [howns]
      refine h2.move hext ⟨hobj.1, fun r hr => ?_, fun i => ?_, fun i hF => ?_, hc2.objlen, fun i hi => by rw [f3]; exact hc2.lenlt i hi, fun i hi => by rw [f3]; exact hc2.flt i hi, hc2.good.step (fun _ h => h) fun i hi => f2 i (hFb i hi)⟩
      · rw [hobj.2] at hr
        obtain ⟨k1, k2, arr', t', k3, k4⟩ := hc2.own r hr
        by_cases hrb : r.1 = b
        · obtain ⟨rfl, rfl⟩ := CellsAt.uniq ⟨fz0, by rw [hrb]; exact hw, hz0⟩ k3
          exact ⟨k1, k2, arr', t', by rw [hrb]; exact ⟨fz', f1, f1z rfl hz0⟩, k4⟩
        · exact ⟨k1, k2, arr', t', k3.of_heap (f2 _ hrb), k4⟩
      · rw [hobj.2]; exact hc2.dist i
      · rw [hobj.2]; exact hc2.notF i hF
    · exact ⟨hext.cell, hext.ty, hext.bsz, hext.len, fun i hi => ⟨f2 i (hFb i hi), rfl⟩, by rw [f3]; exact Nat.le_refl _, by unfold World.freeze; rfl, by unfold World.freeze; rfl, by unfold World.freeze; rfl⟩
  · exact absurd hr (by simp)

/-- A type's nil: of which kind. -/
def nilKd : TypeDesc → Value → Option Nat
  | .pointer _, .pointer none => some 0
  | .map _ _, .map none => some 1
  | .func _ _ _, .nilFunc => some 2
  | _, _ => none
theorem ok_isNilP {kd : Nat} {neg : Bool} {x : AX} {p : Operand} {t t' : TypeId} {d : TypeDesc} {v0 : Value} (h : o.op = .binOp (if neg then .neq else .eql) t p (.const v0) t') (ht : c.P.underlying t = some d) (hd : nilKd d v0 = some kd) (hx : fitX x p = true) : OpOK c (.isNilP kd neg x) o := by
  refine ok_tells fun s R k r hr => ?_
  simp only [AOp.run] at hr
  split at hr
  · rename_i b hb
    refine ⟨_, hr, fun F g a w hs => ?_⟩
    have hp := ev_read hs hx
    have key : (Op.equal t (a.eval p) v0).run c.P w = .ok b w ∧ (∀ op, (eqGuard op t p (.const v0) (a.eval p) v0).run c.P w = .ok () w) ∧ (binOp .eql t (a.eval p) v0 = do pure (.bool (← Op.equal t (a.eval p) v0))) ∧ (binOp .neq t (a.eval p) v0 = do pure (.bool (!(← Op.equal t (a.eval p) v0)))) := by
      generalize a.eval p = v at hp
      generalize x.ev s = av at hp hb
      unfold nilK at hb
      split at hb <;> first | (cases hb; done) | skip
      all_goals
        unfold nilKd at hd
        split at hd <;> first | (cases hd; done) | skip
      all_goals
        injection hb with hb
        subst hb
        simp only [VR] at hp
      all_goals first | subst hp | (obtain ⟨_, _, rfl, _⟩ := hp) | (obtain ⟨_, rfl, _⟩ := hp)
      all_goals
        refine ⟨?_, fun op => by cases op <;> simp [eqGuard, Sem.run_bind], by simp [binOp], by simp [binOp]⟩
        show (Op.equalIn (9999 + 1) t _ _).run c.P w = _
        generalize 9999 = dd
        simp [Op.equalIn, run_underlying ht]
    obtain ⟨h1, h2, h3, h4⟩ := key
    refine ⟨.bool (match neg with | true => !b | false => b), ?_, by cases neg <;> simp [VR], by cases neg <;> rfl⟩
    simp only [execOp, h]
    refine run_value ?_
    rw [show a.eval (.const v0) = v0 from rfl]
    cases neg
    · simp [Sem.run_bind, h2, h3, h1]
    · simp [Sem.run_bind, h2, h4, h1]
  · cases hr

/-- The parts of an array's build. -/
def fitPartsA (z : Nat) : List (Nat × Nat × AX) → List (Nat × Operand) → Bool
  | [], [] => true
  | (off, n, x) :: ps, (i, p) :: qs => Nat.beq off (i * z) && Nat.beq n z && fitX x p && fitPartsA z ps qs
  | _, _ => false
theorem fitPartsA_ok {z : Nat} : ∀ {ps : List (Nat × Nat × AX)} {qs : List (Nat × Operand)}, fitPartsA z ps qs = true → fitXs (ps.map fun p => p.2.2) (qs.map fun q => q.2) = true ∧ (qs.map fun q => q.1).length = (ps.map fun p => (p.1, p.2.1)).length ∧ ∀ (j i : Nat) (q : Nat × Nat), (qs.map fun q => q.1)[j]? = some i → (ps.map fun p => (p.1, p.2.1))[j]? = some q → some (i * z, z) = some q
  | [], [], _ => ⟨rfl, rfl, fun j i q h => by simp at h⟩
  | [], _ :: _, h => by simp [fitPartsA] at h
  | (_, _, _) :: _, [], h => by simp [fitPartsA] at h
  | (off, n, x) :: ps, (i, p) :: qs, h => by
    simp only [fitPartsA, Bool.and_eq_true] at h
    obtain ⟨⟨⟨h1, h1'⟩, h2⟩, h3⟩ := h
    have h1 := Nat.eq_of_beq_eq_true h1
    have h1' := Nat.eq_of_beq_eq_true h1'
    obtain ⟨h4, h5, h6⟩ := fitPartsA_ok h3
    refine ⟨by simp [fitXs, h2, h4], by simpa using h5, fun j i' q hj hq => ?_⟩
    cases j with
    | zero => simp at hj hq; subst hj; subst hq; rw [h1, h1']
    | succ j => exact h6 j i' q (by simpa using hj) (by simpa using hq)
theorem ok_buildA {zero : List AV} {ps : List (Nat × Nat × AX)} {qs : List (Nat × Operand)} {t e : TypeId} {m z : Nat} {zr : Value} (h : o.op = .build t qs.toArray) (ht : c.P.underlying t = some (.array m e)) (hz : (c.P.info? t).bind (·.zero) = some zr) (he : (c.P.info? e).map (·.size) = some z) (hf : fitCs zero zr.cells.toList = true) (hx : fitPartsA z ps qs = true) : OpOK c (.build zero ps) o := by
  obtain ⟨hx1, hx2, hx3⟩ := fitPartsA_ok hx
  obtain ⟨it, hi1, hi2⟩ := Option.bind_eq_some_iff.1 hz
  obtain ⟨ie, hj1, hj2⟩ := Option.map_eq_some_iff.1 he
  intro s R k r hr
  simp only [AOp.run] at hr
  obtain ⟨cs', h1, h2⟩ := Option.bind_eq_some_iff.1 hr
  refine ⟨_, _, h2, OpSem.run fun F g a w B hB hpre hs => ?_⟩
  obtain ⟨h3, h4⟩ := AX.oks hs hx1
  obtain ⟨h5, h6⟩ := fitCs_ok g w zero zr.cells.toList hf
  obtain ⟨cells', k1, k2, k3, k4⟩ := fill_ok (place := fun i => some (i * z, z)) _ (qs.map fun q => q.1) _ _ zero cs' zr.cells h3 h5 h1 hx2 (fun j i q hj hq => hx3 j i q hj hq)
  rw [h6] at k3 k4
  refine ⟨.agg cells', g, w, ?_, by simp only [VR]; exact ⟨_, rfl, k2⟩, hpre, h4.less (fun r hr => ?_) (fun b => ?_), Step.refl _ _ _⟩
  · simp only [execOp, h]
    refine run_value ?_
    have hparts : (qs.toArray.map fun (x : Nat × Operand) => (x.1, a.eval x.2)).toList = (qs.map fun q => q.1).zip ((qs.map fun q => q.2).map a.eval) := by
      simp [List.zip_map', List.map_map, Function.comp_def, List.zip_map]
    have hzero : (zeroValue t).run c.P w = .ok zr w := by simp [zeroValue, typeInfo, hi1, hi2]
    simp only [Instr.build, Sem.run_bind, hzero, Result.andThen, run_underlying ht, run_sizeOf' he]
    rw [hparts, k1]
    rfl
  · simp only [owns] at hr
    exact List.mem_append_left _ ((k4 r hr).resolve_right (by simp))
  · have := k3 b
    simp only [owns, oc_append, oc_nil] at this ⊢
    omega

/-! ### equality of structs -/
def eqFs (P : Program) (g : TypeId → Option (List SH)) : Nat → List Field → Option (List SH)
  | _, [] => some []
  | off, f :: fs => match g f.type, (P.info? f.type).map (·.size) with
    | some l, some z => if f.offset = off ∧ l.length = z ∧ 0 < z ∧ f.name ≠ "_" then (eqFs P g (off + z) fs).map (l ++ ·) else none
    | _, _ => none
/-- The cells of a type whose values may be compared as their cells. -/
def eqTy (P : Program) : Nat → TypeId → Option (List SH)
  | 0, _ => none
  | n + 1, t => match P.underlying t with
    | some .bool => some [.bool]
    | some (.int k) => some [.int k]
    | some .string => some [.str]
    | some (.struct fs) => if P.stoodInHeld t = true then none else eqFs P (eqTy P n) 0 fs.toList
    | _ => none
def fit1 : SH → AV → Prop
  | .int k, a => ∃ n, a = .int k n
  | .bool, a => ∃ b, a = .bool b
  | .str, a => ∃ s, a = .str s
  | _, _ => True
def Fits : List SH → List AV → Prop
  | [], az => az = []
  | s :: sh, az => ∃ a r, az = a :: r ∧ fit1 s a ∧ Fits sh r
theorem getK_fit {s : SH} {a : AV} {R : Type} {k : AV → Option R} {r : R} (h : getK s a k = some r) : fit1 s a := by
  cases s <;> simp only [getK] at h
  · unfold getI at h
    split at h
    · obtain ⟨h1, h2⟩ | ⟨_, h2⟩ := cond_some h
      · simp only [decide_eq_true_eq] at h1; subst h1; exact ⟨_, rfl⟩
      · cases h2
    · cases h
  · unfold getB at h
    split at h
    · exact ⟨_, rfl⟩
    · cases h
  · unfold getT at h
    split at h
    · exact ⟨_, rfl⟩
    · cases h
  · trivial
  · trivial
  · trivial
theorem shK_fits : ∀ {sh : List SH} {cs : List AV} {R : Type} {k : List AV → Option R} {r : R}, shK sh cs k = some r → Fits sh cs
  | [], cs, R, k, r, h => by
    simp only [shK] at h
    exact (unn_some h).1
  | s :: sh, cs, R, k, r, h => by
    simp only [shK] at h
    obtain ⟨c, cs', rfl, h⟩ := unc_some h
    exact ⟨c, cs', rfl, getK_fit h, shK_fits (getK_some h).1⟩
theorem Fits.length : ∀ {sh : List SH} {az : List AV}, Fits sh az → az.length = sh.length
  | [], _, h => by simp only [Fits] at h; subst h; rfl
  | _ :: sh, _, h => by obtain ⟨a, r, rfl, _, h⟩ := h; simp [h.length]
theorem Fits.split : ∀ {s1 s2 : List SH} {az : List AV}, Fits (s1 ++ s2) az → Fits s1 (az.take s1.length) ∧ Fits s2 (az.drop s1.length)
  | [], _, _, h => ⟨by simp [Fits], h⟩
  | s :: s1, s2, _, h => by
    obtain ⟨a, r, rfl, h1, h2⟩ := h
    obtain ⟨h3, h4⟩ := h2.split
    exact ⟨⟨a, _, rfl, h1, h3⟩, h4⟩

/-- Are they the same, told at once. -/
def eqB : AV → AV → Option Bool
  | .int ka x, .int kb y => cond (decide (ka = kb)) (some (x == y)) none
  | .bool x, .bool y => some (x == y)
  | .str x, .str y => some (x == y)
  | _, _ => none
def eqsB : List AV → List AV → Option Bool
  | [], [] => some true
  | a :: az, b :: bs => (eqB a b).bind fun p => (eqsB az bs).bind fun q => some (p && q)
  | _, _ => none
theorem bsome {α : Type} (x : Option α) : x.bind some = x := by cases x <;> rfl
theorem eqK_eq (a b : AV) {R : Type} (f : Bool → Option R) : eqK a b f = (eqB a b).bind f := by
  unfold eqK
  split
  · rename_i ka x kb y
    simp only [eqB]
    cases decide (ka = kb) <;> rfl
  · rfl
  · rfl
  · rename_i h1 h2 h3
    have : eqB a b = none := by
      unfold eqB
      split
      · exact (h1 _ _ _ _ rfl rfl).elim
      · exact (h2 _ _ rfl rfl).elim
      · exact (h3 _ _ rfl rfl).elim
      · rfl
    rw [this]
    rfl
theorem eqsK_eq : ∀ (az bs : List AV) {R : Type} (f : Bool → Option R), eqsK az bs f = (eqsB az bs).bind f
  | [], [], R, f => rfl
  | [], _ :: _, R, f => rfl
  | _ :: _, [], R, f => rfl
  | a :: az, b :: bs, R, f => by
    simp only [eqsK, eqsB, eqK_eq, Option.bind_assoc]
    congr 1
    funext p
    rw [eqsK_eq az bs]
    rfl
theorem eqK_some {a b : AV} {R : Type} {k : Bool → Option R} {r : R} (h : eqK a b k = some r) : ∃ q, eqK a b some = some q ∧ k q = some r := by
  rw [eqK_eq] at h
  obtain ⟨q, h1, h2⟩ := Option.bind_eq_some_iff.1 h
  exact ⟨q, by rw [eqK_eq, h1]; rfl, h2⟩
theorem eqsK_some {az bs : List AV} {R : Type} {k : Bool → Option R} {r : R} (h : eqsK az bs k = some r) : ∃ q, eqsK az bs some = some q ∧ k q = some r := by
  rw [eqsK_eq] at h
  obtain ⟨q, h1, h2⟩ := Option.bind_eq_some_iff.1 h
  exact ⟨q, by rw [eqsK_eq, h1]; rfl, h2⟩
theorem eqs_split : ∀ {a1 a2 b1 b2 : List AV} {q : Bool}, a1.length = b1.length → eqsK (a1 ++ a2) (b1 ++ b2) some = some q → ∃ q1 q2, eqsK a1 b1 some = some q1 ∧ eqsK a2 b2 some = some q2 ∧ q = (q1 && q2)
  | [], a2, [], b2, q, _, h => ⟨true, q, rfl, h, by simp⟩
  | [], _, _ :: _, _, _, hl, _ => by simp at hl
  | _ :: _, _, [], _, _, hl, _ => by simp at hl
  | a :: a1, a2, b :: b1, b2, q, hl, h => by
    simp only [List.cons_append, eqsK] at h ⊢
    obtain ⟨p, h1, h2⟩ := eqK_some h
    obtain ⟨q', h3, h4⟩ := eqsK_some h2
    injection h4 with h4
    obtain ⟨q1, q2, k1, k2, k3⟩ := eqs_split (by simpa using hl) h3
    subst h4 k3
    refine ⟨p && q1, q2, ?_, k2, by rw [Bool.and_assoc]⟩
    rw [eqK_eq, bsome] at h1
    rw [eqsK_eq, bsome] at k1
    rw [eqK_eq, h1, Option.bind_some, eqsK_eq, k1]
    rfl
section
variable {P : Program} {g : Gh} {w : World}
/-- The part of a value, and its shadow. -/
theorem part_ok {t : TypeId} {z off : Nat} {xs : Array Value} {az : List AV} {d : TypeDesc} (hd : P.underlying t = some d) (hz : (P.info? t).map (·.size) = some z) (hz0 : 0 < z) (h : VRs g w az xs.toList) (hl : off + z ≤ az.length) :
    ∃ v, (part t xs off).run P w = .ok v w ∧ ((isAggD d = true ∧ ∃ ys, v = .agg ys ∧ VRs g w ((az.drop off).take z) ys.toList) ∨ (isAggD d = false ∧ ∃ a r, (az.drop off).take z = a :: r ∧ VR g w a v)) := by
  have hsub := (h.drop off).take z
  cases ha : isAggD d with
  | true =>
    refine ⟨.agg (xs.extract off (off + z)), by simp [part, run_isAgg' hd, ha, run_sizeOf' hz], .inl ⟨rfl, _, rfl, ?_⟩⟩
    rw [show (xs.extract off (off + z)).toList = (xs.toList.drop off).take z by simp [List.extract_eq_take_drop]]
    exact hsub
  | false =>
    have hlen := h.length
    have hlt : off < az.length := by omega
    cases hc : (az.drop off).take z with
    | nil =>
      have : ((az.drop off).take z).length = 0 := by rw [hc]; rfl
      simp at this; omega
    | cons a r =>
      rw [hc] at hsub
      simp only [VRs] at hsub
      obtain ⟨v', us, h4, h5, _⟩ := hsub
      have h6 : xs[off]? = some v' := by
        have h7 : ((xs.toList.drop off).take z)[0]? = some v' := by rw [h4]; rfl
        rw [List.getElem?_take, if_pos hz0, List.getElem?_drop] at h7
        simpa using h7
      exact ⟨v', by simp [part, run_isAgg' hd, ha, h6], .inr ⟨rfl, a, r, rfl, h5⟩⟩
theorem eqFields_ok {gt : TypeId → Option (List SH)} {d : Nat} (hg : ∀ t l z, gt t = some l → (P.info? t).map (·.size) = some z → l.length = z → ∃ dd, P.underlying t = some dd ∧
      (isAggD dd = true → ∀ (xs ys : Array Value) (az bs : List AV) q, VRs g w az xs.toList → VRs g w bs ys.toList → Fits l az → Fits l bs → eqsK az bs some = some q → (Op.equalIn d t (.agg xs) (.agg ys)).run P w = .ok q w) ∧
      (isAggD dd = false → ∃ s, l = [s] ∧ ∀ (x y : Value) (a b : AV) q, VR g w a x → VR g w b y → fit1 s a → fit1 s b → eqK a b some = some q → (Op.equalIn d t x y).run P w = .ok q w)) :
    ∀ (fs : List Field) (off : Nat) (l : List SH) (xs ys : Array Value) (az bs : List AV) (q : Bool), eqFs P gt off fs = some l → VRs g w az xs.toList → VRs g w bs ys.toList → Fits l (az.drop off) → Fits l (bs.drop off) → eqsK (az.drop off) (bs.drop off) some = some q →
      (Op.eqFields d xs ys fs).run P w = .ok q w
  | [], off, l, xs, ys, az, bs, q, h, ha, hb, fa, fb, hq => by
    simp only [eqFs, Option.some.injEq] at h
    subst h
    simp only [Fits] at fa fb
    rw [fa, fb] at hq
    simp only [eqsK, Option.some.injEq] at hq
    subst hq
    simp [Op.eqFields]
  | f :: fs, off, l, xs, ys, az, bs, q, h, ha, hb, fa, fb, hq => by
    simp only [eqFs] at h
    split at h
    · rename_i l1 z hl1 hz
      split at h
      · rename_i hc
        obtain ⟨h1, h2, h3, h4⟩ := hc
        obtain ⟨l2, h5, rfl⟩ := Option.map_eq_some_iff.1 h
        obtain ⟨dd, k1, k2, k3⟩ := hg f.type l1 z hl1 hz h2
        obtain ⟨fa1, fa2⟩ := fa.split
        obtain ⟨fb1, fb2⟩ := fb.split
        rw [h2] at fa1 fa2 fb1 fb2
        rw [List.drop_drop] at fa2 fb2
        have la := fa.length
        have lb := fb.length
        simp only [List.length_drop, List.length_append] at la lb
        obtain ⟨v, p1, p2⟩ := part_ok (off := off) k1 hz h3 ha (by omega)
        obtain ⟨u, r1, r2⟩ := part_ok (off := off) k1 hz h3 hb (by omega)
        have ea : az.drop off = (az.drop off).take z ++ az.drop (off + z) := by rw [← List.drop_drop, List.take_append_drop]
        have eb : bs.drop off = (bs.drop off).take z ++ bs.drop (off + z) := by rw [← List.drop_drop, List.take_append_drop]
        rw [ea, eb] at hq
        have hl1' := fa1.length
        have hl2' := fb1.length
        obtain ⟨q1, q2, e1, e2, rfl⟩ := eqs_split (by omega) hq
        have ih := eqFields_ok hg fs (off + z) l2 xs ys az bs q2 h5 ha hb fa2 fb2 e2
        have hrun : (Op.equalIn d f.type v u).run P w = .ok q1 w := by
          rcases p2 with ⟨g1, ys1, rfl, g2⟩ | ⟨g1, a, ra, g2, g3⟩
          · rcases r2 with ⟨_, ys2, rfl, g4⟩ | ⟨g4, _⟩
            · exact k2 g1 _ _ _ _ _ g2 g4 fa1 fb1 e1
            · rw [g1] at g4; cases g4
          · rcases r2 with ⟨g4, _⟩ | ⟨_, b, rb, g4, g5⟩
            · rw [g1] at g4; cases g4
            · obtain ⟨s, rfl, k4⟩ := k3 g1
              rw [g2] at fa1 e1
              rw [g4] at fb1 e1
              simp only [Fits] at fa1 fb1
              obtain ⟨a', r', ha', f1, rfl⟩ := fa1
              obtain ⟨b', r'', hb', f2, rfl⟩ := fb1
              simp only [List.cons.injEq] at ha' hb'
              obtain ⟨rfl, rfl⟩ := ha'
              obtain ⟨rfl, rfl⟩ := hb'
              simp only [eqsK] at e1
              obtain ⟨q', g6, g7⟩ := eqK_some e1
              simp only [Bool.and_true, Option.some.injEq] at g7
              subst g7
              exact k4 _ _ _ _ _ g3 g5 f1 f2 g6
        simp only [Op.eqFields, ne_eq, h4, not_false_eq_true, if_true, Sem.run_bind, h1, p1, r1, Result.andThen_ok, hrun]
        cases q1
        · simp
        · simpa using ih
      · cases h
    · cases h
theorem eq_ok : ∀ (n : Nat) (t : TypeId) (l : List SH), eqTy P n t = some l → ∀ (d : Nat), n ≤ d → ∃ dd, P.underlying t = some dd ∧
      (isAggD dd = true → ∀ (xs ys : Array Value) (az bs : List AV) q, VRs g w az xs.toList → VRs g w bs ys.toList → Fits l az → Fits l bs → eqsK az bs some = some q → (Op.equalIn d t (.agg xs) (.agg ys)).run P w = .ok q w) ∧
      (isAggD dd = false → ∃ s, l = [s] ∧ ∀ (x y : Value) (a b : AV) q, VR g w a x → VR g w b y → fit1 s a → fit1 s b → eqK a b some = some q → (Op.equalIn d t x y).run P w = .ok q w) := by
  intro n
  induction n with
  | zero => intro t l h; cases h
  | succ n ih =>
    intro t l h d hd
    obtain ⟨d, rfl⟩ : ∃ j, d = j + 1 := ⟨d - 1, by omega⟩
    unfold eqTy at h
    split at h
    · rename_i hu
      injection h with h; subst h
      refine ⟨_, hu, (fun h => by cases h), fun _ => ⟨_, rfl, fun x y a b q hx hy fa fb hq => ?_⟩⟩
      obtain ⟨p, rfl⟩ := fa
      obtain ⟨p', rfl⟩ := fb
      simp only [VR] at hx hy; subst hx hy
      simp only [eqK, Option.some.injEq] at hq; subst hq
      exact run_equalIn_bool' w d t _ _ hu
    · rename_i k hu
      injection h with h; subst h
      refine ⟨_, hu, (fun h => by cases h), fun _ => ⟨_, rfl, fun x y a b q hx hy fa fb hq => ?_⟩⟩
      obtain ⟨p, rfl⟩ := fa
      obtain ⟨p', rfl⟩ := fb
      simp only [VR] at hx hy; subst hx hy
      simp only [eqK, decide_true, cond_true, Option.some.injEq] at hq; subst hq
      exact run_equalIn_int w d t k k _ _ hu
    · rename_i hu
      injection h with h; subst h
      refine ⟨_, hu, (fun h => by cases h), fun _ => ⟨_, rfl, fun x y a b q hx hy fa fb hq => ?_⟩⟩
      obtain ⟨p, rfl⟩ := fa
      obtain ⟨p', rfl⟩ := fb
      simp only [VR] at hx hy
      obtain ⟨s1, rfl, rfl⟩ := hx
      obtain ⟨s2, rfl, rfl⟩ := hy
      simp only [eqK, Option.some.injEq] at hq; subst hq
      rw [run_equalIn_string w d t _ _ hu, ByteArray.toList_eq, ByteArray.toList_eq]
    · rename_i fs hu
      split at h
      · cases h
      · rename_i hs
        have hfo : P.fieldsOf t = fs := by simp [Program.fieldsOf, hu]
        refine ⟨_, hu, fun _ xs ys az bs q hx hy fa fb hq => ?_, (fun h => by cases h)⟩
        rw [run_equalIn_agg w d t xs ys (by rw [hfo]; exact hu) (by simpa using hs), hfo]
        exact eqFields_ok (gt := eqTy P n) (d := d) (fun t l z h1 _ _ => ih t l h1 d (by omega)) fs.toList 0 l xs ys az bs q h hx hy (by simpa using fa) (by simpa using fb) (by simpa using hq)
    · cases h
end
theorem ok_eqA {neg : Bool} {n : Nat} {sh : List SH} {x y : AX} {p q : Operand} {t t' : TypeId} {d : TypeDesc} (h : o.op = .binOp (if neg then .neq else .eql) t p q t') (hty : eqTy c.P n t = some sh) (hn : n ≤ 10000) (hd : c.P.underlying t = some d) (ha : isAggD d = true) (hgt : c.P.eqGuardType c.P.depth t = false) (hx : fitX x p = true) (hy : fitX y q = true) : OpOK c (.eqA neg sh x y) o := by
  refine ok_tells fun s R k r hr => ?_
  simp only [AOp.run] at hr
  split at hr
  · rename_i cs ds h1 h2
    have f1 := shK_fits hr
    have hr2 := shK_some hr
    have f2 := shK_fits hr2
    have hr3 := shK_some hr2
    obtain ⟨b, h3, h4⟩ := eqsK_some hr3
    refine ⟨_, h4, fun F g a w hs => ?_⟩
    have hp := ev_read hs hx
    have hq := ev_read hs hy
    rw [h1] at hp
    rw [h2] at hq
    simp only [VR] at hp hq
    obtain ⟨xs, hp, hxs⟩ := hp
    obtain ⟨ys, hq, hys⟩ := hq
    obtain ⟨dd, k1, k2, _⟩ := eq_ok (g := g) (w := w) n t sh hty 10000 hn
    rw [hd] at k1
    injection k1 with k1
    subst k1
    have hrun := k2 ha xs ys cs ds b hxs hys f1 f2 h3
    refine ⟨.bool (match neg with | true => !b | false => b), ?_, by cases neg <;> simp [VR], by cases neg <;> rfl⟩
    simp only [execOp, h]
    refine run_value ?_
    rw [hp, hq]
    cases neg
    · simp [Sem.run_bind, run_eqGuard_agg w .eql t p q xs ys hgt, run_eql_struct w t xs ys, hrun, Result.andThen]
    · simp [Sem.run_bind, run_eqGuard_agg w .neq t p q xs ys hgt, run_neq_struct w t xs ys, hrun, Result.andThen]
  · cases hr

/-- An operation that no way comes to. -/
theorem ok_dead {c : Cx} {o : Oper} : OpOK c (.extract 0 (.cst .undef)) o := fun s R k r h => by
  simp only [AOp.run, AX.ev] at h
  cases h
/-- Code that no way comes to. -/
def edead : Ex := fun _ _ _ => none
theorem snd_dead {c : Cx} {cd : Code} : Snd c edead cd := fun _ _ _ _ h => by cases h
end Go.Sh

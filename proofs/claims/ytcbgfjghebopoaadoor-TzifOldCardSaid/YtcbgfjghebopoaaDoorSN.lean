/- What it is for a function to have a shadow; calls. -/
import Derived.Test.YtcbgfjghebopoaaDoorSM
namespace Go.Sh
open Go.RowKit
set_option linter.unusedSimpArgs false
set_option linter.unusedVariables false
variable {c : Cx} {o : Oper}

/-- A function does what its shadow does. -/
structure FSound (P : Program) (f : FuncId) (sp : FSpec) : Prop where
  enters : ∀ (args : Array Value) (w : World), (callFunc f args).run P w = .ok (.enter f args) w
  law : ∀ (args : List AV) (H : List AObj) (R : Type) (k : AV → List AObj → Option R) (r : R), sp args H R k = some r → ∃ v H', k v H' = some r ∧
    ∀ (F : Nat → Prop) (g : Gh) (vs : List Value) (w : World), VRs g w args vs → Core F g H (ownsL args vs) w →
      Calls P f vs.toArray w fun e w' => ∃ v' g', e = .returned v' ∧ VR g' w' v v' ∧ g.obj <+: g'.obj ∧ Core F g' H' (owns v v') w' ∧ Step F g w g' w'

theorem enters_of {P : Program} {f : FuncId} {fn : Func} {cd : Code} (hf : P.funcs[f]? = some fn) (hn : (fn.name == "runtime.NumGoroutine") = false) (hb : fn.body = some cd) (args : Array Value) (w : World) : (callFunc f args).run P w = .ok (.enter f args) w := by
  simp [callFunc, hf, hb, Sem.run_bind, Result.andThen]
  simpa using hn

theorem sts_heap : ∀ (xs : List AX) (s : St), (sts s xs).heap = s.heap
  | [], s => rfl
  | x :: xs, s => by
    rw [sts, sts_heap xs]
    cases x <;> rfl

theorem addId_nodup {id : Nat} {l : List Nat} (h : l.Nodup) : (addId id l).Nodup := by
  unfold addId
  cases hc : l.contains id with
  | true => exact h
  | false =>
    have : id ∉ l := fun hm => by simp [hm] at hc
    exact List.nodup_append.2 ⟨h, by simp, fun a ha b hb e => by simp at hb; subst hb; subst e; exact this ha⟩
mutual
theorem idsV_nodup : ∀ (a : AV) (l : List Nat), l.Nodup → (idsV a l).Nodup
  | .ptr (some (id, _)), l, h => addId_nodup h
  | .mut id _ _ _, l, h => addId_nodup h
  | .map (some id), l, h => addId_nodup h
  | .yld id, l, h => addId_nodup h
  | .mo id _ _ _, l, h => addId_nodup h
  | .agg cs, l, h => idsL_nodup cs l h
  | .tuple cs, l, h => idsL_nodup cs l h
  | .func _ a b, l, h => idsL_nodup b _ (idsL_nodup a l h)
  | .iface _ v, l, h => idsV_nodup v l h
  | .undef, l, h | .int .., l, h | .bool .., l, h | .str .., l, h | .ints .., l, h | .strs .., l, h | .sl .., l, h | .eptr .., l, h | .ptr none, l, h | .map none, l, h | .nilFunc, l, h | .nilIface, l, h => h
theorem idsL_nodup : ∀ (az : List AV) (l : List Nat), l.Nodup → (idsL az l).Nodup
  | [], l, h => h
  | a :: az, l, h => idsL_nodup az _ (idsV_nodup a l h)
end
theorem idsE_nodup : ∀ (es : List (AV × AV)) (l : List Nat), l.Nodup → (idsE es l).Nodup
  | [], l, h => h
  | (k, v) :: es, l, h => idsE_nodup es _ (idsV_nodup v _ (idsV_nodup k l h))
theorem idsO_nodup (o : AObj) {l : List Nat} (h : l.Nodup) : (idsO o l).Nodup := by
  cases o with
  | cells t cs => exact idsL_nodup cs l h
  | map es => exact idsE_nodup es l h
  | loop k cs => exact idsL_nodup cs l h
  | _ => exact h
theorem closeIds_nodup (H : List AObj) : ∀ (n p : Nat) (l : List Nat), l.Nodup → (closeIds H n p l).Nodup
  | 0, p, l, h => h
  | n + 1, p, l, h => by
    simp only [closeIds]
    split
    · split
      · exact closeIds_nodup H n _ _ (idsO_nodup _ h)
      · exact closeIds_nodup H n _ _ h
    · exact h
theorem gcIds_nodup (nb : Nat) (vs : List AV) (H : List AObj) : (gcIds nb vs H).Nodup := closeIds_nodup H _ _ _ (idsL_nodup vs _ List.nodup_range)
/-- What a call under a contract does. -/
theorem call_effect {P : Program} {f : FuncId} {sp : FSpec} (hs : FSound P f sp) {az : List AV} {s1 : St} {R : Type} {k : AV → St → Option R} {r : R}
    (hr : callK sp az s1 R k = some r) :
    ∃ v s', k v s' = some r ∧ ∀ (F : Nat → Prop) (nt : Nat) (g : Gh) (a : Act) (w : World) (vs : List Value), VRs g w az vs → SimX F nt g s1 a w (ownsL az vs) →
      Calls P f vs.toArray w fun e w' => ∃ v' g', e = .returned v' ∧ VR g' w' v v' ∧ g.obj <+: g'.obj ∧ SimX F nt g' s' a w' (owns v v') ∧ Step F g w g' w' := by
  have hn := gcIds_nodup 0 az s1.heap
  unfold callK at hr
  generalize gcIds 0 az s1.heap = ids at hr hn
  obtain ⟨args', h1, h2⟩ := Option.bind_eq_some_iff.1 hr
  obtain ⟨hs', h3, h4⟩ := Option.bind_eq_some_iff.1 h2
  obtain ⟨v0, H0, h5, h6⟩ := hs.law _ _ _ _ _ h4
  obtain ⟨v', h7, h8⟩ := Option.bind_eq_some_iff.1 h5
  obtain ⟨H', h9, h10⟩ := Option.bind_eq_some_iff.1 h8
  refine ⟨v', _, h10, fun F nt g a w vs hvs hsim => ?_⟩
  have hl : ∀ i ∈ ids, i < s1.heap.length := fun i hi => by
    obtain ⟨p, hp, hpi⟩ := List.mem_iff_getElem.1 hi
    obtain ⟨o, _, ho, _⟩ := (pickObjs_some h3).2 p i (by rw [List.getElem?_eq_getElem hp, hpi])
    exact (List.getElem?_eq_some_iff.1 ho).1
  have hpart : ∀ (i j b : Nat), toPos ids i = some j → g.obj[i]? = some b → (partOf g ids).obj[j]? = some b := fun i j b hij hb => by
    rw [partOf_get (toPos_some hij), List.getD_eq_getElem?_getD, hb]; rfl
  obtain ⟨h11, h12⟩ := VRs.ren (g := g) (g1 := partOf g ids) (w := w) (fun _ => Nat.le_refl _) hpart (noPtr_ok fun _ => Nat.le_refl _) _ _ vs h1 hvs
  have hsplit := hsim.core.split hn hl h3
  rw [← h12] at hsplit
  refine Calls.mono (h6 _ (partOf g ids) vs w h11 hsplit) ?_
  rintro e w1 ⟨v1, g1, rfl, k1, k2, k3, k4⟩
  obtain ⟨j1, j2, j3, j4⟩ := hsim.core.join hn hl k3 k4 k2 h9
  obtain ⟨j5, j6⟩ := j4 _ _ v1 h7 k1
  refine ⟨v1, _, rfl, j5, ⟨_, rfl⟩, ⟨hsim.size, fun t => VR.ext j3 _ _ (hsim.slots t), ?_⟩, j2⟩
  rw [simx_put_heap, j6]
  exact j1

theorem ok_call {sp : FSpec} {f : FuncId} {xs : List AX} {ps : List Operand} {cl : Call} (h : o.op = .call cl) (hc : cl.callee = .value (.func f)) (hargs : cl.args = ps.toArray) (hs : FSound c.P f sp) (hx : fitXs xs ps = true) : OpOK c (.call sp f xs) o := by
  intro s R k r hr
  simp only [AOp.run] at hr
  obtain ⟨v, s', h1, h2⟩ := call_effect hs hr
  refine ⟨v, s', h1, fun F g a w B hB hpre hsim ro dn next Q hnext => ?_⟩
  obtain ⟨h3, h4⟩ := AX.oks hsim hx
  have hrun : (execOp a.eval o).run c.P w = .ok (.enter f (ps.map a.eval).toArray) w := by
    simp only [execOp, h, resolve, hc, hargs, Act.eval, Deferred.ofValue, Sem.run_bind, Sem.run_pure, Result.andThen, invoke]
    rw [hs.enters]
    congr 2
    simp
  refine opw_enter hrun (Calls.mono (h2 F c.nt g a w _ h3 (by simpa using h4)) ?_)
  rintro e w1 ⟨v1, g1, rfl, k1, k2, k3, k4⟩
  exact ⟨v1, rfl, hnext v1 g1 w1 k1 (hpre.trans k2) k3 k4⟩

theorem caps_free {s : St} {fv : AX} {p : Operand} {fn : Fn} {first caps : List AV} (hf : fv.free = true) (hx : fitX fv p = true) (h : fv.ev s = .func fn first caps) (vs : List Value) : ownsL caps vs = [] := by
  cases fv with
  | tmp t =>
    simp only [AX.ev] at h
    cases hg : s.get t <;> rw [hg] at h <;> simp [disown] at h
    obtain ⟨_, _, rfl⟩ := h
    exact ownsL_disown _ _
  | take t => simp [AX.free] at hf
  | cst v =>
    simp only [AX.ev] at h
    subst h
    cases p with
    | func f => cases fn <;> cases first <;> cases caps <;> simp [fitX] at hx <;> cases vs <;> rfl
    | const c => simp [fitX, fitC] at hx
    | _ => simp [fitX] at hx

theorem firsts_free {s : St} {fv : AX} {p : Operand} {fn : Fn} {first caps : List AV} (hf : fv.free = true) (hx : fitX fv p = true) (h : fv.ev s = .func fn first caps) (vs : List Value) : ownsL first vs = [] := by
  cases fv with
  | tmp t =>
    simp only [AX.ev] at h
    cases hg : s.get t <;> rw [hg] at h <;> simp [disown] at h
    obtain ⟨_, rfl, _⟩ := h
    exact ownsL_disown _ _
  | take t => simp [AX.free] at hf
  | cst v =>
    simp only [AX.ev] at h
    subst h
    cases p with
    | func f => cases fn <;> cases first <;> cases caps <;> simp [fitX] at hx <;> cases vs <;> rfl
    | const c => simp [fitX, fitC] at hx
    | _ => simp [fitX] at hx
theorem ownsL_app : ∀ {a : List AV} {x : List Value} {b : List AV} {y : List Value}, a.length = x.length → ownsL (a ++ b) (x ++ y) = ownsL a x ++ ownsL b y
  | [], [], b, y, _ => by simp [ownsL]
  | [], _ :: _, _, _, h => by simp at h
  | _ :: _, [], _, _, h => by simp at h
  | c :: a, v :: x, b, y, h => by
    simp only [List.cons_append, ownsL]
    rw [ownsL_app (a := a) (x := x) (by simpa using h), List.append_assoc]
theorem ok_callV {sp : FSpec} {f : FuncId} {fv : AX} {fp : Operand} {xs : List AX} {ps : List Operand} {cl : Call} (h : o.op = .call cl) (hc : cl.callee = .value fp) (hargs : cl.args = ps.toArray) (hs : FSound c.P f sp) (hfx : fitX fv fp = true) (hfr : fv.free = true) (hx : fitXs xs ps = true) : OpOK c (.callV sp f fv xs) o := by
  intro s R k r hr
  simp only [AOp.run] at hr
  split at hr
  · rename_i f' first caps hfv
    obtain ⟨hff, hr2⟩ | ⟨_, hr2⟩ := cond_some hr
    case inr => exact absurd hr2 (by simp)
    clear hr
    have hff := Nat.eq_of_beq_eq_true hff
    subst hff
    obtain ⟨v, s', h1, h2⟩ := call_effect hs hr2
    clear hr2
    refine ⟨v, s', h1, fun F g a w B hB hpre hsim ro dn next Q hnext => ?_⟩
    obtain ⟨h3, h4⟩ := AX.oks hsim hx
    have hfval := ev_read hsim hfx
    rw [hfv] at hfval
    simp only [VR] at hfval
    obtain ⟨us, ys, hfe, hus, hys⟩ := hfval
    have hrun : (execOp a.eval o).run c.P w = .ok (.enter f' (us.toList ++ (ps.map a.eval ++ ys.toList)).toArray) w := by
      simp only [execOp, h, resolve, hc, hargs, hfe, Deferred.ofValue, Sem.run_bind, Sem.run_pure, Result.andThen, invoke]
      rw [hs.enters]
      congr 2
      simp
    refine opw_enter hrun ?_
    have hown : ownsL (first ++ (evs s xs ++ caps)) (us.toList ++ (ps.map a.eval ++ ys.toList)) = ownsL (evs s xs) (ps.map a.eval) := by
      rw [ownsL_app hus.length, ownsL_app h3.length, firsts_free hfr hfx hfv, caps_free hfr hfx hfv, List.nil_append, List.append_nil]
    refine Calls.mono (h2 F c.nt g a w _ (hus.append (h3.append hys)) (by rw [hown]; simpa using h4)) ?_
    rintro e w1 ⟨v1, g1, rfl, k1, k2, k3, k4⟩
    exact ⟨v1, rfl, hnext v1 g1 w1 k1 (hpre.trans k2) k3 k4⟩
  · exact absurd hr (by simp)
end Go.Sh

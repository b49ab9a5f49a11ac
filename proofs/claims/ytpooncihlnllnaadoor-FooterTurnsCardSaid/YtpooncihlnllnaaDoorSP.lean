/- Pieces: fewer slots known; functions. -/
import Derived.Test.YtpooncihlnllnaaDoorSO
namespace Go.Sh
open Go.RowKit
set_option linter.unusedSimpArgs false
set_option linter.unusedVariables false
variable {c : Cx}

theorem owns_undefA (v : Value) : owns .undef v = [] := by cases v <;> rfl
theorem slotOwns_forget {s s' : St} : ∀ (l : List Value) (i : Nat), (∀ t, s'.get t = s.get t ∨ s'.get t = .undef) → (∀ b, oc b (slotOwns s' i l) ≤ oc b (slotOwns s i l)) ∧ ∀ r, r ∈ slotOwns s' i l → r ∈ slotOwns s i l
  | [], _, _ => ⟨fun _ => Nat.le_refl _, fun _ h => h⟩
  | v :: l, i, h => by
    obtain ⟨h1, h2⟩ := slotOwns_forget (s := s) (s' := s') l (i + 1) h
    simp only [slotOwns]
    rcases h i with e | e
    · rw [e]
      exact ⟨fun b => by have := h1 b; simp only [oc_append]; omega, fun r hr => by
        simp only [List.mem_append] at hr ⊢
        exact hr.imp id (h2 r)⟩
    · rw [e, owns_undefA]
      exact ⟨fun b => by have := h1 b; simp only [oc_append, List.nil_append]; omega, fun r hr => List.mem_append_right _ (h2 r (by simpa using hr))⟩
theorem SimX.forget {F : Nat → Prop} {nt : Nat} {g : Gh} {s s' : St} {a : Act} {w : World} (h : SimX F nt g s a w []) (hg : ∀ t, s'.get t = s.get t ∨ s'.get t = .undef) (hh : s'.heap = s.heap) : SimX F nt g s' a w [] := by
  obtain ⟨h1, h2⟩ := slotOwns_forget (s := s) (s' := s') a.tmps.toList 0 hg
  refine ⟨h.size, fun t => ?_, ?_, h.defers⟩
  · rcases hg t with e | e
    · rw [e]; exact h.slots t
    · rw [e]; simp only [VR]
  · rw [hh]
    exact h.core.weaken (fun r hr => h2 r hr) h1
theorem get_mask {s : St} {H : List AObj} (t : Nat) : ∀ (m : List Nat), (⟨m.map fun t => (t, s.get t), H⟩ : St).get t = s.get t ∨ (⟨m.map fun t => (t, s.get t), H⟩ : St).get t = .undef
  | [] => .inr rfl
  | u :: m => by
    simp only [List.map_cons]
    rw [get_cons]
    by_cases e : u = t
    · subst e; rw [if_pos rfl]; exact .inl rfl
    · rw [if_neg e]; exact get_mask t m

theorem snd_maskIn {m : List Nat} {x : Ex} {cd : Code} (hx : Snd c x cd) : Snd c (emaskIn m x) cd := by
  intro s R k r h
  obtain ⟨e, s1, h1, h2⟩ := hx _ R k r h
  exact ⟨e, s1, h1, fun F g a w B hB hp hs => h2 F g a w B hB hp (hs.forget (get_mask · m) rfl)⟩

/-! ### objects given up -/
mutual
theorem below_ren (n : Nat) : ∀ (a : AV), below n a = true → Sh.ren (fun i => if i < n then some i else none) a = some a
  | .ptr (some (id, off)), h => by
    simp only [below, decide_eq_true_eq] at h
    simp [Sh.ren, h]
  | .agg cs, h => by simp only [below] at h; simp [Sh.ren, belowL_ren n cs h]
  | .tuple cs, h => by simp only [below] at h; simp [Sh.ren, belowL_ren n cs h]
  | .func fn a b, h => by
    simp only [below, Bool.and_eq_true] at h
    simp [Sh.ren, belowL_ren n a h.1, belowL_ren n b h.2]
  | .iface t v, h => by simp only [below] at h; simp [Sh.ren, below_ren n v h]
  | .mut id off m sz, h => by
    simp only [below, decide_eq_true_eq] at h
    simp [Sh.ren, h]
  | .map (some id), h => by
    simp only [below, decide_eq_true_eq] at h
    simp [Sh.ren, h]
  | .undef, _ | .int .., _ | .bool .., _ | .str .., _ | .ints .., _ | .strs .., _ | .sl .., _ | .eptr .., _ | .ptr none, _ | .map none, _ | .nilFunc, _ | .nilIface, _ => rfl
theorem belowL_ren (n : Nat) : ∀ (cs : List AV), belowL n cs = true → renL (fun i => if i < n then some i else none) cs = some cs
  | [], _ => rfl
  | c :: cs, h => by
    simp only [belowL, Bool.and_eq_true] at h
    simp [renL, below_ren n c h.1, belowL_ren n cs h.2]
end
/-- The first numbers. -/
def Gh.first (g : Gh) (n : Nat) : Gh := ⟨g.obj.take n, g.len⟩
theorem first_ok (g : Gh) (n : Nat) (i j b : Nat) (h : (fun i => if i < n then some i else none) i = some j) (hb : g.obj[i]? = some b) : (g.first n).obj[j]? = some b := by
  by_cases hi : i < n
  · simp [hi] at h
    subst h
    simp only [Gh.first]
    rw [List.getElem?_take, if_pos hi]; exact hb
  · simp [hi] at h
theorem VR.first {g : Gh} {w : World} {n : Nat} {a : AV} {v : Value} (hb : below n a = true) (h : VR g w a v) : VR (g.first n) w a v :=
  (VR.ren (g := g) (g1 := g.first n) (fun _ => Nat.le_refl _) (first_ok g n) (noPtr_ok fun _ => Nat.le_refl _) _ _ v (below_ren n a hb) h).1
theorem entFirst {g : Gh} {w : World} {n : Nat} : ∀ {es : List (AV × AV)} {l : List MapEntry}, (∀ e ∈ es, (below n e.1 && below n e.2) = true) → EntR g w es l → EntR (g.first n) w es l
  | [], _, _, h => h
  | (k, v) :: es, l, hb, h => by
    obtain ⟨x, rest, rfl, e1, e2, e3⟩ := h
    have := hb (k, v) (by simp)
    simp only [Bool.and_eq_true] at this
    exact ⟨x, rest, rfl, VR.first this.1 e1, VR.first this.2 e2, entFirst (fun e he => hb e (by simp [he])) e3⟩
theorem objsFirst {g : Gh} {w : World} {n : Nat} : ∀ {H : List AObj} {bs : List Nat}, (∀ o ∈ H, objBelow n o = true) → ObjsR g w H bs → ObjsR (g.first n) w H bs
  | [], _, _, h => by simpa only [ObjsR] using h
  | o :: H, bs, hb, h => by
    simp only [ObjsR] at h ⊢
    obtain ⟨b, cs, rfl, h1, h2⟩ := h
    refine ⟨b, cs, rfl, ?_, objsFirst (fun o ho => hb o (by simp [ho])) h2⟩
    have hbo := hb o (by simp)
    cases o with
    | map es =>
      simp only [ObjR] at h1 ⊢
      obtain ⟨en, cl, h3, h4⟩ := h1
      exact ⟨en, cl, h3, entFirst (fun e he => List.all_eq_true.1 hbo e he) h4⟩
    | rowS t xs => exact h1
    | rowI t k xs => exact h1
    | cells t xs =>
      simp only [ObjR] at h1 ⊢
      obtain ⟨arr, h3, h4⟩ := h1
      exact ⟨arr, h3, (VRs.ren (g := g) (g1 := g.first n) (fun _ => Nat.le_refl _) (first_ok g n) (noPtr_ok fun _ => Nat.le_refl _) _ _ _ (belowL_ren n xs hbo) h4).1⟩
theorem objsTake {g : Gh} {w : World} : ∀ (n : Nat) {H : List AObj} {bs : List Nat}, ObjsR g w H bs → ObjsR g w (H.take n) (bs.take n)
  | 0, _, _, _ => by simp [ObjsR]
  | n + 1, [], bs, h => by simp only [ObjsR] at h; subst h; simp [ObjsR]
  | n + 1, o :: H, bs, h => by
    simp only [ObjsR] at h
    obtain ⟨b, cs, rfl, h1, h2⟩ := h
    simp only [List.take_succ_cons, ObjsR]
    exact ⟨b, _, rfl, h1, objsTake n h2⟩
theorem ownsH_take {w : World} : ∀ (n : Nat) {H : List AObj} {bs : List Nat}, (∀ b, oc b (ownsH w (H.take n) (bs.take n)) ≤ oc b (ownsH w H bs)) ∧ ∀ r, r ∈ ownsH w (H.take n) (bs.take n) → r ∈ ownsH w H bs
  | 0, H, bs => by simp [ownsH, oc_nil]
  | n + 1, [], bs => by simp [ownsH, oc_nil]
  | n + 1, o :: H, [] => by simp [ownsH, oc_nil]
  | n + 1, o :: H, b :: bs => by
    obtain ⟨h1, h2⟩ := ownsH_take (w := w) n (H := H) (bs := bs)
    simp only [List.take_succ_cons, ownsH]
    exact ⟨fun x => by have := h1 x; simp only [oc_append]; omega, fun r hr => by
      simp only [List.mem_append] at hr ⊢
      exact hr.imp id (h2 r)⟩
theorem Core.first {F : Nat → Prop} {g : Gh} {H : List AObj} {os : List Rec} {w : World} {n : Nat} (h : Core F g H os w) (hb : ((H.take n).all (objBelow n)) = true) : Core F (g.first n) (H.take n) os w := by
  obtain ⟨h1, h2⟩ := ownsH_take (w := w) n (H := H) (bs := g.obj)
  have hc : ∀ b, (g.obj.take n).count b ≤ g.obj.count b := fun b => (List.take_sublist n g.obj).count_le b
  refine ⟨objsFirst (fun o ho => List.all_eq_true.1 hb o ho) (objsTake n h.heap), fun r hr => ?_, fun b => ?_, fun b hF => ?_, fun b hb => h.objlen b (List.mem_of_mem_take hb), h.lenlt, h.flt, h.good⟩
  · exact h.own r (hr.imp id (h2 r))
  · have := h.dist b; have := h1 b; have := hc b
    show oc b os + oc b (ownsH w (H.take n) (g.obj.take n)) + (g.obj.take n).count b ≤ 1
    omega
  · have := h.notF b hF; have := h1 b; have := hc b
    show oc b os + oc b (ownsH w (H.take n) (g.obj.take n)) + (g.obj.take n).count b = 0
    omega
theorem prefix_first {B l : List Nat} {n : Nat} (h : B <+: l) (hn : B.length ≤ n) : B <+: l.take n := by
  obtain ⟨t, rfl⟩ := h
  exact ⟨t.take (n - B.length), by rw [List.take_append, List.take_of_length_le hn]⟩

theorem belowL_all : ∀ {n : Nat} {cs : List AV}, belowL n cs = true → ∀ a ∈ cs, below n a = true
  | n, [], _, a, h => by simp at h
  | n, c :: cs, h, a, ha => by
    simp only [belowL, Bool.and_eq_true] at h
    rcases List.mem_cons.1 ha with rfl | ha
    · exact h.1
    · exact belowL_all h.2 a ha
theorem get_mask_in {s : St} {H : List AObj} (t : Nat) : ∀ (m : List Nat), ((⟨m.map fun t => (t, s.get t), H⟩ : St).get t = s.get t ∧ t ∈ m) ∨ (⟨m.map fun t => (t, s.get t), H⟩ : St).get t = .undef
  | [] => .inr rfl
  | u :: m => by
    simp only [List.map_cons]
    rw [get_cons]
    by_cases e : u = t
    · subst e; rw [if_pos rfl]; exact .inl ⟨rfl, by simp⟩
    · rw [if_neg e]
      exact (get_mask_in t m).imp (fun h => ⟨h.1, by simp [h.2]⟩) id

theorem snd_mask {m : AExit → List Nat × Option Nat} {x : Ex} {cd : Code} (hm : ∀ e n, (m e).2 = some n → c.nb ≤ n) (hx : Snd c x cd) : Snd c (emask m x) cd := by
  intro s R k r h
  obtain ⟨e, s1, h1, h2⟩ := hx _ R _ r h
  simp only [St.drop] at h1
  cases hn : (m e).2 with
  | none =>
    rw [hn] at h1
    refine ⟨e, _, h1, fun F g a w B hB hp hs => wp_mono (h2 F g a w B hB hp hs) ?_⟩
    rintro e' a' w' ⟨rfl, g', hp', hs', hst⟩
    exact ⟨rfl, g', hp', hs'.forget (get_mask · _) rfl, hst⟩
  | some n =>
    rw [hn] at h1
    obtain ⟨h3, h4⟩ | ⟨_, h4⟩ := cond_some h1
    case inr => exact absurd h4 (by simp)
    simp only [Bool.and_eq_true] at h3
    refine ⟨e, _, h4, fun F g a w B hB hp hs => wp_mono (h2 F g a w B hB hp hs) ?_⟩
    rintro e' a' w' ⟨rfl, g', hp', hs', hst⟩
    have hf := hs'.forget (s' := ⟨(m e).1.map fun t => (t, s1.get t), s1.heap⟩) (get_mask · _) rfl
    refine ⟨rfl, g'.first n, prefix_first hp' (by rw [hB]; exact hm e n hn), ⟨hf.size, fun t => ?_, ?_, hf.defers⟩, ⟨hst.cell, hst.len, hst.frame, hst.size, hst.os, hst.tape, hst.output⟩⟩
    · rcases get_mask_in (s := s1) (H := s1.heap.take n) t (m e).1 with ⟨h5, h6⟩ | h5
      · rw [h5]
        exact VR.first (belowL_all h3.1 _ (List.mem_map.2 ⟨t, h6, rfl⟩)) (hs'.slots t)
      · rw [h5]; simp only [VR]
    · have := hf.core.first h3.2
      have e2 : slotOwns (⟨(m e).1.map fun t => (t, s1.get t), s1.heap.take n⟩ : St) 0 a'.tmps.toList = slotOwns (⟨(m e).1.map fun t => (t, s1.get t), s1.heap⟩ : St) 0 a'.tmps.toList := slotOwns_congr _ _ (fun _ _ => rfl)
      rw [e2]
      exact this

/-- A piece: what it is told to be is what it is. -/
theorem snd_of {x y : Ex} {cd : Code} (h : ∀ (s : St) (R : Type) (k : AExit → St → Option R) (r : R), y s R k = some r → x s R k = some r) (hx : Snd c x cd) : Snd c y cd := fun s R k r hr => hx s R k r (h s R k r hr)

/-! ### functions -/
theorem results_one {fn : Func} {P : Program} {w : World} {tmps : Array Value} {t : Nat} (h : fn.results = #[.tmp t]) : (results fn tmps).run P w = .ok (tmps.getD t undef) w := by
  simp [results, h]
theorem results_many {P : Program} {w : World} {tmps : Array Value} : ∀ (ts : List Nat), ((ts.map ResultVar.tmp).mapM (fun
    | .tmp t => pure (tmps.getD t undef)
    | .cell a t => do loadVar t (← asAddr (tmps.getD a undef)) : ResultVar → Sem Value)).run P w = .ok (ts.map fun t => tmps.getD t undef) w
  | [] => by simp
  | t :: ts => by
    have ih := results_many (P := P) (w := w) (tmps := tmps) ts
    simp only [List.map_cons, List.mapM_cons, Sem.run_bind, Sem.run_pure, Result.andThen, ih]
def resV (tmps : Array Value) : List Nat → Value
  | [t] => tmps.getD t undef
  | ts => .tuple (ts.map fun t => tmps.getD t undef).toArray
theorem results_tmps {fn : Func} {P : Program} {w : World} {tmps : Array Value} {ts : List Nat} (h : fn.results = (ts.map ResultVar.tmp).toArray) : (results fn tmps).run P w = .ok (resV tmps ts) w := by
  have hm := results_many (P := P) (w := w) (tmps := tmps) ts
  unfold results
  rw [h, List.mapM_toArray]
  rw [Sem.run_bind, Sem.run_map]
  erw [hm]
  simp only [Result.andThen, Sem.run_pure]
  match ts with
  | [] => simp [resV]
  | [t] => simp [resV]
  | t :: u :: ts => simp [resV]

theorem slotOwns_args : ∀ (args : List AV) (vs : List Value) (H : List AObj) (rest : Nat) (i : Nat), args.length = vs.length → ∀ (s : St), (∀ j, s.get (i + j) = (args[j]?).getD .undef) → slotOwns s i (vs ++ List.replicate rest undef) = ownsL args vs
  | [], [], H, rest, i, _, s, h => by
    have : ∀ (r i : Nat), slotOwns s i (List.replicate r undef) = [] := by
      intro r
      induction r with
      | zero => intro i; rfl
      | succ r ih => intro i; simp only [List.replicate_succ, slotOwns, owns_undef, ih, List.append_nil]
    simpa [ownsL] using this rest i
  | a :: args, v :: vs, H, rest, i, hl, s, h => by
    simp only [List.cons_append, slotOwns, ownsL]
    rw [slotOwns_args args vs H rest (i + 1) (by simpa using hl) s (fun j => by have := h (j + 1); rw [show i + 1 + j = i + (j + 1) by omega]; simpa using this)]
    have := h 0
    simp at this
    rw [this]
  | [], _ :: _, _, _, _, hl, _, _ => by simp at hl
  | _ :: _, [], _, _, _, hl, _, _ => by simp at hl

/-- The slots at a function's start. -/
def argSlots : Nat → List AV → List (Nat × AV)
  | _, [] => []
  | i, a :: as => (i, a) :: argSlots (i + 1) as
theorem argSlots_get (H : List AObj) : ∀ (args : List AV) (i j : Nat), (⟨argSlots i args, H⟩ : St).get (i + j) = (args[j]?).getD .undef
  | [], i, j => by simp [argSlots, St.get, getS]
  | a :: args, i, j => by
    rw [argSlots, get_cons]
    cases j with
    | zero => simp
    | succ j =>
      rw [if_neg (by omega), show i + (j + 1) = i + 1 + j by omega, argSlots_get H args (i + 1) j]
      simp
theorem argSlots_none (H : List AObj) : ∀ (args : List AV) (i t : Nat), t < i → (⟨argSlots i args, H⟩ : St).get t = .undef
  | [], i, t, _ => rfl
  | a :: args, i, t, h => by
    rw [argSlots, get_cons, if_neg (by omega)]
    exact argSlots_none H args (i + 1) t (by omega)

theorem take_many (tmps : Array Value) : ∀ (ts : List Nat), ts.Nodup → ∀ (s : St), (∀ b, oc b (ownsL (ts.map s.get) (ts.map fun t => tmps.getD t undef)) ≤ oc b (slotOwns s 0 tmps.toList)) ∧ ∀ r, r ∈ ownsL (ts.map s.get) (ts.map fun t => tmps.getD t undef) → r ∈ slotOwns s 0 tmps.toList
  | [], _, s => by simp [ownsL, oc_nil]
  | t :: ts, hn, s => by
    obtain ⟨hn1, hn2⟩ := List.nodup_cons.1 hn
    have hp := slotOwns_give (s := s) (s' := ⟨(t, .undef) :: s.slots, s.heap⟩) (d := t) (fun t' ht => by rw [get_cons, if_neg (fun e => ht e.symm)]) (fun v => by rw [get_cons, if_pos rfl, owns_undefA]) tmps.toList 0 (Nat.zero_le _)
    have he : tmps.toList.getD (t - 0) undef = tmps.getD t undef := by simp [List.getD_eq_getElem?_getD, Array.getD_eq_getD_getElem?]
    rw [he] at hp
    obtain ⟨h1, h2⟩ := take_many tmps ts hn2 ⟨(t, .undef) :: s.slots, s.heap⟩
    have hm : ts.map (⟨(t, .undef) :: s.slots, s.heap⟩ : St).get = ts.map s.get := List.map_congr_left fun u hu => by
      rw [get_cons, if_neg (fun (e : t = u) => hn1 (e ▸ hu))]
    rw [hm] at h1 h2
    simp only [List.map_cons, ownsL]
    exact ⟨fun b => by have := h1 b; have := hp.1 b; simp only [oc_append]; omega, fun r hr => by
      rcases List.mem_append.1 hr with hr | hr
      · exact hp.2 r (.inl hr)
      · exact hp.2 r (.inr (h2 r hr))⟩
def resA (s : St) : List Nat → AV
  | [t] => s.get t
  | ts => .tuple (ts.map s.get)
theorem eres_eq {ts : List Nat} {n : Option Nat} {s : St} {R : Type} {k : AV → List AObj → Option R} : eres ts n .normal s k = match n with
    | none => k (resA s ts) s.heap
    | some n => cond (belowL n (ts.map s.get) && (s.heap.take n).all (objBelow n)) (k (resA s ts) (s.heap.take n)) none := by
  cases n <;> match ts with
    | [] => rfl
    | [t] => rfl
    | t :: u :: ts => rfl

/-- A function does what its shadow does, if its code does. -/
theorem fsound_of {P : Program} {f : FuncId} {fn : Func} {cd : Code} {nb nt : Nat} {ex : Ex} {ts : List Nat} {n : Option Nat} {sp : FSpec} (hf : P.funcs[f]? = some fn) (hn : (fn.name == "runtime.NumGoroutine") = false) (hb : fn.body = some cd) (hnt : fn.ntmps = nt) (hres : fn.results = (ts.map ResultVar.tmp).toArray)
    (hnn : ∀ m, n = some m → nb ≤ m) (hnd : ts.Nodup) (hx : Snd ⟨P, nb, nt⟩ ex cd)
    (hsp : ∀ (args : List AV) (H : List AObj) (R : Type) (k : AV → List AObj → Option R) (r : R), sp args H R k = some r → args.length ≤ nt ∧ H.length = nb ∧ ex ⟨argSlots 0 args, H⟩ R (fun e s => eres ts n e s k) = some r) : FSound P f sp := by
  refine ⟨enters_of hf hn hb, fun args H R k r hr => ?_⟩
  obtain ⟨hargs, hH, hrun⟩ := hsp args H R k r hr
  obtain ⟨e, s', h1, h2⟩ := hx _ R _ r hrun
  have body : ∀ (v : AV) (H' : List AObj), (∀ (F : Nat → Prop) (g' : Gh) (a' : Act) (w' : World), SimX F nt g' s' a' w' [] → (∀ B : List Nat, B.length = nb → B <+: g'.obj → ∃ v' g'', (results fn a'.tmps).run P w' = .ok v' w' ∧ VR g'' w' v v' ∧ B <+: g''.obj ∧ g''.len = g'.len ∧ Core F g'' H' (owns v v') w')) → (e = .normal ∨ e = .ret) → k v H' = some r →
      ∃ v H', k v H' = some r ∧ ∀ (F : Nat → Prop) (g : Gh) (vs : List Value) (w : World), VRs g w args vs → Core F g H (ownsL args vs) w →
        Calls P f vs.toArray w fun e w' => ∃ v' g', e = .returned v' ∧ VR g' w' v v' ∧ g.obj <+: g'.obj ∧ Core F g' H' (owns v v') w' ∧ Step F g w g' w' := by
    intro v H' hfin he hk
    refine ⟨v, H', hk, fun F g vs w hvs hcore => calls_of_wp hf hb ?_⟩
    have hlen := hvs.length
    have hsim : SimX F nt g ⟨argSlots 0 args, H⟩ { tmps := vs.toArray ++ Array.replicate (fn.ntmps - vs.toArray.size) undef, defers := [] } w [] := by
      refine ⟨by simp [hnt]; omega, fun t => ?_, ?_, rfl⟩
      · have hg := argSlots_get H args 0 t
        rw [Nat.zero_add] at hg
        rw [hg]
        by_cases ht : t < args.length
        · rw [List.getElem?_eq_getElem ht]
          obtain ⟨v', h5, h6⟩ := hvs.get t _ (List.getElem?_eq_getElem ht)
          have : (vs.toArray ++ Array.replicate (fn.ntmps - vs.toArray.size) undef).getD t undef = v' := by
            rw [Array.getD_eq_getD_getElem?, Array.getElem?_append_left (by simp; omega)]
            simp [h5]
          simp only [Option.getD_some]
          rw [this]; exact h6
        · rw [List.getElem?_eq_none (by omega)]
          simp only [Option.getD_none, VR]
      · have : (({ tmps := vs.toArray ++ Array.replicate (fn.ntmps - vs.toArray.size) undef, defers := [] } : Act)).tmps.toList = vs ++ List.replicate (fn.ntmps - vs.toArray.size) undef := by simp
        rw [this, slotOwns_args args vs H _ 0 hlen _ (fun j => argSlots_get H args 0 j)]
        exact hcore
    have hBlen : g.obj.length = nb := by rw [← hcore.heap.length]; exact hH
    refine wp_mono (h2 F g _ w g.obj hBlen (List.prefix_refl _) hsim) ?_
    rintro e' a' w' ⟨rfl, g', hp', hs', hst⟩
    obtain ⟨v', g'', h5, h6, h7, h8, h9⟩ := hfin F g' a' w' hs' g.obj hBlen hp'
    have hR : ∃ v'' g', Ending.returned v' = .returned v'' ∧ VR g' w' v v'' ∧ g.obj <+: g'.obj ∧ Core F g' H' (owns v v'') w' ∧ Step F g w g' w' := ⟨v', g'', rfl, h6, h7, h9, ⟨hst.cell, by rw [h8]; exact hst.len, by rw [h8]; exact hst.frame, hst.size, hst.os, hst.tape, hst.output⟩⟩
    rcases he with rfl | rfl
    · exact ⟨hs'.defers, v', h5, hR⟩
    · exact ⟨hs'.defers, v', h5, hR⟩
  -- the result's slots
  have vals : ∀ (F : Nat → Prop) (g' : Gh) (a' : Act) (w' : World), SimX F nt g' s' a' w' [] → ∀ (l : List Nat), VRs g' w' (l.map s'.get) (l.map fun t => a'.tmps.getD t undef) := by
    intro F g' a' w' hs l
    induction l with
    | nil => simp [VRs]
    | cons t l ih => simp only [List.map_cons, VRs]; exact ⟨_, _, rfl, hs.slots t, ih⟩
  -- the result
  have val : ∀ (F : Nat → Prop) (g' : Gh) (a' : Act) (w' : World), SimX F nt g' s' a' w' [] → VR g' w' (resA s' ts) (resV a'.tmps ts) ∧ (∀ r, r ∈ owns (resA s' ts) (resV a'.tmps ts) → r ∈ slotOwns s' 0 a'.tmps.toList) ∧ ∀ b, oc b (owns (resA s' ts) (resV a'.tmps ts)) ≤ oc b (slotOwns s' 0 a'.tmps.toList) := by
    intro F g' a' w' hs
    have h1 := vals F g' a' w' hs ts
    have h2 := take_many a'.tmps ts hnd s'
    match ts, h1, h2 with
    | [], _, _ => exact ⟨by simp only [resA, resV, VR]; exact ⟨_, rfl, by simp [VRs]⟩, fun r hr => by simp [resA, resV, owns, ownsL] at hr, fun b => by simp [resA, resV, owns, ownsL, oc_nil]⟩
    | [t], h1, h2 =>
      refine ⟨hs.slots t, fun r hr => h2.2 r ?_, fun b => ?_⟩
      · simpa [ownsL, resA, resV] using hr
      · have := h2.1 b
        simpa [ownsL, resA, resV] using this
    | t :: u :: ts, h1, h2 =>
      refine ⟨?_, fun r hr => h2.2 r ?_, fun b => ?_⟩
      · simp only [resA, resV, VR]
        exact ⟨_, rfl, by simpa using h1⟩
      · simpa [resA, resV, owns] using hr
      · have := h2.1 b
        simpa [resA, resV, owns] using this
  have fin : ∀ (H' : List AObj) (mk : Gh → Gh), (∀ g, (mk g).len = g.len) → (∀ (B : List Nat) (g : Gh), B.length = nb → B <+: g.obj → B <+: (mk g).obj) → (∀ (F : Nat → Prop) (g' : Gh) (a' : Act) (w' : World), SimX F nt g' s' a' w' [] → VR (mk g') w' (resA s' ts) (resV a'.tmps ts) ∧ Core F (mk g') H' (slotOwns s' 0 a'.tmps.toList) w') → (e = .normal ∨ e = .ret) → k (resA s' ts) H' = some r →
      ∃ v H', k v H' = some r ∧ ∀ (F : Nat → Prop) (g : Gh) (vs : List Value) (w : World), VRs g w args vs → Core F g H (ownsL args vs) w →
        Calls P f vs.toArray w fun e w' => ∃ v' g', e = .returned v' ∧ VR g' w' v v' ∧ g.obj <+: g'.obj ∧ Core F g' H' (owns v v') w' ∧ Step F g w g' w' := by
    intro H' mk hmk hpre hall he hk
    refine body (resA s' ts) H' (fun F g' a' w' hs B hB hp => ?_) he hk
    obtain ⟨h3, h4⟩ := hall F g' a' w' hs
    obtain ⟨_, h6, h7⟩ := val F g' a' w' hs
    exact ⟨resV a'.tmps ts, mk g', results_tmps hres, h3, hpre B g' hB hp, hmk g', h4.weaken h6 h7⟩
  have main : (e = .normal ∨ e = .ret) → eres ts n .normal s' k = some r → ∃ v H', k v H' = some r ∧ ∀ (F : Nat → Prop) (g : Gh) (vs : List Value) (w : World), VRs g w args vs → Core F g H (ownsL args vs) w →
        Calls P f vs.toArray w fun e w' => ∃ v' g', e = .returned v' ∧ VR g' w' v v' ∧ g.obj <+: g'.obj ∧ Core F g' H' (owns v v') w' ∧ Step F g w g' w' := by
    intro he hk
    rw [eres_eq] at hk
    cases n with
    | none => exact fin s'.heap id (fun _ => rfl) (fun _ _ _ h => h) (fun F g' a' w' hs => ⟨(val F g' a' w' hs).1, by simpa using hs.core⟩) he hk
    | some m =>
      simp only at hk
      obtain ⟨h3, h4⟩ | ⟨_, h4⟩ := cond_some hk
      case inr => exact absurd h4 (by simp)
      simp only [Bool.and_eq_true] at h3
      refine fin (s'.heap.take m) (fun g => g.first m) (fun _ => rfl) (fun B g hB hp => prefix_first hp (by rw [hB]; exact hnn m rfl)) (fun F g' a' w' hs => ⟨VR.first ?_ (val F g' a' w' hs).1, by simpa using hs.core.first h3.2⟩) he h4
      match ts, h3.1 with
      | [], _ => rfl
      | [t], h => simp only [List.map_cons, belowL, Bool.and_eq_true] at h; exact h.1
      | t :: u :: ts, h => exact h
  cases e with
  | normal => exact main (.inl rfl) h1
  | ret => exact main (.inr rfl) h1
  | exit id => exact absurd h1 (by simp [eres])
end Go.Sh

/- Code's shadow out of the code itself. -/
import Derived.Test.YtcbgfjghebopoaaDoorR1
import Derived.Test.YtcbgfjghebopoaaDoorST
import Derived.Test.YtcbgfjghebopoaaDoorSX
namespace Go.Sh
open Go.RowKit
set_option linter.unusedSimpArgs false
set_option linter.unusedVariables false
variable {c : Cx}

/-! ### regions -/
def hOf (i : Nat) : List (Nat × HO) → HO
  | (j, h) :: _ => cond (Nat.beq i j) h .no
  | [] => .no
def hRest (i : Nat) : List (Nat × HO) → List (Nat × HO)
  | (j, h) :: r => cond (Nat.beq i j) r ((j, h) :: r)
  | [] => []
def gOf (ops : Array Oper) : Option (Nat × Bool) → Option (Nat × Bool)
  | none => none
  | some (j, w) => some (((ops[j]?).bind (·.dst)).getD 0, w)
def compR (P : Program) (ops : Array Oper) : Nat → List (Nat × HO) → List Oper → List AOper
  | _, _, [] => []
  | i, hs, o :: os => ⟨o.dst, opA P (hOf i hs) o, gOf ops o.guard⟩ :: compR P ops (i + 1) (hRest i hs) os
def tmpsO : Operand → List Nat
  | .tmp t => [t]
  | _ => []
def tmpsOs : List Operand → List Nat
  | [] => []
  | p :: ps => tmpsO p ++ tmpsOs ps
def tmpsOo : Option Operand → List Nat
  | some p => tmpsO p
  | none => []
/-- The slots that an operation reads. -/
def tmpsOp : Op → List Nat
  | .move x | .assign x | .box _ x | .load _ x | .nilCheck x | .unOp _ _ x | .convert _ _ x | .makeInterface _ x | .fieldAddr _ x _ | .field _ x _ | .extract x _ => tmpsO x
  | .pick a b e => tmpsOs [a, b, e]
  | .build _ ps | .buildSlice _ _ ps => tmpsOs (ps.toList.map (·.2))
  | .store _ a v | .binOp _ _ a v _ | .makeSlice _ a v | .indexAddr _ a v | .index _ a v | .lookup _ a v _ => tmpsOs [a, v]
  | .makeFunc _ f cs => tmpsOs f.toList ++ tmpsOs cs.toList
  | .slice _ x l h _ => tmpsO x ++ tmpsOo l ++ tmpsOo h
  | .mapUpdate _ m k v | .insert _ m k v => tmpsOs [m, k, v]
  | .call cl => (match cl.callee with | .value f => tmpsO f | .invoke r _ => tmpsO r | .builtin _ => []) ++ tmpsOs cl.args.toList
  | _ => []
def obOf : Op → OB
  | .load .. | .lookup .. => .look
  | .store .. | .box .. | .alloc .. | .makeMap .. | .insert .. | .mapUpdate .. => .all
  | _ => .no
def bOf (i : Nat) (b : OB) : List (Nat × OB) → OB
  | (j, h) :: r => cond (Nat.beq i j) h (bOf i b r)
  | [] => b
def compD (P : Program) (ops : Array Oper) (bs : List (Nat × OB)) : Nat → List (Nat × HO) → List Oper → List DOper
  | _, _, [] => []
  | i, hs, o :: os => ⟨⟨o.dst, opA P (hOf i hs) o, gOf ops o.guard⟩, tmpsOp o.op ++ (match gOf ops o.guard with | some (t, _) => [t] | none => []), bOf i (obOf o.op) bs⟩ :: compD P ops bs (i + 1) (hRest i hs) os

def chkR (nt : Nat) (ops : Array Oper) : List Oper → Bool
  | [] => true
  | o :: os => (match o.dst with | none => true | some d => Nat.blt d nt) && (match o.guard with | none => true | some (j, _) => ((ops[j]?).bind (·.dst)).isSome) && chkR nt ops os
theorem fitD_self {nt : Nat} {d : Option Nat} (h : (match d with | none => true | some d => Nat.blt d nt) = true) : fitD nt d d = true := by
  cases d with
  | none => rfl
  | some d => simp only [fitD]; simp only at h; simp [h]
theorem fitG_of {ops : Array Oper} {g : Option (Nat × Bool)} (h : (match g with | none => true | some (j, _) => ((ops[j]?).bind (·.dst)).isSome) = true) : fitG ops (gOf ops g) g = true := by
  cases g with
  | none => rfl
  | some jw =>
    obtain ⟨j, w⟩ := jw
    simp only at h
    obtain ⟨t, ht⟩ := Option.isSome_iff_exists.1 h
    simp [gOf, fitG, ht]
theorem fitR_of {P : Program} {nt : Nat} {ops : Array Oper} : ∀ {os : List Oper} {i : Nat} {hs : List (Nat × HO)}, chkR nt ops os = true → fitR nt ops (compR P ops i hs os) os = true
  | [], _, _, _ => rfl
  | o :: os, i, hs, h => by
    simp only [chkR, Bool.and_eq_true] at h
    obtain ⟨⟨h1, h2⟩, h3⟩ := h
    simp [compR, fitR, fitD_self h1, fitG_of h2, fitR_of h3]
theorem fitDr_of {P : Program} {nt : Nat} {ops : Array Oper} {bs : List (Nat × OB)} : ∀ {os : List Oper} {i : Nat} {hs : List (Nat × HO)}, chkR nt ops os = true → fitDr nt ops (compD P ops bs i hs os) os = true
  | [], _, _, _ => rfl
  | o :: os, i, hs, h => by
    simp only [chkR, Bool.and_eq_true] at h
    obtain ⟨⟨h1, h2⟩, h3⟩ := h
    simp [compD, fitDr, fitD_self h1, fitG_of h2, fitDr_of h3]

/-- What the hints of a region ask for; then K. -/
def HsK (c : Cx) (ops : List Oper) : List (Nat × HO) → Prop → Prop
  | [], K => K
  | (i, h) :: r, K => match h with
    | .cl f sp => FSound c.P f sp ∧ HsK c ops r K
    | .cy key sp => RSound c.P key sp ∧ HsK c ops r K
    | .raw p => OpOK c p ((ops[i]?).getD default) ∧ HsK c ops r K
    | _ => HsK c ops r K
theorem HsK_rest {ops : List Oper} {i : Nat} : ∀ {hs : List (Nat × HO)} {K : Prop}, HsK c ops hs K → HsK c ops (hRest i hs) K
  | [], K, h => h
  | (j, x) :: r, K, h => by
    simp only [hRest]
    cases hb : Nat.beq i j with
    | false => exact h
    | true =>
      simp only [cond_true]
      simp only [HsK] at h
      split at h
      · exact h.2
      · exact h.2
      · exact h.2
      · exact h
theorem HsK_head {ops : List Oper} {i : Nat} {o : Oper} (ho : ops[i]? = some o) : ∀ {hs : List (Nat × HO)} {K : Prop}, HsK c ops hs K → (hOf i hs).OK c o
  | [], K, h => trivial
  | (j, x) :: r, K, h => by
    simp only [hOf]
    cases hb : Nat.beq i j with
    | false => exact trivial
    | true =>
      have := Nat.eq_of_beq_eq_true hb
      subst this
      simp only [cond_true]
      simp only [HsK] at h
      split at h
      · exact h.1
      · exact h.1
      · rw [ho] at h; exact h.1
      · rename_i h1 h2 h3
        cases x with
        | cl f sp => exact absurd rfl (h1 f sp)
        | cy f sp => exact absurd rfl (h2 f sp)
        | raw p => exact absurd rfl (h3 p)
        | _ => exact trivial
theorem HsK_K {ops : List Oper} : ∀ {hs : List (Nat × HO)} {K : Prop}, HsK c ops hs K → K
  | [], K, h => h
  | (j, x) :: r, K, h => by
    simp only [HsK] at h
    split at h
    · exact HsK_K h.2
    · exact HsK_K h.2
    · exact HsK_K h.2
    · exact HsK_K h
theorem opsOK_of {ops : Array Oper} {K : Prop} : ∀ {os : List Oper} {i : Nat} {hs : List (Nat × HO)}, (∀ j, os[j]? = ops.toList[i + j]?) → HsK c ops.toList hs K → OpsOK c (compR c.P ops i hs os) os
  | [], _, _, _, _ => trivial
  | o :: os, i, hs, hj, h => ⟨opA_ok (HsK_head (by have := hj 0; simpa using this.symm) h), opsOK_of (fun j => by have := hj (j + 1); simpa [Nat.add_assoc, Nat.add_comm 1 j] using this) (HsK_rest h)⟩
theorem drOK_of {ops : Array Oper} {bs : List (Nat × OB)} {K : Prop} : ∀ {os : List Oper} {i : Nat} {hs : List (Nat × HO)}, (∀ j, os[j]? = ops.toList[i + j]?) → HsK c ops.toList hs K → DrOK c (compD c.P ops bs i hs os) os
  | [], _, _, _, _ => trivial
  | o :: os, i, hs, hj, h => ⟨opA_ok (HsK_head (by have := hj 0; simpa using this.symm) h), drOK_of (fun j => by have := hj (j + 1); simpa [Nat.add_assoc, Nat.add_comm 1 j] using this) (HsK_rest h)⟩

/-! ### code -/
/-- What is told of code ahead: nothing; of a region; of two parts; of one part; a piece, told for itself. -/
inductive HT where
  | a
  | r (hs : List (Nat × HO))
  | d (hs : List (Nat × HO)) (bs : List (Nat × OB))
  | s (x y : HT)
  | u (x : HT)
  | p (x : Ex)
  | z (ts : List Nat) (x : HT)
def HT.l : HT → HT
  | .s x _ => x
  | _ => .a
def HT.rt : HT → HT
  | .s _ y => y
  | _ => .a
def HT.in1 : HT → HT
  | .u x => x
  | _ => .a
def HT.hs : HT → List (Nat × HO)
  | .r hs => hs
  | .d hs _ => hs
  | .z _ x => x.hs
  | _ => []
def HT.bs : HT → List (Nat × OB)
  | .d _ bs => bs
  | .z _ x => x.bs
  | _ => []
def HT.zs : HT → List Nat
  | .z ts _ => ts
  | _ => []
def HT.ex : HT → Option Ex
  | .p x => some x
  | _ => none
def edead2 : Ex := fun _ _ _ => none
theorem snd_dead2 {cd : Code} : Snd c edead2 cd := fun s R k r h => by cases h
def econd2 (P : Program) (y : Operand) (a b : Ex) : Ex := match axO P true [] 0 y with
  | some x => econd x a b
  | none => edead2

def regE0 (P : Program) (ops : Array Oper) (h : HT) : Bool → Ex
  | false => eregion (compR P ops 0 h.hs ops.toList)
  | true => edrawn (compD P ops h.bs 0 h.hs ops.toList)
def regE (P : Program) (ops : Array Oper) (h : HT) (b : Bool) : Ex := efrzs h.zs (regE0 P ops h b)
def regC (c : Cx) (ops : Array Oper) (h : HT) : Bool → Bool
  | false => chkR c.nt ops ops.toList
  | true => chkR c.nt ops ops.toList && (c.P.follows .mixedOrders && drawnB 0 (compD c.P ops h.bs 0 h.hs ops.toList) ops.toList)
theorem regE_snd {id : Nat} {ops : Array Oper} {h : HT} {K : Prop} {dr : Bool} (hc : regC c ops h dr = true) (hk : HsK c ops.toList h.hs K) : Snd c (regE c.P ops h dr) (.region id ops dr) ∧ K := by
  refine ⟨snd_frzs ?_ _, HsK_K hk⟩
  cases dr with
  | false => exact snd_region (l := ops.toList) (fitR_of hc) (opsOK_of (ops := ops) (fun j => by simp) hk)
  | true =>
    simp only [regC, Bool.and_eq_true] at hc
    exact snd_drawn (l := ops.toList) hc.2.1 (fitDr_of hc.1) hc.2.2 (drOK_of (ops := ops) (fun j => by simp) hk)
def comp (P : Program) : Code → HT → Ex
  | .skip, h => match h with
    | .p x => x
    | _ => eskip
  | .ret, h => match h with
    | .p x => x
    | _ => eret
  | .exit id, h => match h with
    | .p x => x
    | _ => eexit id
  | .seq a b, h => match h with
    | .p x => x
    | h => eseq (comp P a h.l) (comp P b h.rt)
  | .cond y a b, h => match h with
    | .p x => x
    | h => econd2 P y (comp P a h.l) (comp P b h.rt)
  | .block id a, h => match h with
    | .p x => x
    | h => eblock id (comp P a h.in1)
  | .region id ops dr, h => match h with
    | .p x => x
    | h => regE P ops h dr
  | .loop a, h => match h with
    | .p x => x
    | _ => edead2
  | .rangeFunc .., h => match h with
    | .p x => x
    | _ => edead2
  | .scope .., h => match h with
    | .p x => x
    | _ => edead2
  | .label .., h => match h with
    | .p x => x
    | _ => edead2
  | .goto .., h => match h with
    | .p x => x
    | _ => edead2
  | .refuse .., h => match h with
    | .p x => x
    | _ => edead2
def chk (c : Cx) : Code → HT → Bool
  | .seq a b, h => match h with
    | .p _ => true
    | h => chk c a h.l && chk c b h.rt
  | .cond _ a b, h => match h with
    | .p _ => true
    | h => chk c a h.l && chk c b h.rt
  | .block _ a, h => match h with
    | .p _ => true
    | h => chk c a h.in1
  | .region _ ops dr, h => match h with
    | .p _ => true
    | h => regC c ops h dr
  | _, _ => true
/-- What the hints ask for; then K. -/
def HTK (c : Cx) : Code → HT → Prop → Prop
  | .seq a b, h, K => match h with
    | .p x => Snd c x (.seq a b) ∧ K
    | .s x y => HTK c a x (HTK c b y K)
    | _ => K
  | .cond p a b, h, K => match h with
    | .p x => Snd c x (.cond p a b) ∧ K
    | .s x y => HTK c a x (HTK c b y K)
    | _ => K
  | .block id a, h, K => match h with
    | .p x => Snd c x (.block id a) ∧ K
    | .u x => HTK c a x K
    | _ => K
  | .region id ops dr, h, K => match h with
    | .p x => Snd c x (.region id ops dr) ∧ K
    | .r hs => HsK c ops.toList hs K
    | .d hs _ => HsK c ops.toList hs K
    | .z _ x => HsK c ops.toList x.hs K
    | _ => K
  | cd, h, K => match h with
    | .p x => Snd c x cd ∧ K
    | _ => K

theorem snd_cond2 {p : Operand} {y z : Ex} {cy cz : Code} (hy : Snd c y cy) (hz : Snd c z cz) : Snd c (econd2 c.P p y z) (.cond p cy cz) := by
  unfold econd2
  split
  · rename_i x hx
    exact snd_cond (axO_fit hx).1 hy hz
  · exact snd_dead2
theorem HTK_a {K : Prop} : ∀ {cd : Code}, HTK c cd .a K = K := fun {cd} => by cases cd <;> rfl
theorem comp_snd : ∀ (cd : Code) (h : HT) (K : Prop), chk c cd h = true → HTK c cd h K → Snd c (comp c.P cd h) cd ∧ K
  | .skip, h, K, hc, hk => by cases h <;> first | exact hk | exact ⟨snd_skip, hk⟩
  | .ret, h, K, hc, hk => by cases h <;> first | exact hk | exact ⟨snd_ret, hk⟩
  | .exit id, h, K, hc, hk => by cases h <;> first | exact hk | exact ⟨snd_exit, hk⟩
  | .loop a, h, K, hc, hk => by cases h <;> first | exact hk | exact ⟨snd_dead2, hk⟩
  | .rangeFunc .., h, K, hc, hk => by cases h <;> first | exact hk | exact ⟨snd_dead2, hk⟩
  | .scope .., h, K, hc, hk => by cases h <;> first | exact hk | exact ⟨snd_dead2, hk⟩
  | .label .., h, K, hc, hk => by cases h <;> first | exact hk | exact ⟨snd_dead2, hk⟩
  | .goto .., h, K, hc, hk => by cases h <;> first | exact hk | exact ⟨snd_dead2, hk⟩
  | .refuse .., h, K, hc, hk => by cases h <;> first | exact hk | exact ⟨snd_dead2, hk⟩
  | .seq a b, h, K, hc, hk => by
    have gen : ∀ h : HT, (chk c a h.l && chk c b h.rt) = true → HTK c a h.l (HTK c b h.rt K) → Snd c (eseq (comp c.P a h.l) (comp c.P b h.rt)) (.seq a b) ∧ K := fun h hc hk => by
      simp only [Bool.and_eq_true] at hc
      obtain ⟨h1, h2⟩ := comp_snd a _ _ hc.1 hk
      obtain ⟨h3, h4⟩ := comp_snd b _ _ hc.2 h2
      exact ⟨snd_seq h1 h3, h4⟩
    cases h with
    | p x => exact hk
    | s x y => exact gen (.s x y) hc hk
    | a => exact gen .a hc (by simp only [HT.l, HT.rt, HTK_a]; exact hk)
    | r hs => exact gen (.r hs) hc (by simp only [HT.l, HT.rt, HTK_a]; exact hk)
    | d hs bs => exact gen (.d hs bs) hc (by simp only [HT.l, HT.rt, HTK_a]; exact hk)
    | u x => exact gen (.u x) hc (by simp only [HT.l, HT.rt, HTK_a]; exact hk)
    | z ts x => exact gen (.z ts x) hc (by simp only [HT.l, HT.rt, HTK_a]; exact hk)
  | .cond p a b, h, K, hc, hk => by
    have gen : ∀ h : HT, (chk c a h.l && chk c b h.rt) = true → HTK c a h.l (HTK c b h.rt K) → Snd c (econd2 c.P p (comp c.P a h.l) (comp c.P b h.rt)) (.cond p a b) ∧ K := fun h hc hk => by
      simp only [Bool.and_eq_true] at hc
      obtain ⟨h1, h2⟩ := comp_snd a _ _ hc.1 hk
      obtain ⟨h3, h4⟩ := comp_snd b _ _ hc.2 h2
      exact ⟨snd_cond2 h1 h3, h4⟩
    cases h with
    | p x => exact hk
    | s x y => exact gen (.s x y) hc hk
    | a => exact gen .a hc (by simp only [HT.l, HT.rt, HTK_a]; exact hk)
    | r hs => exact gen (.r hs) hc (by simp only [HT.l, HT.rt, HTK_a]; exact hk)
    | d hs bs => exact gen (.d hs bs) hc (by simp only [HT.l, HT.rt, HTK_a]; exact hk)
    | u x => exact gen (.u x) hc (by simp only [HT.l, HT.rt, HTK_a]; exact hk)
    | z ts x => exact gen (.z ts x) hc (by simp only [HT.l, HT.rt, HTK_a]; exact hk)
  | .block id a, h, K, hc, hk => by
    have gen : ∀ h : HT, chk c a h.in1 = true → HTK c a h.in1 K → Snd c (eblock id (comp c.P a h.in1)) (.block id a) ∧ K := fun h hc hk => by
      obtain ⟨h1, h2⟩ := comp_snd a _ _ hc hk
      exact ⟨snd_block h1, h2⟩
    cases h with
    | p x => exact hk
    | u x => exact gen (.u x) hc hk
    | a => exact gen .a hc (by simp only [HT.in1, HTK_a]; exact hk)
    | r hs => exact gen (.r hs) hc (by simp only [HT.in1, HTK_a]; exact hk)
    | d hs bs => exact gen (.d hs bs) hc (by simp only [HT.in1, HTK_a]; exact hk)
    | s x y => exact gen (.s x y) hc (by simp only [HT.in1, HTK_a]; exact hk)
    | z ts x => exact gen (.z ts x) hc (by simp only [HT.in1, HTK_a]; exact hk)
  | .region id ops dr, h, K, hc, hk => by
    cases h with
    | p x => exact hk
    | r hs => exact regE_snd (h := .r hs) hc hk
    | d hs bs => exact regE_snd (h := .d hs bs) hc hk
    | a => exact regE_snd (h := .a) hc hk
    | s x y => exact regE_snd (h := .s x y) hc hk
    | u x => exact regE_snd (h := .u x) hc hk
    | z ts x => exact regE_snd (h := .z ts x) hc hk

/-! ### pieces and functions -/
theorem ai {a b : Prop} (x : a) (y : b) : a ∧ b := ⟨x, y⟩
theorem snd_in (m : List Nat) {x : Ex} {cd : Code} (hx : Snd c x cd) : Snd c (emaskIn (m, none) x) cd := snd_maskIn (fun _ h => by cases h) hx
theorem snd_inG (m : List Nat) {x : Ex} {cd : Code} (hx : Snd c x cd) : Snd c (emaskIn (m, some c.nb) x) cd := snd_maskIn (fun _ h => by cases h; rfl) hx
/-- A piece: out of the state what it needs (V) and what it passes on (C); what it does; how it ends. -/
def xOf {V C O : Type} (d : St → Option (V × C)) (f : V → Option O) (k : V → O → C → (R : Type) → (AExit → St → Option R) → Option R) : Ex := fun s R K => match d s with
  | some (v, H) => (f v).bind fun o => k v o H R K
  | none => none

theorem snd_sub {V C O : Type} {d : St → Option (V × C)} {t : V → C → St} {k : V → O → C → (R : Type) → (AExit → St → Option R) → Option R} {b : V → (R : Type) → (O → Option R) → Option R} {f : V → Option O}
    {m : AExit → List Nat × Option Nat} {cd : Code} (ht : HT) (hd : ∀ s v H, d s = some (v, H) → s = t v H)
    (heq : ∀ v H R K, emask m (comp c.P cd ht) (t v H) R K = b v R fun o => k v o H R K) (hnat : ∀ v R R' K J, (b v R K).bind J = b v R' fun o => (K o).bind J) (hf : ∀ v, f v = b v O some)
    (hm : ∀ e n, (m e).2 = some n → n = c.nb) {Q : Prop} (hc : chk c cd ht = true) (hq : HTK c cd ht True = Q) (hk : Q) : Snd c (xOf d f k) cd :=
  snd_of (x := emask m (comp c.P cd ht)) (fun s R K r h => by
    unfold xOf at h
    split at h
    · rename_i v H hds
      rw [hd s v H hds, heq]
      rw [hf, hnat] at h
      exact h
    · cases h) (snd_mask hm (comp_snd cd ht True hc (hq.symm ▸ hk)).1)

theorem loop_run {V C O : Type} {x : Ex} {t : V → C → St} {k : V → O → C → (R : Type) → (AExit → St → Option R) → Option R} {b : V → (R : Type) → (V → Option R) → (O → Option R) → Option R} {f : Nat → V → Option O}
    (heq : ∀ v H R K, x (t v H) R K = b v R (fun z => K .normal (t z H)) fun o => k v o H R K) (hnat : ∀ v R R' A K J, (b v R A K).bind J = b v R' (fun z => (A z).bind J) fun o => (K o).bind J)
    (h0 : ∀ v, f 0 v = none) (hs : ∀ m v, f (m + 1) v = b v O (f m) some)
    (hk : ∀ v o H (R : Type) (L : St → Option R) (K : AExit → St → Option R), k v o H R (fun e s => match e with | .normal => L s | e => K e s) = k v o H R K)
    (hi : ∀ v H (R : Type) (K : AExit → St → Option R) (F : V → (O → Option R) → Option R) G, b v R (fun z => F z fun o => k z o H R K) G = b v R (fun z => F z fun o => k v o H R K) G) :
    ∀ (n : Nat) (v : V) (H : C) (R : Type) (K : AExit → St → Option R), eloop x n (t v H) R K = (f n v).bind fun o => k v o H R K
  | 0, v, H, R, K => by rw [h0]; rfl
  | n + 1, v, H, R, K => by
    have ih := loop_run heq hnat h0 hs hk hi n
    rw [hs, hnat]
    simp only [eloop]
    rw [heq]
    have h1 : (fun z => eloop x n (t z H) R K) = fun z => (f n z).bind fun o => k z o H R K := funext fun z => ih z H R K
    have h2 : (fun o => k v o H R fun e s => match e with | .normal => eloop x n s R K | e => K e s) = fun o => (some o).bind fun o => k v o H R K := funext fun o => hk v o H R (fun s => eloop x n s R K) K
    refine (congrArg (fun A => b v R A _) h1).trans ((hi v H R K (fun z q => (f n z).bind q) _).trans ?_)
    exact congrArg (fun A => b v R _ A) h2
/-- A loop that goes so often at most, round by round. -/
theorem snd_unroll {cd : Code} (n : Nat) (ht : HT) {Q : Prop} (hc : chk c cd ht = true) (hq : HTK c cd ht True = Q) (hh : Q) : Snd c (eloop (comp c.P cd ht) n) (.loop cd) := snd_loop n (comp_snd cd ht True hc (hq.symm ▸ hh)).1
theorem snd_loop2 {V C O : Type} {d : St → Option (V × C)} {t : V → C → St} {k : V → O → C → (R : Type) → (AExit → St → Option R) → Option R} {b : V → (R : Type) → (V → Option R) → (O → Option R) → Option R} {f : Nat → V → Option O} {g : V → Option O}
    {m : AExit → List Nat × Option Nat} {cd : Code} (n : Nat) (ht : HT) (hd : ∀ s v H, d s = some (v, H) → s = t v H)
    (heq : ∀ v H R K, emask m (comp c.P cd ht) (t v H) R K = b v R (fun z => K .normal (t z H)) fun o => k v o H R K) (hnat : ∀ v R R' A K J, (b v R A K).bind J = b v R' (fun z => (A z).bind J) fun o => (K o).bind J)
    (h0 : ∀ v, f 0 v = none) (hs : ∀ m v, f (m + 1) v = b v O (f m) some) (hg : ∀ v, g v = f n v)
    (hk : ∀ v o H (R : Type) (L : St → Option R) (K : AExit → St → Option R), k v o H R (fun e s => match e with | .normal => L s | e => K e s) = k v o H R K)
    (hi : ∀ v H (R : Type) (K : AExit → St → Option R) (F : V → (O → Option R) → Option R) G, b v R (fun z => F z fun o => k z o H R K) G = b v R (fun z => F z fun o => k v o H R K) G)
    (hm : ∀ e n, (m e).2 = some n → n = c.nb) {Q : Prop} (hc : chk c cd ht = true) (hq : HTK c cd ht True = Q) (hh : Q) : Snd c (xOf d g k) (.loop cd) :=
  snd_of (x := eloop (emask m (comp c.P cd ht)) n) (fun s R K r h => by
    unfold xOf at h
    split at h
    · rename_i v H hds
      rw [hg] at h
      rw [hd s v H hds, loop_run heq hnat h0 hs hk hi n v H R K]
      exact h
    · cases h) (snd_loop n (snd_mask hm (comp_snd cd ht True hc (hq.symm ▸ hh)).1))

/-- A function's shadow: what it takes of arguments and objects; what it does; what it hands back. -/
def spOf {V O : Type} (d : List AV → List AObj → Option V) (f : V → Option O) (e : O → AV) (h : O → List AObj) : FSpec := fun vs hs R K => match d vs hs with
  | some v => (f v).bind fun o => K (e o) (h o)
  | none => none
theorem fsound_R {P : Program} {i : FuncId} {fn : Func} {cd : Code} {nb nt : Nat} {V O : Type} {d : List AV → List AObj → Option V} {t : V → St} {f : V → Option O} {b : V → (R : Type) → (O → Option R) → Option R} {e : O → AV} {h : O → List AObj} (ht : HT) {rs : List RV} {n : Option Nat}
    (hf : P.funcs[i]? = some fn) (hn : (fn.name == "runtime.NumGoroutine") = false) (hb : fn.body = some cd) (hnt : fn.ntmps = nt) (hres : fn.results = (rs.map RV.var).toArray) (hnn : ∀ m, n = some m → m = nb) (hnd : (RV.slots rs).Nodup) (hrv : rvOK P rs = true)
    (hd : ∀ vs hs v, d vs hs = some v → vs.length ≤ nt ∧ hs.length = nb ∧ (⟨argSlots 0 vs, hs⟩ : St) = t v)
    (heq : ∀ v R K, comp P cd ht (t v) R (fun x s => eres rs n x s K) = b v R fun o => K (e o) (h o)) (hnat : ∀ v R R' K J, (b v R K).bind J = b v R' fun o => (K o).bind J) (hfb : ∀ v, f v = b v O some)
    {Q : Prop} (hc : chk ⟨P, nb, nt⟩ cd ht = true) (hq : HTK ⟨P, nb, nt⟩ cd ht True = Q) (hh : Q) : FSound P i (spOf d f e h) :=
  fsound_of (ex := comp P cd ht) (n := n) hf hn hb hnt hres hnn hnd hrv (comp_snd (c := ⟨P, nb, nt⟩) cd ht True hc (hq.symm ▸ hh)).1 fun args H R k r hr => by
    unfold spOf at hr
    split at hr
    · rename_i v hv
      obtain ⟨h1, h2, h3⟩ := hd _ _ _ hv
      refine ⟨h1, h2, ?_⟩
      rw [h3, heq]
      rw [hfb, hnat] at hr
      exact hr
    · cases hr
/-- A round's shadow, out of its code. -/
theorem rsound_R {P : Program} {key nb nt : Nat} {ps sl : List Nat} {ca cb : Code} {V O : Type} {d : List AV → List AObj → Option V} {t : V → St} {f : V → Option O} {b : V → (R : Type) → (O → Option R) → Option R} {h : O → List AObj} (hta htb : HT) {n : Option Nat}
    (hm : loopMeta key = ⟨ps, ca, cb, sl, nt⟩) (hn : (ps ++ sl).Nodup) (hlt : ∀ t ∈ ps, t < nt) (hra : rfn ca = false) (hrb : rfn cb = false) (hnn : ∀ m, n = some m → m = nb)
    (hd : ∀ vs hs v, d vs hs = some v → vs.length = (ps ++ sl).length ∧ hs.length = nb ∧ (⟨(ps ++ sl).zip (disownL vs), hs⟩ : St) = t v)
    (heq : ∀ (v : V) (R : Type) (K : AV → List AObj → Option R), eseq (comp P ca hta) (comp P cb htb) (t v) R (fun e s => match e with | .normal => eres [] n .normal s fun _ h => K (.bool true) h | _ => none) = b v R fun o => K (.bool true) (h o)) (hnat : ∀ v R R' K J, (b v R K).bind J = b v R' fun o => (K o).bind J) (hfb : ∀ v, f v = b v O some)
    {Qa Qb : Prop} (hca : chk ⟨P, nb, nt⟩ ca hta = true) (hqa : HTK ⟨P, nb, nt⟩ ca hta True = Qa) (hha : Qa) (hcb : chk ⟨P, nb, nt⟩ cb htb = true) (hqb : HTK ⟨P, nb, nt⟩ cb htb True = Qb) (hhb : Qb) : RSound P key (spOf d f (fun _ => .bool true) h) := by
  have h1 : (loopMeta key).params = ps := by rw [hm]
  have h2 : (loopMeta key).assign = ca := by rw [hm]
  have h3 : (loopMeta key).body = cb := by rw [hm]
  have h4 : (loopMeta key).slots = sl := by rw [hm]
  have h5 : (loopMeta key).nt = nt := by rw [hm]
  refine rsound_of (nb := nb) (ea := comp P ca hta) (eb := comp P cb htb) (n := n) (by rw [h1, h4]; exact hn) (by rw [h1, h5]; exact hlt) (by rw [h2, h5]; exact (comp_snd (c := ⟨P, nb, nt⟩) ca hta True hca (hqa.symm ▸ hha)).1) (by rw [h3, h5]; exact (comp_snd (c := ⟨P, nb, nt⟩) cb htb True hcb (hqb.symm ▸ hhb)).1) (by rw [h2]; exact hra) (by rw [h3]; exact hrb) hnn fun args H R k r hr => ?_
  unfold spOf at hr
  rw [h1, h4]
  split at hr
  · rename_i v hv
    obtain ⟨k1, k2, k3⟩ := hd _ _ _ hv
    refine ⟨k1, k2, ?_⟩
    rw [k3]
    refine (heq v R k).trans ?_
    rw [hfb, hnat] at hr
    exact hr
  · cases hr
end Go.Sh

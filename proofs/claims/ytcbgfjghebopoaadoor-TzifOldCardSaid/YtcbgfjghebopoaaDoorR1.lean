/- An operation's shadow out of the operation itself: for each operation of the program's code its shadow is computed, and sound. -/
import Derived.Test.YtcbgfjghebopoaaDoorSZ
import Derived.Test.YtcbgfjghebopoaaDoorS1
import Derived.Test.YtcbgfjghebopoaaDoorRA
import Derived.Test.YtcbgfjghebopoaaDoorOB
namespace Go.Sh
open Go.RowKit
set_option linter.unusedSimpArgs false
set_option linter.unusedVariables false
variable {c : Cx} {o : Oper}

def deadOp : AOp := .extract 0 (.cst .undef)

theorem blt0 {m : Nat} (h : Nat.blt 0 m = true) : 0 < m := Nat.le_of_ble_eq_true h
/-! ### constants -/
/-- The types of a value's cells. -/
def leafTs (P : Program) : Nat → TypeId → List TypeId
  | 0, _ => []
  | n + 1, t => match P.underlying t with
    | some (.struct fs) => fs.toList.flatMap fun f => leafTs P n f.type
    | some (.array m e) => (List.replicate m (leafTs P n e)).flatten
    | _ => [t]
def nilA (P : Program) (own : Bool) (t : TypeId) : Option AV := match P.underlying t with
  | some (.slice e) => match P.underlying e with
    | some (.int k) => some (.ints own k [])
    | some .string => some (.strs own [])
    | _ => some (.sl own (P.cellsOf e) [])
  | _ => none
def cst1 (P : Program) (own : Bool) (t : TypeId) : Value → Option AV
  | .int k n => some (.int k n)
  | .bool b => some (.bool b)
  | .string s => some (.str s.data.toList)
  | .slice none 0 0 => nilA P own t
  | .pointer none => some (.ptr none)
  | .map none => some (.map none)
  | .nilFunc => some .nilFunc
  | .nilIface => some .nilIface
  | _ => none
def cstL (P : Program) (own : Bool) : List TypeId → List Value → Option (List AV)
  | t :: ts, v :: vs => (cst1 P own t v).bind fun a => (cstL P own ts vs).map (a :: ·)
  | [], [] => some []
  | _, _ => none
def cstA (P : Program) (own : Bool) (t : TypeId) : Value → Option AV
  | .agg vs => (cstL P own (leafTs P 8 t) vs.toList).map .agg
  | v => cst1 P own t v

theorem cst1_fit {P : Program} {own : Bool} {t : TypeId} {v : Value} {a : AV} (h : cst1 P own t v = some a) : fitC a v = true := by
  unfold cst1 at h
  split at h
  case h_4 =>
    unfold nilA at h
    split at h
    · split at h <;> (injection h with h; subst h; rfl)
    · cases h
  all_goals first | (injection h with h; subst h; simp [fitC]) | cases h
theorem cstL_fit {P : Program} {own : Bool} : ∀ {ts : List TypeId} {vs : List Value} {az : List AV}, cstL P own ts vs = some az → fitCs az vs = true
  | t :: ts, v :: vs, az, h => by
    simp only [cstL] at h
    obtain ⟨a, h1, h2⟩ := Option.bind_eq_some_iff.1 h
    obtain ⟨bs, h3, rfl⟩ := Option.map_eq_some_iff.1 h2
    simp [fitCs, cst1_fit h1, cstL_fit h3]
  | [], [], az, h => by simp only [cstL] at h; injection h with h; subst h; rfl
  | [], _ :: _, _, h => by simp [cstL] at h
  | _ :: _, [], _, h => by simp [cstL] at h
theorem cstA_fit {P : Program} {own : Bool} {t : TypeId} {v : Value} {a : AV} (h : cstA P own t v = some a) : fitC a v = true := by
  unfold cstA at h
  split at h
  · obtain ⟨bs, h1, rfl⟩ := Option.map_eq_some_iff.1 h
    simp [fitC, cstL_fit h1]
  · exact cst1_fit h

/-! ### operands -/
def axO (P : Program) (own : Bool) (tk : List Nat) (t : TypeId) : Operand → Option AX
  | .tmp n => some (match tk with
    | [] => .tmp n
    | u :: us => cond ((u :: us).contains n) (.take n) (.tmp n))
  | .const v => (cstA P own t v).map .cst
  | .func f => some (.cst (.func (.func f) [] []))
  | .global _ => none
theorem axO_fit {P : Program} {own : Bool} {tk : List Nat} {t : TypeId} {y : Operand} {x : AX} (h : axO P own tk t y = some x) : fitX x y = true ∧ (tk = [] → x.free = true) := by
  unfold axO at h
  split at h
  · injection h with h
    subst h
    cases tk with
    | nil => exact ⟨by simp [fitX], fun _ => rfl⟩
    | cons u us =>
      refine ⟨?_, fun h => by cases h⟩
      simp only
      cases (u :: us).contains _ <;> simp [fitX]
  · obtain ⟨a, h1, rfl⟩ := Option.map_eq_some_iff.1 h
    exact ⟨by simp [fitX, cstA_fit h1], fun _ => rfl⟩
  · injection h with h
    subst h
    exact ⟨by simp [fitX], fun _ => rfl⟩
  · cases h

def axK (P : Program) (own : Bool) (tk : List Nat) (t : TypeId) (y : Operand) (k : AX → AOp) : AOp := match axO P own tk t y with
  | some x => k x
  | none => deadOp
theorem axK_ok {P : Program} {own : Bool} {tk : List Nat} {t : TypeId} {y : Operand} {k : AX → AOp} (h : ∀ x, fitX x y = true → (tk = [] → x.free = true) → OpOK c (k x) o) : OpOK c (axK P own tk t y k) o := by
  unfold axK
  split
  · rename_i x hx
    exact h x (axO_fit hx).1 (axO_fit hx).2
  · exact ok_dead
def axoK (P : Program) : Option Operand → (Option AX → AOp) → AOp
  | none, k => k none
  | some y, k => axK P true [] 0 y fun x => k (some x)
theorem axoK_ok {P : Program} {y : Option Operand} {k : Option AX → AOp} (h : ∀ x, fitO x y = true → OpOK c (k x) o) : OpOK c (axoK P y k) o := by
  cases y with
  | none => exact h none rfl
  | some y => exact axK_ok fun x hx _ => h (some x) hx
def axsO (P : Program) (own : Bool) (tk : List Nat) : List TypeId → List Operand → Option (List AX)
  | t :: ts, y :: ys => (axO P own tk t y).bind fun x => (axsO P own tk ts ys).map (x :: ·)
  | _, [] => some []
  | [], _ :: _ => none
theorem axsO_fit {P : Program} {own : Bool} {tk : List Nat} : ∀ {ts : List TypeId} {ys : List Operand} {xs : List AX}, axsO P own tk ts ys = some xs → fitXs xs ys = true
  | t :: ts, y :: ys, xs, h => by
    simp only [axsO] at h
    obtain ⟨a, h1, h2⟩ := Option.bind_eq_some_iff.1 h
    obtain ⟨bs, h3, rfl⟩ := Option.map_eq_some_iff.1 h2
    simp [fitXs, (axO_fit h1).1, axsO_fit h3]
  | [], [], xs, h => by simp only [axsO] at h; injection h with h; subst h; rfl
  | _ :: _, [], xs, h => by simp only [axsO] at h; injection h with h; subst h; rfl
  | [], _ :: _, _, h => by simp [axsO] at h
def axsK (P : Program) (own : Bool) (tk : List Nat) (ts : List TypeId) (ys : List Operand) (k : List AX → AOp) : AOp := match axsO P own tk ts ys with
  | some xs => k xs
  | none => deadOp
theorem axsK_ok {P : Program} {own : Bool} {tk : List Nat} {ts : List TypeId} {ys : List Operand} {k : List AX → AOp} (h : ∀ xs, fitXs xs ys = true → OpOK c (k xs) o) : OpOK c (axsK P own tk ts ys k) o := by
  unfold axsK
  split
  · rename_i x hx
    exact h x (axsO_fit hx)
  · exact ok_dead

/-! ### types -/
def tyK (P : Program) (t : TypeId) (k : TypeDesc → AOp) : AOp := match P.underlying t with
  | some d => k d
  | none => deadOp
theorem tyK_ok {P : Program} {t : TypeId} {k : TypeDesc → AOp} (h : ∀ d, P.underlying t = some d → OpOK c (k d) o) : OpOK c (tyK P t k) o := by
  unfold tyK
  split
  · rename_i d hd
    exact h d hd
  · exact ok_dead
def tiK (P : Program) (t : TypeId) (k : TypeInfo → AOp) : AOp := match P.info? t with
  | some d => k d
  | none => deadOp
theorem tiK_ok {P : Program} {t : TypeId} {k : TypeInfo → AOp} (h : ∀ d, P.info? t = some d → OpOK c (k d) o) : OpOK c (tiK P t k) o := by
  unfold tiK
  split
  · rename_i d hd
    exact h d hd
  · exact ok_dead
def gd (b : Bool) (p : AOp) : AOp := cond b p deadOp
theorem gd_ok {b : Bool} {p : AOp} (h : b = true → OpOK c p o) : OpOK c (gd b p) o := by
  cases b
  · exact ok_dead
  · exact h rfl
def opK {α : Type} (x : Option α) (k : α → AOp) : AOp := match x with
  | some a => k a
  | none => deadOp
theorem opK_ok {α : Type} {x : Option α} {k : α → AOp} (h : ∀ a, x = some a → OpOK c (k a) o) : OpOK c (opK x k) o := by
  unfold opK
  split
  · exact h _ rfl
  · exact ok_dead

/-! ### operations -/
def binA (P : Program) (b : BinOp) (t : TypeId) (p q : Operand) (t' : TypeId) : AOp :=
  axK P true [] t p fun x => axK P true [] t' q fun y => tyK P t fun d => match d with
    | .bool => match b with
      | .eql => .eqB false x y
      | .neq => .eqB true x y
      | _ => deadOp
    | .struct fs => opK (eqTy P 8 t) fun sh => gd (!P.eqGuardType P.depth t) (match b with
      | .eql => .eqA false sh x y
      | .neq => .eqA true sh x y
      | _ => deadOp)
    | .interface ms => match q with
      | .const .nilIface => gd (P.isIface t) (match b with
        | .eql => .isNil false x
        | .neq => .isNil true x
        | _ => deadOp)
      | _ => deadOp
    | d => match q with
      | .const v0 => (match nilKd d v0 with
        | some kd => (match b with
          | .eql => .isNilP kd false x
          | .neq => .isNilP kd true x
          | _ => deadOp)
        | none => .bin b x y)
      | _ => .bin b x y
theorem binA_ok {b : BinOp} {t : TypeId} {p q : Operand} {t' : TypeId} (h : o.op = .binOp b t p q t') : OpOK c (binA c.P b t p q t') o := by
  refine axK_ok fun x hx _ => axK_ok fun y hy _ => tyK_ok fun d hd => ?_
  split
  · split
    · exact ok_eqB (neg := false) h hd hx hy
    · exact ok_eqB (neg := true) h hd hx hy
    · exact ok_dead
  · refine opK_ok fun sh hsh => gd_ok fun hg => ?_
    have hg' : c.P.eqGuardType c.P.depth t = false := by simpa using hg
    split
    · exact ok_eqA (neg := false) h hsh (by decide) hd rfl hg' hx hy
    · exact ok_eqA (neg := true) h hsh (by decide) hd rfl hg' hx hy
    · exact ok_dead
  · split
    · refine gd_ok fun hg => ?_
      split
      · exact ok_isNil (neg := false) h hg hx
      · exact ok_isNil (neg := true) h hg hx
      · exact ok_dead
    · exact ok_dead
  · split
    · split
      · rename_i hk
        split
        · exact ok_isNilP (neg := false) h hd hk hx
        · exact ok_isNilP (neg := true) h hd hk hx
        · exact ok_dead
      · exact ok_bin h hx hy
    · exact ok_bin h hx hy

def convA (P : Program) (tk : List Nat) (s d : TypeId) (p : Operand) : AOp :=
  axK P true tk s p fun x => tyK P s fun ds => tyK P d fun dd => match dd with
    | .int k => .conv k x
    | .string => match ds with
      | .string => .convS x
      | .slice e => tyK P e fun de => match de with
        | .int .u8 => .toStr x
        | _ => deadOp
      | .int _ => .rune x
      | _ => deadOp
    | .slice e => tyK P e fun de => match de with
      | .int .u8 => (match ds with
        | .slice _ => gd (Nat.beq s d) (.mark x)
        | _ => .toBytes x)
      | _ => deadOp
    | _ => deadOp
theorem convA_ok {tk : List Nat} {s d : TypeId} {p : Operand} (h : o.op = .convert s d p) : OpOK c (convA c.P tk s d p) o := by
  refine axK_ok fun x hx _ => tyK_ok fun ds hs => tyK_ok fun dd hd => ?_
  split
  · exact ok_conv h hs hd hx
  · split
    · exact ok_convS h hs hd hx
    · refine tyK_ok fun de he => ?_
      split
      · exact ok_toStr h hs he hd hx
      · exact ok_dead
    · exact ok_rune h hs hd hx
    · exact ok_dead
  · refine tyK_ok fun de he => ?_
    split
    · split
      · refine gd_ok fun hg => ?_
        have hg := Nat.eq_of_beq_eq_true hg
        subst hg
        exact ok_mark h hd he hx
      · exact ok_toBytes h hs hd he hx
    · exact ok_dead
  · exact ok_dead

def fieldAA (P : Program) (t : TypeId) (p : Operand) (j : Nat) : AOp :=
  axK P true [] t p fun x => tyK P t fun d => match d with
    | .struct fs => opK fs[j]? fun f => tiK P f.type fun i => gd (Nat.blt 0 i.size) (.fieldA f.offset x)
    | _ => deadOp
theorem fieldAA_ok {t : TypeId} {p : Operand} {j : Nat} (h : o.op = .fieldAddr t p j) : OpOK c (fieldAA c.P t p j) o := by
  refine axK_ok fun x hx _ => tyK_ok fun d hd => ?_
  split
  · refine opK_ok fun f hf => tiK_ok fun i hi => gd_ok fun h0 => ?_
    exact ok_fieldA (z := i.size) h hd hf rfl (by rw [hi]; rfl) (blt0 h0) hx
  · exact ok_dead
def fieldAB (P : Program) (t : TypeId) (p : Operand) (j : Nat) : AOp :=
  axK P true [] t p fun x => tyK P t fun d => match d with
    | .struct fs => opK fs[j]? fun f => tyK P f.type fun df => tiK P f.type fun i => gd (Nat.blt 0 i.size) (.field f.offset i.size (isAggD df) x)
    | _ => deadOp
theorem fieldAB_ok {t : TypeId} {p : Operand} {j : Nat} (h : o.op = .field t p j) : OpOK c (fieldAB c.P t p j) o := by
  refine axK_ok fun x hx hf0 => tyK_ok fun d hd => ?_
  split
  · refine opK_ok fun f hf => tyK_ok fun df hdf => tiK_ok fun i hi => gd_ok fun h0 => ?_
    exact ok_field h hd hf rfl hdf rfl (by rw [hi]; rfl) (blt0 h0) hx (hf0 rfl)
  · exact ok_dead

def loadA (P : Program) (tk : Bool) (t : TypeId) (p : Operand) : AOp :=
  axK P true [] t p fun x => tyK P t fun d => tiK P t fun i => match tk with
    | false => .load i.size (isAggD d) x
    | true => gd (Nat.blt 0 i.size) (.loadT i.size (isAggD d) x)
theorem loadA_ok {tk : Bool} {t : TypeId} {p : Operand} (h : o.op = .load t p) : OpOK c (loadA c.P tk t p) o := by
  refine axK_ok fun x hx _ => tyK_ok fun d hd => tiK_ok fun i hi => ?_
  cases tk with
  | false => exact ok_load h hd rfl (by rw [hi]; rfl) hx
  | true => exact gd_ok fun h0 => ok_loadT h hd rfl (by rw [hi]; rfl) (blt0 h0) hx
def storeA (P : Program) (own : Bool) (tk : List Nat) (t : TypeId) (p q : Operand) : AOp :=
  axK P true [] t p fun x => axK P own tk t q fun y => tiK P t fun i => .store i.size x y
theorem storeA_ok {own : Bool} {tk : List Nat} {t : TypeId} {p q : Operand} (h : o.op = .store t p q) : OpOK c (storeA c.P own tk t p q) o :=
  axK_ok fun x hx _ => axK_ok fun y hy _ => tiK_ok fun i hi => ok_store h (by rw [hi]; rfl) hx hy
def boxA (P : Program) (tk : List Nat) (t : TypeId) (p : Operand) : AOp :=
  axK P true tk t p fun x => tiK P t fun i => .box t i.size x
theorem boxA_ok {tk : List Nat} {t : TypeId} {p : Operand} (h : o.op = .box t p) : OpOK c (boxA c.P tk t p) o :=
  axK_ok fun x hx _ => tiK_ok fun i hi => ok_box h hx
def allocA (P : Program) (t : TypeId) : AOp :=
  opK ((P.info? t).bind (·.zero)) fun z => opK (cstL P true (leafTs P 8 t) z.cells.toList) fun l => .alloc t l
theorem allocA_ok {t : TypeId} (h : o.op = .alloc t) : OpOK c (allocA c.P t) o :=
  opK_ok fun z hz => opK_ok fun l hl => ok_alloc h hz (cstL_fit hl)

def bufA (P : Program) (t : TypeId) : AOp :=
  opK ((P.info? t).bind (·.zero)) fun z => gd (isBuf0 z.cells.toList) (.allocO (.buf 0 t []))
theorem bufA_ok {t : TypeId} (h : o.op = .alloc t) : OpOK c (bufA c.P t) o :=
  opK_ok fun z hz => gd_ok fun hg => ok_allocB h hz hg

/-- What a cell of this type is taken for. -/
def shT (P : Program) (t : TypeId) : Option SH := match P.underlying t with
  | some (.int k) => some (.int k)
  | some .bool => some .bool
  | some .string => some .str
  | some (.slice e) => match P.underlying e with
    | some (.int k) => some (.ints k)
    | some .string => some .strs
    | _ => some (.sl (P.cellsOf e))
  | _ => none
def shTs (P : Program) : List TypeId → Option (List SH)
  | [] => some []
  | t :: ts => (shT P t).bind fun s => (shTs P ts).map (s :: ·)

def loadCA (P : Program) (t : TypeId) (p : Operand) : AOp :=
  axK P true [] t p fun x => tyK P t fun d => tiK P t fun i => opK (shTs P (leafTs P 8 t)) fun sh => gd (Nat.blt 0 i.size && Nat.beq sh.length i.size) (.loadC sh i.size (isAggD d) x)
theorem loadCA_ok {t : TypeId} {p : Operand} (h : o.op = .load t p) : OpOK c (loadCA c.P t p) o := by
  refine axK_ok fun x hx _ => tyK_ok fun d hd => tiK_ok fun i hi => opK_ok fun sh hsh => gd_ok fun h0 => ?_
  rw [Bool.and_eq_true] at h0
  exact ok_loadC h hd rfl (by rw [hi]; rfl) (Nat.eq_of_beq_eq_true h0.2) (blt0 h0.1) hx
def indexA (P : Program) (t : TypeId) (p q : Operand) : AOp :=
  axK P true [] t p fun x => axK P true [] 0 q fun i => tyK P t fun d => match d with
    | .string => .idxS x i
    | .array m e => tyK P e fun de => gd (!isAggD de) (opK (shT P e) fun sh => gd ((P.info? e).map (·.size) == some 1) (.idxG m sh x i))
    | _ => deadOp
theorem indexA_ok {t : TypeId} {p q : Operand} (h : o.op = .index t p q) : OpOK c (indexA c.P t p q) o := by
  refine axK_ok fun x hx _ => axK_ok fun i hi _ => tyK_ok fun d hd => ?_
  split
  · exact ok_idxS h hd hx hi
  · refine tyK_ok fun de hde => gd_ok fun ha => opK_ok fun sh hsh => gd_ok fun hz => ?_
    exact ok_idxG h hd hde (by simpa using ha) (by simpa using hz) hx hi
  · exact ok_dead
def elemIS : TypeDesc → Bool
  | .int _ | .string | .pointer _ => true
  | _ => false
def indexAddrA (P : Program) (t : TypeId) (p q : Operand) : AOp :=
  axK P true [] t p fun x => axK P true [] 0 q fun i => tyK P t fun d => match d with
    | .array n e => tiK P e fun ie => .idxP ie.size n x i
    | .slice e => tyK P e fun de => tiK P e fun ie => gd (Nat.blt 0 ie.size) (match elemIS de with
      | true => .idxA ie.size x i
      | false => opK (shTs P (leafTs P 8 e)) fun sh => .idxT ie.size sh x i)
    | _ => deadOp
theorem indexAddrA_ok {t : TypeId} {p q : Operand} (h : o.op = .indexAddr t p q) : OpOK c (indexAddrA c.P t p q) o := by
  refine axK_ok fun x hx _ => axK_ok fun i hi _ => tyK_ok fun d hd => ?_
  split
  · exact tiK_ok fun ie hie => ok_idxP h hd (by rw [hie]; rfl) hx hi
  · refine tyK_ok fun de hde => tiK_ok fun ie hie => gd_ok fun h0 => ?_
    have h0' : 0 < ie.size := blt0 h0
    split
    · exact ok_idxA h hd (by rw [hie]; rfl) h0' hx hi
    · exact opK_ok fun sh hsh => ok_idxT h hd (by rw [hie]; rfl) h0' hx hi
  · exact ok_dead

def sliceA (P : Program) (t : TypeId) (p : Operand) (l h : Option Operand) : AOp :=
  axK P true [] t p fun x => axoK P l fun lo => axoK P h fun hi => tyK P t fun d => match d with
    | .string => .sliceS x lo hi
    | .slice e => tiK P e fun ie => gd (Nat.blt 0 ie.size) (.slice ie.size x lo hi)
    | _ => deadOp
theorem sliceA_ok {t : TypeId} {p : Operand} {l h : Option Operand} (ho : o.op = .slice t p l h none) : OpOK c (sliceA c.P t p l h) o := by
  refine axK_ok fun x hx _ => axoK_ok fun lo hl => axoK_ok fun hi hh => tyK_ok fun d hd => ?_
  split
  · exact ok_sliceS ho hd hx hl hh
  · exact tiK_ok fun ie hie => gd_ok fun h0 => ok_slice ho hd (by rw [hie]; rfl) (blt0 h0) hx hl hh
  · exact ok_dead

/-- Are these numbered from i on. -/
def numd {α : Type} : Nat → List (Nat × α) → Bool
  | _, [] => true
  | i, (j, _) :: l => Nat.beq i j && numd (i + 1) l
theorem numd_ok {α : Type} : ∀ {l : List (Nat × α)} {i : Nat}, numd i l = true → l = ((l.map (·.2)).zipIdx i).map fun x => (x.2, x.1)
  | [], _, _ => rfl
  | (j, a) :: l, i, h => by
    simp only [numd, Bool.and_eq_true] at h
    have h1 := Nat.eq_of_beq_eq_true h.1
    subst h1
    have h2 := numd_ok h.2
    simp only [List.map_cons, List.zipIdx_cons]
    rw [← h2]
def litA (P : Program) (t : TypeId) (n : Nat) (ps : List (Nat × Operand)) : AOp :=
  tyK P t fun d => match d with
    | .slice e => gd (Nat.beq n ps.length && numd 0 ps) (tyK P e fun de => tiK P e fun ie => opK ie.zero fun z => axsK P true [] (List.replicate ps.length e) (ps.map (·.2)) fun xs =>
      gd (Nat.blt 0 ie.size && Nat.ble (ps.length * ie.size) 16777216) (match de with
        | .int k => gd (Nat.beq ie.size 1) (.litI k xs)
        | .string => gd (Nat.beq ie.size 1) (.litS xs)
        | .pointer _ => gd (Nat.beq ie.size 1) (.litP e xs)
        | _ => .litC ie.size xs))
    | _ => deadOp
theorem litA_ok {t : TypeId} {n : Nat} {ps : Array (Nat × Operand)} (h : o.op = .buildSlice t n ps) : OpOK c (litA c.P t n ps.toList) o := by
  refine tyK_ok fun d hd => ?_
  split
  case h_2 => exact ok_dead
  rename_i e
  refine gd_ok fun hn => tyK_ok fun de hde => tiK_ok fun ie hie => opK_ok fun z hz => axsK_ok fun xs hxs => gd_ok fun hs => ?_
  simp only [Bool.and_eq_true] at hn hs
  have hn1 := Nat.eq_of_beq_eq_true hn.1
  have hn2 := numd_ok hn.2
  have hop : o.op = .buildSlice t (ps.toList.map (·.2)).length (idxd (ps.toList.map (·.2))).toArray := by
    rw [h]
    congr 1
    · simp [hn1]
    · apply Array.ext'
      simpa [idxd] using hn2
  have h0 : 0 < ie.size := blt0 hs.1
  have hle : (ps.toList.map (·.2)).length * ie.size ≤ 16777216 := by simpa using Nat.le_of_ble_eq_true hs.2
  have hzz : ∀ m, Nat.beq ie.size m = true → (c.P.info? e).map (fun i => (i.size, i.zero)) = some (m, some z) := fun m hm => by
    rw [hie, ← Nat.eq_of_beq_eq_true hm, ← hz]; rfl
  have hle1 : (ps.toList.map (·.2)).length ≤ 16777216 := Nat.le_trans (Nat.le_mul_of_pos_right _ h0) hle
  split
  · exact gd_ok fun h1 => ok_litI hop hd (hzz 1 h1) hle1 hxs
  · exact gd_ok fun h1 => ok_litS hop hd (hzz 1 h1) hle1 hxs
  · exact gd_ok fun h1 => ok_litP hop hd (hzz 1 h1) (by omega) hxs
  · exact ok_litC hop hd (hzz _ (Nat.beq_refl _)) h0 hle hxs

def sameO : Operand → Operand → Bool
  | .tmp a, .tmp b => Nat.beq a b
  | .const (.int k a), .const (.int l b) => decide (k = l) && decide (a = b)
  | _, _ => false
theorem sameO_ok {p q : Operand} (h : sameO p q = true) : p = q := by
  unfold sameO at h
  split at h
  · rw [Nat.eq_of_beq_eq_true h]
  · simp only [Bool.and_eq_true, decide_eq_true_eq] at h
    rw [h.1, h.2]
  · cases h
def makeA (P : Program) (t : TypeId) (p q : Operand) : AOp :=
  gd (sameO p q) (axK P true [] 0 p fun x => tyK P t fun d => match d with
    | .slice e => tiK P e fun ie => match ie.zero with
      | some (.int k z) => gd (decide (z = 0) && Nat.beq ie.size 1 && Nat.blt 0 ie.bytes) (.makeI k ie.bytes x)
      | _ => deadOp
    | _ => deadOp)
theorem makeA_ok {t : TypeId} {p q : Operand} (h : o.op = .makeSlice t p q) : OpOK c (makeA c.P t p q) o := by
  refine gd_ok fun hpq => axK_ok fun x hx _ => tyK_ok fun d hd => ?_
  have := sameO_ok hpq
  subst this
  split
  · refine tiK_ok fun ie hie => ?_
    split
    · rename_i k z hz
      refine gd_ok fun hg => ?_
      simp only [Bool.and_eq_true, decide_eq_true_eq] at hg
      obtain ⟨⟨rfl, h1⟩, h2⟩ := hg
      exact ok_makeI h hd (by rw [hie]; simp only [Option.map_some, Nat.eq_of_beq_eq_true h1, hz]) (blt0 h2) hx
    · exact ok_dead
  · exact ok_dead

/-- A build's parts. -/
def partsS (P : Program) (tk : List Nat) (fs : List Field) (pl : List (Nat × Nat)) : List (Nat × Operand) → Option (List (Nat × Nat × AX))
  | [] => some []
  | (i, p) :: qs => (pl[i]?).bind fun q => (fs[i]?).bind fun f => (axO P true tk f.type p).bind fun x => (partsS P tk fs pl qs).map ((q.1, q.2, x) :: ·)
theorem partsS_fit {P : Program} {tk : List Nat} {fs : List Field} {pl : List (Nat × Nat)} : ∀ {qs : List (Nat × Operand)} {ps : List (Nat × Nat × AX)}, partsS P tk fs pl qs = some ps → fitParts ps qs pl = true
  | [], ps, h => by simp only [partsS] at h; injection h with h; subst h; rfl
  | (i, p) :: qs, ps, h => by
    simp only [partsS] at h
    obtain ⟨q, h1, h2⟩ := Option.bind_eq_some_iff.1 h
    obtain ⟨f, h3, h4⟩ := Option.bind_eq_some_iff.1 h2
    obtain ⟨x, h5, h6⟩ := Option.bind_eq_some_iff.1 h4
    obtain ⟨r, h7, rfl⟩ := Option.map_eq_some_iff.1 h6
    simp [fitParts, h1, (axO_fit h5).1, partsS_fit h7]
def partsR (P : Program) (tk : List Nat) (e : TypeId) (z : Nat) : List (Nat × Operand) → Option (List (Nat × Nat × AX))
  | [] => some []
  | (i, p) :: qs => (axO P true tk e p).bind fun x => (partsR P tk e z qs).map ((i * z, z, x) :: ·)
theorem partsR_fit {P : Program} {tk : List Nat} {e : TypeId} {z : Nat} : ∀ {qs : List (Nat × Operand)} {ps : List (Nat × Nat × AX)}, partsR P tk e z qs = some ps → fitPartsA z ps qs = true
  | [], ps, h => by simp only [partsR] at h; injection h with h; subst h; rfl
  | (i, p) :: qs, ps, h => by
    simp only [partsR] at h
    obtain ⟨x, h5, h6⟩ := Option.bind_eq_some_iff.1 h
    obtain ⟨r, h7, rfl⟩ := Option.map_eq_some_iff.1 h6
    simp [fitPartsA, (axO_fit h5).1, partsR_fit h7]
def buildA (P : Program) (tk : List Nat) (t : TypeId) (qs : List (Nat × Operand)) : AOp :=
  tyK P t fun d => opK ((P.info? t).bind (·.zero)) fun z => opK (cstL P true (leafTs P 8 t) z.cells.toList) fun l => match d with
    | .struct fs => opK (placesOf P fs) fun pl => opK (partsS P tk fs.toList pl qs) fun ps => .build l ps
    | .array m e => tiK P e fun ie => opK (partsR P tk e ie.size qs) fun ps => .build l ps
    | _ => deadOp
theorem buildA_ok {tk : List Nat} {t : TypeId} {qs : Array (Nat × Operand)} (h : o.op = .build t qs) : OpOK c (buildA c.P tk t qs.toList) o := by
  have h' : o.op = .build t qs.toList.toArray := by rw [h]
  refine tyK_ok fun d hd => opK_ok fun z hz => opK_ok fun l hl => ?_
  split
  · exact opK_ok fun pl hpl => opK_ok fun ps hps => ok_build h' hd hz hpl (cstL_fit hl) (partsS_fit hps)
  · exact tiK_ok fun ie hie => opK_ok fun ps hps => ok_buildA h' hd hz (by rw [hie]; rfl) (cstL_fit hl) (partsR_fit hps)
  · exact ok_dead

def keyD? : TypeDesc → Option Bool
  | .int _ => some true
  | .string => some false
  | _ => none
theorem keyD?_ok {d : TypeDesc} {b : Bool} (h : keyD? d = some b) : keyT b d = true := by
  unfold keyD? at h
  split at h
  · injection h with h; subst h; rfl
  · injection h with h; subst h; rfl
  · cases h
def putA (P : Program) (t : TypeId) (m k v : Operand) : AOp :=
  tyK P t fun d => match d with
    | .map kt et => tyK P kt fun dk => opK (keyD? dk) fun b => axK P true [] t m fun x => axK P true [] kt k fun y => axK P true [] et v fun z => .mapPut b x y z
    | _ => deadOp
theorem putA_ok {t : TypeId} {m k v : Operand} (h : o.op = .insert t m k v ∨ o.op = .mapUpdate t m k v) : OpOK c (putA c.P t m k v) o := by
  refine tyK_ok fun d hd => ?_
  split
  · exact tyK_ok fun dk hk => opK_ok fun b hb => axK_ok fun x hx _ => axK_ok fun y hy _ => axK_ok fun z hz _ => ok_mapPut h hd hk (keyD?_ok hb) hx hy hz
  · exact ok_dead
def lookA (P : Program) (t : TypeId) (m k : Operand) (ok : Bool) : AOp :=
  tyK P t fun d => match d with
    | .map kt et => tyK P kt fun dk => opK (keyD? dk) fun b => opK ((P.info? et).bind (·.zero)) fun z => opK (cstA P true et z) fun zv => axK P true [] t m fun x => axK P true [] kt k fun y => .lookup b ok zv x y
    | _ => deadOp
theorem lookA_ok {t : TypeId} {m k : Operand} {ok : Bool} (h : o.op = .lookup t m k ok) : OpOK c (lookA c.P t m k ok) o := by
  refine tyK_ok fun d hd => ?_
  split
  · exact tyK_ok fun dk hk => opK_ok fun b hb => opK_ok fun z hz => opK_ok fun zv hzv => axK_ok fun x hx _ => axK_ok fun y hy _ => ok_lookup h hd hk (keyD?_ok hb) hz (cstA_fit hzv) hx hy
  · exact ok_dead

/-- What is told of an operation ahead: slots that are taken; a load that takes; the function's shadow; the shadow itself. -/
inductive HO where
  | no
  | tk (l : List Nat)
  | lt
  | lc
  | cl (f : FuncId) (sp : FSpec)
  | cy (key : Nat) (sp : FSpec)
  | bf (kind : Nat)
  | nl (sh : Option IntKind) (z : Nat)
  | an (l : List Nat)
  | ao
  | am (l : List Nat)
  | az (v : TypeId) (l : List Nat)
  | bb
  | nn
  | raw (p : AOp)
def HO.tks : HO → List Nat
  | .tk l => l
  | .an l => l
  | .am l => l
  | .az _ l => l
  | _ => []
def HO.own : HO → Bool
  | .nn => false
  | _ => true
def HO.isLt : HO → Bool
  | .lt => true
  | _ => false
def HO.OK (c : Cx) (o : Oper) : HO → Prop
  | .cl f sp => FSound c.P f sp
  | .cy key sp => RSound c.P key sp
  | .raw p => OpOK c p o
  | _ => True

def callA (P : Program) (h : HO) (cl : Call) : AOp := match cl.callee with
  | .builtin .len => match cl.args.toList, cl.argTypes.toList with
    | [p], [t] => axK P true [] t p fun x => tyK P t fun d => match d with
      | .slice _ => .len x
      | .string => .lenS x
      | _ => deadOp
    | _, _ => deadOp
  | .builtin .append => match cl.args.toList, cl.argTypes.toList with
    | [p, q], [t, u] => axK P true h.tks t p fun x => axK P true [] u q fun y => tyK P t fun d => match d with
      | .slice e => tiK P e fun ie => opK ie.zero fun z => gd (Nat.blt 0 ie.size && Nat.blt 0 ie.bytes && Nat.beq z.cells.size ie.size) (tyK P u fun du => match du with
        | .slice _ => (match h with
          | .an _ => .appendN ie.size ie.bytes x y
          | .ao => .appendO ie.size ie.bytes x y
          | .am _ => .appendM ie.size ie.bytes x y
          | _ => .append ie.size ie.bytes x y)
        | .string => gd (Nat.beq ie.size 1) (.appendS ie.bytes x y)
        | .int _ => (match h, z with
          | .az v _, .int .u8 0 => tyK P v fun dv => match dv with
            | .string => .appendZ ie.bytes x y
            | _ => deadOp
          | _, _ => deadOp)
        | _ => deadOp)
      | _ => deadOp
    | _, _ => deadOp
  | .builtin .max => match cl.args.toList with
    | [p, q] => axK P true [] (cl.argTypes.getD 0 0) p fun x => axK P true [] (cl.argTypes.getD 0 0) q fun y => .minmax true x y
    | _ => deadOp
  | .builtin .min => match cl.args.toList with
    | [p, q] => axK P true [] (cl.argTypes.getD 0 0) p fun x => axK P true [] (cl.argTypes.getD 0 0) q fun y => .minmax false x y
    | _ => deadOp
  | .value (.func f) => match h with
    | .cl g sp => gd (Nat.beq f g) (axsK P false [] cl.argTypes.toList cl.args.toList fun xs => .call sp g xs)
    | _ => deadOp
  | .value fv => match h with
    | .cl g sp => axK P true [] 0 fv fun x => axsK P false [] cl.argTypes.toList cl.args.toList fun xs => .callV sp g x xs
    | .cy key sp => gd (Nat.beq cl.args.toList.length (loopPars key).length) (axK P true [] 0 fv fun x => axsK P false [] cl.argTypes.toList cl.args.toList fun xs => .callY sp key x xs)
    | _ => deadOp
  | _ => deadOp
theorem arr_of {α : Type} {a : Array α} {l : List α} (h : a.toList = l) : a = l.toArray := by rw [← h]
theorem callA_ok {h : HO} {cl : Call} (ho : o.op = .call cl) (hh : h.OK c o) : OpOK c (callA c.P h cl) o := by
  unfold callA
  split
  · rename_i hc
    split
    · rename_i p t h1 h2
      refine axK_ok fun x hx _ => tyK_ok fun d hd => ?_
      split
      · exact ok_len ho hc (arr_of h1) (arr_of h2) hd hx
      · exact ok_lenS ho hc (arr_of h1) (arr_of h2) hd hx
      · exact ok_dead
    · exact ok_dead
  · rename_i hc
    split
    · rename_i p q t u h1 h2
      refine axK_ok fun x hx _ => axK_ok fun y hy hf => tyK_ok fun d hd => ?_
      split
      · refine tiK_ok fun ie hie => opK_ok fun z hz => gd_ok fun hg => tyK_ok fun du hdu => ?_
        simp only [Bool.and_eq_true] at hg
        obtain ⟨⟨g1, g2⟩, g3⟩ := hg
        have g1' : 0 < ie.size := blt0 g1
        have g2' : 0 < ie.bytes := blt0 g2
        have g3' := Nat.eq_of_beq_eq_true g3
        split
        · split
          · exact ok_appendN ho hc (arr_of h1) (arr_of h2) hd hdu (by rw [hie, ← hz]; rfl) g3' g1' g2' hx hy
          · exact ok_appendO ho hc (arr_of h1) (arr_of h2) hd hdu (by rw [hie, ← hz]; rfl) g3' g1' g2' hx hy
          · exact ok_appendM ho hc (arr_of h1) (arr_of h2) hd hdu (by rw [hie, ← hz]; rfl) g3' g1' g2' hx hy
          · exact ok_append ho hc (arr_of h1) (arr_of h2) hd hdu (by rw [hie, ← hz]; rfl) g3' g1' g2' hx hy (hf rfl)
        · refine gd_ok fun g4 => ?_
          have g4' := Nat.eq_of_beq_eq_true g4
          exact ok_appendS ho hc (arr_of h1) (arr_of h2) hd hdu (by rw [hie, ← hz, ← g4']; rfl) (by rw [g3', g4']) g2' hx hy
        · split
          · rename_i v l
            refine tyK_ok fun dv hdv => ?_
            split
            · have e1 : ie.size = 1 := by rw [← g3']; rfl
              exact ok_appendZ ho hc (arr_of h1) (arr_of h2) hd hdu hdv (by rw [hie]; simp only [Option.map_some]; rw [e1, hz]) g2' hx hy
            · exact ok_dead
          · exact ok_dead
        · exact ok_dead
      · exact ok_dead
    · exact ok_dead
  · rename_i hc
    split
    · rename_i p q h1
      exact axK_ok fun x hx _ => axK_ok fun y hy _ => ok_minmax (mx := true) ho hc (arr_of h1) hx hy
    · exact ok_dead
  · rename_i hc
    split
    · rename_i p q h1
      exact axK_ok fun x hx _ => axK_ok fun y hy _ => ok_minmax (mx := false) ho hc (arr_of h1) hx hy
    · exact ok_dead
  · rename_i f hc
    split
    · refine gd_ok fun hg => axsK_ok fun xs hxs => ?_
      have := Nat.eq_of_beq_eq_true hg
      subst this
      exact ok_call ho hc (by simp) hh hxs
    · exact ok_dead
  · rename_i fv _ hc
    split
    · exact axK_ok fun x hx hf => axsK_ok fun xs hxs => ok_callV ho hc (by simp) hh hx (hf rfl) hxs
    · refine gd_ok fun hg => axK_ok fun x hx hf => axsK_ok fun xs hxs => ?_
      exact ok_callY ho hc (by simp) hh (by rw [← loopPars_ok]; exact Nat.eq_of_beq_eq_true hg) hx hxs
    · exact ok_dead
  · exact ok_dead

def isNilC : Operand → Bool
  | .const (.slice none 0 0) => true
  | _ => false
theorem isNilC_ok {y : Operand} (h : isNilC y = true) : y = .const (.slice none 0 0) := by
  unfold isNilC at h
  split at h
  · rfl
  · cases h
def bufBuildA (P : Program) (t : TypeId) (qs : List (Nat × Operand)) : AOp := match qs with
  | [] => tyK P t fun d => match d with
    | .struct fs => opK ((P.info? t).bind (·.zero)) fun z => opK (placesOf P fs) fun pl => gd (isBuf1 z) .buildB
    | _ => deadOp
  | _ => deadOp
theorem bufBuildA_ok {t : TypeId} {qs : Array (Nat × Operand)} (h : o.op = .build t qs) : OpOK c (bufBuildA c.P t qs.toList) o := by
  unfold bufBuildA
  split
  · rename_i he
    have : qs = #[] := by apply Array.ext'; simpa using he
    subst this
    refine tyK_ok fun d hd => ?_
    split
    · exact opK_ok fun z hz => opK_ok fun pl hpl => gd_ok fun hg => ok_buildB h hd hz hpl hg
    · exact ok_dead
  · exact ok_dead
/-- The shadow of an operation. -/
def opA (P : Program) (h : HO) (o : Oper) : AOp := match h with
  | .raw p => p
  | h => match o.op with
    | .move y => (match h with | .nl sh z => gd (isNilC y) (.nilO sh z) | h => axK P h.own h.tks o.type y .mv)
    | .assign y => (match h with | .nl sh z => gd (isNilC y) (.nilO sh z) | h => axK P h.own h.tks o.type y .mv)
    | .nilCheck y => axK P true [] 0 y .chk
    | .pick a b e => axK P true [] 0 a fun x => axK P true [] o.type b fun y => axK P true [] o.type e fun z => .pick x y z
    | .binOp b t p q t' => binA P b t p q t'
    | .unOp b t p => axK P true [] t p fun x => .un b x
    | .convert s d p => convA P h.tks s d p
    | .extract y i => axK P true h.tks 0 y fun x => .extract i x
    | .fieldAddr t p j => fieldAA P t p j
    | .field t p j => fieldAB P t p j
    | .load t p => (match h with | .lc => loadCA P t p | _ => loadA P h.isLt t p)
    | .store t p q => storeA P h.own h.tks t p q
    | .box t p => (match h with | .bb => axK P true [] t p fun x => .boxB t x | h => boxA P h.tks t p)
    | .alloc t => (match h with | .bf _ => bufA P t | _ => allocA P t)
    | .index t p q => indexA P t p q
    | .indexAddr t p q => indexAddrA P t p q
    | .slice t p l u none => sliceA P t p l u
    | .buildSlice t n ps => litA P t n ps.toList
    | .makeSlice t p q => makeA P t p q
    | .build t ps => (match h with | .bb => bufBuildA P t ps.toList | h => buildA P h.tks t ps.toList)
    | .makeMap t none => .makeMap
    | .insert t m k v => putA P t m k v
    | .mapUpdate t m k v => putA P t m k v
    | .lookup t m k ok => lookA P t m k ok
    | .makeFunc fn fs cs => axsK P true [] (List.replicate fs.size 0) fs.toList fun ys => axsK P true [] (List.replicate cs.size 0) cs.toList fun xs => .mkFunc fn ys xs
    | .call cl => callA P h cl
    | _ => deadOp
theorem opA_ok {h : HO} (hh : h.OK c o) : OpOK c (opA c.P h o) o := by
  unfold opA
  split
  · exact hh
  · split
    · rename_i ho
      split
      · exact gd_ok fun hg => ok_nilO (.inl (by rw [ho, isNilC_ok hg]))
      · exact axK_ok fun x hx _ => ok_mv (.inl ho) hx
    · rename_i ho
      split
      · exact gd_ok fun hg => ok_nilO (.inr (by rw [ho, isNilC_ok hg]))
      · exact axK_ok fun x hx _ => ok_mv (.inr ho) hx
    · rename_i ho; exact axK_ok fun x hx _ => ok_chk ho hx
    · rename_i ho; exact axK_ok fun x hx _ => axK_ok fun y hy _ => axK_ok fun z hz _ => ok_pick ho hx hy hz
    · rename_i ho; exact binA_ok ho
    · rename_i ho; exact axK_ok fun x hx _ => ok_un ho hx
    · rename_i ho; exact convA_ok ho
    · rename_i ho; exact axK_ok fun x hx _ => ok_extract ho hx
    · rename_i ho; exact fieldAA_ok ho
    · rename_i ho; exact fieldAB_ok ho
    · rename_i ho
      split
      · exact loadCA_ok ho
      · exact loadA_ok ho
    · rename_i ho; exact storeA_ok ho
    · rename_i ho
      split
      · exact axK_ok fun x hx _ => ok_boxB ho hx
      · exact boxA_ok ho
    · rename_i ho
      split
      · exact bufA_ok ho
      · exact allocA_ok ho
    · rename_i ho; exact indexA_ok ho
    · rename_i ho; exact indexAddrA_ok ho
    · rename_i ho; exact sliceA_ok ho
    · rename_i ho; exact litA_ok ho
    · rename_i ho; exact makeA_ok ho
    · rename_i ho
      split
      · exact bufBuildA_ok ho
      · exact buildA_ok ho
    · rename_i ho; exact ok_makeMap ho
    · rename_i ho; exact putA_ok (.inl ho)
    · rename_i ho; exact putA_ok (.inr ho)
    · rename_i ho; exact lookA_ok ho
    · rename_i fn fs cs ho
      exact axsK_ok fun ys hys => axsK_ok fun xs hxs => ok_mkFunc (by simpa using ho) hys hxs
    · rename_i cl ho; exact callA_ok ho hh
    · exact ok_dead
end Go.Sh

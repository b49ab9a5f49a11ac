/- The shadow of a call: values without addresses for what stays as it is, and objects by number for what turns; what operations and code do to them, as plain functions. Nothing of memory, orders or capacities stands in it. -/
import Derived.Deep.LoopGhost
import Derived.Below
namespace Go
/-- Parts of code. -/
def Code.a1 : Code → Code
  | .seq x _ => x
  | .cond _ x _ => x
  | .block _ x => x
  | .loop x => x
  | x => x
def Code.a2 : Code → Code
  | .seq _ y => y
  | .cond _ _ y => y
  | x => x
/-- Of a range over a function: yield's slots, the assignments, the body. -/
def Code.rp : Code → List Nat
  | .rangeFunc _ ps _ _ => ps.toList
  | _ => []
def Code.ra : Code → Code
  | .rangeFunc _ _ x _ => x
  | x => x
def Code.rb : Code → Code
  | .rangeFunc _ _ _ x => x
  | x => x
end Go
namespace Go.Sh

abbrev Str := List UInt8

/-- A value's shadow. A slice bears its elements; 'own': it is the one that may be appended to. -/
inductive AV where
  | undef
  | int (k : IntKind) (n : Int)
  | bool (b : Bool)
  | str (s : Str)
  | ints (own : Bool) (k : IntKind) (l : List Int)
  | strs (own : Bool) (l : List Str)
  | sl (own : Bool) (sz : Nat) (els : List (List AV))
  | eptr (cs : List AV)
  | ptr (a : Option (Nat × Nat))
  | mut (id off len sz : Nat)
  | map (r : Option Nat)
  | yld (id : Nat)
  | mo (id m tot sz : Nat)
  | func (fn : Fn) (first captured : List AV)
  | nilFunc
  | nilIface
  | iface (t : TypeId) (v : AV)
  | agg (cs : List AV)
  | tuple (vs : List AV)

instance : Inhabited AV := ⟨.undef⟩

/-- An object: what may turn. -/
inductive AObj where
  | cells (t : TypeId) (cs : List AV)
  | map (es : List (AV × AV))
  | rowS (t : TypeId) (xs : List Str)
  | rowI (t : TypeId) (k : IntKind) (xs : List Int)
  | rowC (n : Nat) (els : List (List AV))
  | rowN (k : IntKind) (xs : List Int)
  | loop (key : Nat) (caps : List AV)
  | buf (kind : Nat) (t : TypeId) (l : List Int)
  | gone

/-- An object that stands for no block any more (or for none, as a row without elements). -/
def AObj.dead : AObj → Bool
  | .gone => true
  | .rowC _ [] => true
  | .rowN _ [] => true
  | _ => false
/-- A cell that holds neither rows nor objects. -/
def AV.plain : AV → Bool
  | .int _ _ | .bool _ | .str _ => true
  | _ => false
/-- What is known: of slots (of one that isn't named nothing), and the objects. -/
structure St where
  slots : List (Nat × AV)
  heap : List AObj

inductive AExit where
  | normal
  | exit (id : Nat)
  | ret

mutual
/-- The value without the right to append. -/
def disown : AV → AV
  | .ints _ k l => .ints false k l
  | .strs _ l => .strs false l
  | .sl _ sz els => .sl false sz els
  | .agg cs => .agg (disownL cs)
  | .tuple vs => .tuple (disownL vs)
  | .iface t v => .iface t (disown v)
  | .func f a b => .func f (disownL a) (disownL b)
  | v => v
def disownL : List AV → List AV
  | [] => []
  | v :: vs => disown v :: disownL vs
end

/-- A call's shadow: from the arguments and the objects to the result and the objects. -/
abbrev FSpec := List AV → List AObj → (R : Type) → (AV → List AObj → Option R) → Option R

/-- An operand: read (without the right to append), taken (with it), or a constant. -/
inductive AX where
  | tmp (t : Nat)
  | take (t : Nat)
  | cst (v : AV)

def getS : List (Nat × AV) → Nat → AV
  | [], _ => .undef
  | (u, v) :: l, t => cond (u == t) v (getS l t)
def St.get (s : St) (t : Nat) : AV := getS s.slots t
def St.put (s : St) (d : Option Nat) (v : AV) : St :=
  match d with
  | some d => ⟨(d, v) :: s.slots, s.heap⟩
  | none => s

def AX.ev (s : St) : AX → AV
  | .tmp t => disown (s.get t)
  | .take t => s.get t
  | .cst v => v
def AX.st (s : St) : AX → St
  | .take t => ⟨(t, disown (s.get t)) :: s.slots, s.heap⟩
  | _ => s
/-- What a test has told. -/
def St.know (s : St) (t : Nat) (b : Bool) : St := ⟨(t, .bool b) :: s.slots, s.heap⟩
def AX.know (s : St) (b : Bool) : AX → St
  | .tmp t => s.know t b
  | _ => s
def evs (s : St) : List AX → List AV
  | [] => []
  | x :: xs => x.ev s :: evs (x.st s) xs
def sts (s : St) : List AX → St
  | [] => s
  | x :: xs => sts (x.st s) xs

/-! ### what operators do -/
def binK (op : BinOp) (a b : AV) {R : Type} (k : AV → Option R) : Option R :=
  match a, b with
  | .int ka x, .int kb y =>
    match op with
    | .shl => cond (decide (y < 0)) none (k (.int ka (ka.wrap (x * 2 ^ (min y.toNat ka.bits)))))
    | .shr => cond (decide (y < 0)) none (k (.int ka (x.fdiv (2 ^ (min y.toNat ka.bits)))))
    | op =>
      cond (decide (ka = kb)) (match op with
        | .add => k (.int ka (ka.wrap (x + y)))
        | .sub => k (.int ka (ka.wrap (x - y)))
        | .mul => k (.int ka (ka.wrap (x * y)))
        | .quo => cond (y == 0) none (k (.int ka (ka.wrap (x.tdiv y))))
        | .rem => cond (y == 0) none (k (.int ka (x.tmod y)))
        | .and => k (.int ka (ka.wrap (BitVec.ofInt ka.bits x &&& BitVec.ofInt ka.bits y).toNat))
        | .or => k (.int ka (ka.wrap (BitVec.ofInt ka.bits x ||| BitVec.ofInt ka.bits y).toNat))
        | .xor => k (.int ka (ka.wrap (BitVec.ofInt ka.bits x ^^^ BitVec.ofInt ka.bits y).toNat))
        | .andNot => k (.int ka (ka.wrap (BitVec.ofInt ka.bits x &&& ~~~BitVec.ofInt ka.bits y).toNat))
        | .eql => k (.bool (x == y))
        | .neq => k (.bool (x != y))
        | .lss => k (.bool (decide (x < y)))
        | .leq => k (.bool (decide (x ≤ y)))
        | .gtr => k (.bool (decide (x > y)))
        | .geq => k (.bool (decide (x ≥ y)))
        | _ => none) none
  | .str x, .str y =>
    match op with
    | .add => cond (decide (x.length + y.length ≤ 9223372036854775807)) (k (.str (x ++ y))) none
    | .eql => k (.bool (x == y))
    | .neq => k (.bool (!(x == y)))
    | .lss => k (.bool (Op.bytesLess x y))
    | .leq => k (.bool (Op.bytesLess x y || (x == y)))
    | .gtr => k (.bool (!(Op.bytesLess x y || (x == y))))
    | .geq => k (.bool (!(Op.bytesLess x y)))
    | _ => none
  | _, _ => none

def unK (op : UnOp) (a : AV) {R : Type} (k : AV → Option R) : Option R :=
  match op, a with
  | .neg, .int ka x => k (.int ka (ka.wrap (0 - x)))
  | .not, .bool b => k (.bool (!b))
  | _, _ => none

/-- The bytes of a list of numbers. -/
def strOf (l : List Int) : Str := l.map fun n => UInt8.ofNat n.toNat
def intsOf (s : Str) : List Int := s.map fun b => (b.toNat : Int)

/-- Where a bound lies. -/
def boundK (i : AV) (top : Nat) {R : Type} (k : Nat → Option R) : Option R :=
  match i with
  | .int _ n => cond (decide (0 ≤ n)) (cond (decide (n ≤ (top : Int))) (k n.toNat) none) none
  | _ => none
def sliceK (len : Nat) (lo hi : Option AV) {R : Type} (k : Nat → Option Nat → Option R) : Option R :=
  match hi with
  | some h => boundK h len fun h' => match lo with
    | some l => boundK l h' fun l' => k l' (some h')
    | none => k 0 (some h')
  | none => match lo with
    | some l => boundK l len fun l' => k l' none
    | none => k 0 none
def cut {α : Type} (l : List α) (lo : Nat) (hi : Option Nat) : List α :=
  match hi with
  | some h => (l.take h).drop lo
  | none => l.drop lo

/-- May it stand in one cell. -/
def one : AV → Bool
  | .undef | .agg _ | .tuple _ => false
  | _ => true
def setCells (cs : List AV) (off : Nat) : List AV → List AV
  | [] => cs
  | v :: vs => setCells (cs.set off v) (off + 1) vs

def cellsOf : AV → List AV
  | .agg cs => cs
  | v => [v]

/-- n cells as one value. -/
def asK (aggr : Bool) (n : Nat) (cs : List AV) {R : Type} (k : AV → Option R) : Option R :=
  match aggr with
  | true => cond (decide (cs.length = n)) (k (.agg cs)) none
  | false => match cs with
    | v :: _ => k v
    | [] => none

def idxK {α : Type} (l : List α) (i : AV) {R : Type} (k : α → Option R) : Option R :=
  match i with
  | .int _ n => cond (decide (0 ≤ n)) ((l[n.toNat]?).bind k) none
  | _ => none

/-- What a cell of a row is taken for. -/
inductive SH where
  | int (k : IntKind)
  | bool
  | str
  | ints (k : IntKind)
  | strs
  | sl (n : Nat)
def unc (l : List AV) {R : Type} (k : AV → List AV → Option R) : Option R := match l with
  | c :: cs => k c cs
  | [] => none
def unn (l : List AV) {R : Type} (k : Option R) : Option R := match l with
  | [] => k
  | _ :: _ => none
def getI (kd : IntKind) (a : AV) {R : Type} (k : Int → Option R) : Option R := match a with
  | .int k' n => cond (decide (k' = kd)) (k n) none
  | _ => none
def getB (a : AV) {R : Type} (k : Bool → Option R) : Option R := match a with
  | .bool b => k b
  | _ => none
def getT (a : AV) {R : Type} (k : Str → Option R) : Option R := match a with
  | .str s => k s
  | _ => none
def getIs (kd : IntKind) (a : AV) {R : Type} (k : List Int → Option R) : Option R := match a with
  | .ints false k' l => cond (decide (k' = kd)) (k l) none
  | _ => none
def getTs (a : AV) {R : Type} (k : List Str → Option R) : Option R := match a with
  | .strs false l => k l
  | _ => none
def getSl (n : Nat) (a : AV) {R : Type} (k : List (List AV) → Option R) : Option R := match a with
  | .sl false m l => cond (Nat.beq m n) (k l) none
  | _ => none
def getK : SH → AV → {R : Type} → (AV → Option R) → Option R
  | .int kd, a, _, k => getI kd a fun n => k (.int kd n)
  | .bool, a, _, k => getB a fun b => k (.bool b)
  | .str, a, _, k => getT a fun s => k (.str s)
  | .ints kd, a, _, k => getIs kd a fun l => k (.ints false kd l)
  | .strs, a, _, k => getTs a fun l => k (.strs false l)
  | .sl n, a, _, k => getSl n a fun l => k (.sl false n l)
def shK : List SH → List AV → {R : Type} → (List AV → Option R) → Option R
  | [], cs, _, k => unn cs (k [])
  | s :: sh, cs, _, k => unc cs fun c r => getK s c fun a => shK sh r fun az => k (a :: az)
/-- Are they the same. -/
def eqK (a b : AV) {R : Type} (k : Bool → Option R) : Option R := match a, b with
  | .int ka x, .int kb y => cond (decide (ka = kb)) (k (x == y)) none
  | .bool x, .bool y => k (x == y)
  | .str x, .str y => k (x == y)
  | _, _ => none
def eqsK : List AV → List AV → {R : Type} → (Bool → Option R) → Option R
  | [], [], _, k => k true
  | a :: az, b :: bs, _, k => eqK a b fun p => eqsK az bs fun q => k (p && q)
  | _, _, _, _ => none
/-- One of so many. -/
def nthK : Nat → Nat → {R : Type} → (Nat → Option R) → Option R
  | 0, _, _, _ => none
  | n + 1, m, _, k => cond (Nat.beq m n) (k n) (nthK n m k)

/-- Is a pointer (0), a map (1), a function (2) nil. -/
def nilK : Nat → AV → Option Bool
  | 0, .ptr none => some true
  | 0, .ptr (some _) => some false
  | 0, .eptr _ => some false
  | 1, .map none => some true
  | 1, .map (some _) => some false
  | 2, .func _ _ _ => some false
  | 2, .nilFunc => some true
  | _, _ => none

inductive AOp where
  | mv (x : AX)
  | chk (x : AX)
  | pick (c a b : AX)
  | bin (op : BinOp) (x y : AX)
  | eqB (neg : Bool) (x y : AX)
  | un (op : UnOp) (x : AX)
  | conv (k : IntKind) (x : AX)
  | convS (x : AX)
  | rune (x : AX)
  | toBytes (x : AX)
  | toStr (x : AX)
  | fieldA (off : Nat) (x : AX)
  | field (off n : Nat) (aggr : Bool) (x : AX)
  | idxA (z : Nat) (x i : AX)
  | idxS (x i : AX)
  | idxT (z : Nat) (sh : List SH) (x i : AX)
  | idxG (m : Nat) (sh : SH) (x i : AX)
  | idxP (z n : Nat) (x i : AX)
  | eqA (neg : Bool) (sh : List SH) (x y : AX)
  | isNil (neg : Bool) (x : AX)
  | isNilP (kd : Nat) (neg : Bool) (x : AX)
  | mark (x : AX)
  | load (n : Nat) (aggr : Bool) (x : AX)
  | loadT (n : Nat) (aggr : Bool) (x : AX)
  | loadC (sh : List SH) (n : Nat) (aggr : Bool) (x : AX)
  | store (n : Nat) (x v : AX)
  | slice (z : Nat) (x : AX) (lo hi : Option AX)
  | sliceS (x : AX) (lo hi : Option AX)
  | litI (k : IntKind) (xs : List AX)
  | litS (xs : List AX)
  | litC (n : Nat) (xs : List AX)
  | litP (t : TypeId) (xs : List AX)
  | makeI (k : IntKind) (bytes : Nat) (n : AX)
  | build (zero : List AV) (parts : List (Nat × Nat × AX))
  | box (t : TypeId) (n : Nat) (x : AX)
  | alloc (t : TypeId) (zero : List AV)
  | allocO (ob : AObj)
  | len (x : AX)
  | lenS (x : AX)
  | append (z bytes : Nat) (x y : AX)
  | appendS (bytes : Nat) (x y : AX)
  | appendZ (bytes : Nat) (x y : AX)
  | nilO (sh : Option IntKind) (z : Nat)
  | buildB
  | boxB (t : TypeId) (x : AX)
  | appendN (z bytes : Nat) (x y : AX)
  | appendO (z bytes : Nat) (x y : AX)
  | appendM (z bytes : Nat) (x y : AX)
  | extract (i : Nat) (x : AX)
  | mkFunc (fn : Fn) (first captured : List AX)
  | minmax (mx : Bool) (x y : AX)
  | makeMap
  | mapPut (int : Bool) (m k v : AX)
  | lookup (int ok : Bool) (zero : AV) (m k : AX)
  | call (sp : FSpec) (f : FuncId) (args : List AX)
  | callV (sp : FSpec) (f : FuncId) (fv : AX) (args : List AX)
  | callY (sp : FSpec) (key : Nat) (fv : AX) (args : List AX)

/-- The numbers of a literal. -/
def intsK (kd : IntKind) : List AV → {R : Type} → (List Int → Option R) → Option R
  | [], _, k => k []
  | .int k' n :: vs, _, k => cond (decide (k' = kd)) (intsK kd vs fun l => k (n :: l)) none
  | _, _, _ => none
def strsK : List AV → {R : Type} → (List Str → Option R) → Option R
  | [], _, k => k []
  | .str s :: vs, _, k => strsK vs fun l => k (s :: l)
  | _, _, _ => none
def putParts (cs : List AV) : List (Nat × Nat) → List AV → Option (List AV)
  | (off, n) :: ps, v :: vs => cond (Nat.beq (cellsOf v).length n && (cellsOf v).all one && Nat.ble (off + n) cs.length) (putParts (setCells cs off (cellsOf v)) ps vs) none
  | [], [] => some cs
  | _, _ => none

mutual
/-- Pointers to objects by other numbers. -/
def ren (f : Nat → Option Nat) : AV → Option AV
  | .ptr (some (id, off)) => (f id).bind fun id' => some (.ptr (some (id', off)))
  | .agg cs => (renL f cs).bind fun cs' => some (.agg cs')
  | .tuple cs => (renL f cs).bind fun cs' => some (.tuple cs')
  | .func fn a b => (renL f a).bind fun a' => (renL f b).bind fun b' => some (.func fn a' b')
  | .iface t v => (ren f v).bind fun v' => some (.iface t v')
  | .mut id off m sz => (f id).bind fun id' => some (.mut id' off m sz)
  | .map (some id) => (f id).bind fun id' => some (.map (some id'))
  | .yld id => (f id).bind fun id' => some (.yld id')
  | .mo id m tot sz => (f id).bind fun id' => some (.mo id' m tot sz)
  | .sl own sz els => some (.sl own sz els)
  | .eptr cs => some (.eptr cs)
  | v => some v
def renL (f : Nat → Option Nat) : List AV → Option (List AV)
  | [] => some []
  | v :: vs => (ren f v).bind fun v' => (renL f vs).bind fun vs' => some (v' :: vs')
end
mutual
/-- No pointer to an object. -/
def noPtr : AV → Bool
  | .ptr (some _) => false
  | .agg cs => noPtrL cs
  | .tuple cs => noPtrL cs
  | .func _ a b => noPtrL a && noPtrL b
  | .iface _ v => noPtr v
  | .mut .. => false
  | .map (some _) => false
  | .yld _ => false
  | .mo .. => false
  | _ => true
def noPtrL : List AV → Bool
  | [] => true
  | v :: vs => noPtr v && noPtrL vs
end
/-- The objects that values lead to, each once. -/
def addId (id : Nat) (l : List Nat) : List Nat := cond (l.contains id) l (l ++ [id])
mutual
def idsV : AV → List Nat → List Nat
  | .ptr (some (id, _)), l => addId id l
  | .mut id _ _ _, l => addId id l
  | .map (some id), l => addId id l
  | .yld id, l => addId id l
  | .mo id _ _ _, l => addId id l
  | .agg cs, l => idsL cs l
  | .tuple cs, l => idsL cs l
  | .func _ a b, l => idsL b (idsL a l)
  | .iface _ v, l => idsV v l
  | _, l => l
def idsL : List AV → List Nat → List Nat
  | [], l => l
  | v :: vs, l => idsL vs (idsV v l)
end
def idsE : List (AV × AV) → List Nat → List Nat
  | [], l => l
  | (k, v) :: es, l => idsE es (idsV v (idsV k l))
def idsO : AObj → List Nat → List Nat
  | .cells _ cs, l => idsL cs l
  | .map es, l => idsE es l
  | .loop _ cs, l => idsL cs l
  | _, l => l
/-- The objects that these lead to, over others too. -/
def closeIds (h : List AObj) : Nat → Nat → List Nat → List Nat
  | 0, _, l => l
  | n + 1, p, l => match l[p]? with
    | some id => match h[id]? with
      | some o => closeIds h n (p + 1) (idsO o l)
      | none => closeIds h n (p + 1) l
    | none => l
/-- The objects that values lead to, behind the first so many. -/
def gcIds (nb : Nat) (vs : List AV) (h : List AObj) : List Nat := closeIds h 99 0 (idsL vs (List.range nb))
/-- Where a number stands. -/
def toPosGo (id : Nat) : List Nat → Nat → Option Nat
  | [], _ => none
  | j :: js, p => cond (j == id) (some p) (toPosGo id js (p + 1))
def toPos (ids : List Nat) (id : Nat) : Option Nat := toPosGo id ids 0
def renE (f : Nat → Option Nat) : List (AV × AV) → Option (List (AV × AV))
  | [] => some []
  | (k, v) :: es => (ren f k).bind fun k' => (ren f v).bind fun v' => (renE f es).bind fun es' => some ((k', v') :: es')
def renO (f : Nat → Option Nat) : AObj → Option AObj
  | .cells t cs => (renL f cs).bind fun cs' => some (.cells t cs')
  | .map es => (renE f es).bind fun es' => some (.map es')
  | .rowS t xs => some (.rowS t xs)
  | .rowI t k xs => some (.rowI t k xs)
  | .rowC n els => some (.rowC n els)
  | .rowN k xs => some (.rowN k xs)
  | .loop key cs => (renL f cs).bind fun cs' => some (.loop key cs')
  | .buf kd t l => some (.buf kd t l)
  | .gone => some .gone
def renOs (f : Nat → Option Nat) : List AObj → Option (List AObj)
  | [] => some []
  | o :: os => (renO f o).bind fun o' => (renOs f os).bind fun os' => some (o' :: os')
def pickObjs (f : Nat → Option Nat) (h : List AObj) : List Nat → Option (List AObj)
  | [] => some []
  | id :: ids => match h[id]? with
    | some o => (renO f o).bind fun o' => (pickObjs f h ids).bind fun os => some (o' :: os)
    | none => none
/-- The way back: what was handed on, and what is new. -/
def backPos (ids : List Nat) (h : List AObj) (p : Nat) : Option Nat := cond (Nat.blt p ids.length) (ids[p]?) (some (h.length + (p - ids.length)))
def addObjs (h : List AObj) : List AObj → List AObj
  | [] => h
  | o :: os => h ++ o :: os
def putObjs (h : List AObj) : List Nat → List AObj → List AObj
  | id :: ids, o :: os => putObjs (h.set id o) ids os
  | _, _ => h

/-- An entry of a map. -/
def findK (key : AV) {R : Type} : List (AV × AV) → Nat → (Nat → AV → Option R) → Option R → Option R
  | [], _, _, kn => kn
  | (k, v) :: es, i, kf, kn => match key, k with
    | .int k1 x, .int k2 y => cond (decide (k1 = k2)) (cond (x == y) (kf i v) (findK key es (i + 1) kf kn)) none
    | .str x, .str y => cond (x == y) (kf i v) (findK key es (i + 1) kf kn)
    | _, _ => none
/-- Is that key a number (or a string). -/
def keyI : Bool → AV → Bool
  | true, .int _ _ => true
  | false, .str _ => true
  | _, _ => false
def lookK (ok : Bool) (v : AV) (b : Bool) : AV := match ok with
  | true => .tuple [disown v, .bool b]
  | false => disown v

/-- Only the objects that values lead to (and the first so many) stay, by other numbers. -/
def gcV (nb : Nat) (vs : List AV) (h : List AObj) {R : Type} (k : List AV → List AObj → Option R) : Option R :=
  (renL (toPos (gcIds nb vs h)) vs).bind fun vs' => (pickObjs (toPos (gcIds nb vs h)) h (gcIds nb vs h)).bind fun hs => k vs' hs
/-- A call: the objects that the arguments lead to are handed on. -/
def callK (sp : FSpec) (az : List AV) (s : St) (R : Type) (k : AV → St → Option R) : Option R :=
  (renL (toPos (gcIds 0 az s.heap)) az).bind fun vs =>
  (pickObjs (toPos (gcIds 0 az s.heap)) s.heap (gcIds 0 az s.heap)).bind fun hs =>
  sp vs hs R fun v h =>
  (ren (backPos (gcIds 0 az s.heap) s.heap) v).bind fun v' => (renOs (backPos (gcIds 0 az s.heap) s.heap) h).bind fun h' =>
  k v' ⟨s.slots, addObjs (putObjs s.heap (gcIds 0 az s.heap) h') (h'.drop (gcIds 0 az s.heap).length)⟩

def plainR (n : Nat) (els : List (List AV)) : Bool := els.all fun e => Nat.beq e.length n && e.all AV.plain
def AOp.run : AOp → St → (R : Type) → (AV → St → Option R) → Option R
  | .mv x, s, _, k => k (x.ev s) (x.st s)
  | .chk x, s, _, k => match x.ev s with
    | .ptr (some p) => k (.ptr (some p)) (x.st s)
    | .eptr cs => k (.eptr cs) (x.st s)
    | .func (.func f) a b => k (.func (.func f) a b) (x.st s)
    | _ => none
  | .pick c a b, s, _, k => match c.ev s with
    | .bool t => cond t (k (disown (a.ev s)) (c.know s true)) (k (disown (b.ev s)) (c.know s false))
    | _ => none
  | .bin op x y, s, _, k => binK op (x.ev s) (y.ev s) fun v => k v s
  | .eqB neg x y, s, _, k => match x.ev s, y.ev s with
    | .bool a, .bool b => k (.bool (match neg with | true => !(a == b) | false => a == b)) s
    | _, _ => none
  | .un op x, s, _, k => unK op (x.ev s) fun v => k v s
  | .conv kd x, s, _, k => match x.ev s with
    | .int _ n => k (.int kd (kd.wrap n)) s
    | _ => none
  | .convS x, s, _, k => match x.ev s with
    | .str t => k (.str t) s
    | _ => none
  | .rune x, s, _, k => match x.ev s with
    | .int _ n => k (.str (Utf8.encode n).data.toList) s
    | _ => none
  | .toBytes x, s, _, k => match x.ev s with
    | .str t => k (.ints true .u8 (intsOf t)) s
    | _ => none
  | .toStr x, s, _, k => match x.ev s with
    | .ints _ .u8 l => k (.str (strOf l)) s
    | _ => none
  | .fieldA off x, s, _, k => match x.ev s with
    | .ptr (some (id, o)) => k (.ptr (some (id, o + off))) s
    | .eptr cs => cond (Nat.ble off cs.length) (k (.eptr (cs.drop off)) s) none
    | _ => none
  | .field off n aggr x, s, _, k => match x.ev s with
    | .agg cs => asK aggr n ((cs.drop off).take n) fun v => k v s
    | _ => none
  | .idxA z x i, s, _, k => match x.ev s with
    | .ints _ kd l => cond (z == 1) (idxK l (i.ev s) fun n => k (.eptr [.int kd n]) s) none
    | .strs _ l => cond (z == 1) (idxK l (i.ev s) fun n => k (.eptr [.str n]) s) none
    | .sl _ sz els => cond (z == sz) (idxK els (i.ev s) fun cs => k (.eptr cs) s) none
    | .mut id off m sz => match i.ev s with
      | .int _ n => cond (z == sz) (cond (decide (0 ≤ n)) (cond (decide (n < (m : Int))) (k (.ptr (some (id, off + n.toNat * sz))) s) none) none) none
      | _ => none
    | .mo id m _ sz => match i.ev s with
      | .int _ n => cond (z == sz) (cond (decide (0 ≤ n)) (cond (decide (n < (m : Int))) (k (.ptr (some (id, n.toNat * sz))) s) none) none) none
      | _ => none
    | _ => none
  | .idxT z sh x i, s, _, k => match x.ev s with
    | .sl _ sz els => cond (z == sz) (idxK els (i.ev s) fun cs => shK sh cs fun cs' => k (.eptr cs') s) none
    | .mut id off m sz => match i.ev s with
      | .int _ n => cond (z == sz) (cond (decide (0 ≤ n)) (cond (decide (n < (m : Int))) (k (.ptr (some (id, off + n.toNat * sz))) s) none) none) none
      | _ => none
    | .mo id m _ sz => match i.ev s with
      | .int _ n => cond (z == sz) (cond (decide (0 ≤ n)) (cond (decide (n < (m : Int))) (k (.ptr (some (id, n.toNat * sz))) s) none) none) none
      | _ => none
    | _ => none
  | .idxG m sh x i, s, _, k => match x.ev s with
    | .agg cs => cond (Nat.beq cs.length m) (idxK cs (i.ev s) fun c => getK sh c fun a => k a s) none
    | _ => none
  | .idxP z n x i, s, _, k => match x.ev s with
    | .ptr (some (id, off)) => match i.ev s with
      | .int _ m => cond (decide (0 ≤ m)) (nthK n m.toNat fun j => k (.ptr (some (id, off + j * z))) s) none
      | _ => none
    | _ => none
  | .eqA neg sh x y, s, _, k => match x.ev s, y.ev s with
    | .agg cs, .agg ds => shK sh cs fun cs => shK sh ds fun ds => eqsK cs ds fun b => k (.bool (match neg with | true => !b | false => b)) s
    | _, _ => none
  | .isNil neg x, s, _, k => match x.ev s with
    | .nilIface => k (.bool (match neg with | true => false | false => true)) s
    | .iface _ _ => k (.bool (match neg with | true => true | false => false)) s
    | _ => none
  | .mark x, s, _, k => match x.ev s with
    | .ints true .u8 (n :: l) => k (.ints true .u8 (n :: l)) (x.st s)
    | _ => none
  | .isNilP kd neg x, s, _, k => match nilK kd (x.ev s) with
    | some b => k (.bool (match neg with | true => !b | false => b)) s
    | none => none
  | .idxS x i, s, _, k => match x.ev s with
    | .str l => idxK l (i.ev s) fun b => k (.int .u8 (b.toNat : Int)) s
    | _ => none
  | .load n aggr x, s, _, k => match x.ev s with
    | .eptr cs => asK aggr n (cs.take n) fun v => k (disown v) s
    | .ptr (some (id, off)) => match s.heap[id]? with
      | some (.cells _ cs) => asK aggr n ((cs.drop off).take n) fun v => k (disown v) s
      | some (.rowS _ xs) => cond aggr none ((xs[off]?).bind fun y => k (.str y) s)
      | some (.rowI _ kd xs) => cond aggr none ((xs[off]?).bind fun y => k (.int kd y) s)
      | some (.rowN kd xs) => cond aggr none ((xs[off]?).bind fun y => k (.int kd y) s)
      | _ => none
    | _ => none
  | .loadC sh n aggr x, s, _, k => match x.ev s with
    | .ptr (some (id, off)) => match s.heap[id]? with
      | some (.rowC sz els) => (els[off / sz]?).bind fun e => shK sh ((e.drop (off % sz)).take n) fun cs => asK aggr n cs fun v => k v s
      | _ => none
    | _ => none
  | .loadT n aggr x, s, _, k => match x.ev s with
    | .ptr (some (id, off)) => match s.heap[id]? with
      | some (.cells t cs) => asK aggr n ((cs.drop off).take n) fun v => k v ⟨s.slots, s.heap.set id (.cells t (setCells cs off (disownL ((cs.drop off).take n))))⟩
      | _ => none
    | _ => none
  | .store n x v, s, _, k => match x.ev s with
    | .ptr (some (id, off)) => match s.heap[id]? with
      | some (.cells t cs) =>
        cond (decide ((cellsOf (v.ev s)).length = n ∧ off + n ≤ cs.length) && (cellsOf (v.ev s)).all one)
          (k .undef ⟨(v.st s).slots, s.heap.set id (.cells t (setCells cs off (cellsOf (v.ev s))))⟩) none
      | some (.rowS t xs) => match v.ev s with
        | .str y => cond (Nat.beq n 1) (cond (decide (off < xs.length)) (k .undef ⟨s.slots, s.heap.set id (.rowS t (xs.set off y))⟩) none) none
        | _ => none
      | some (.rowI t kd xs) => match v.ev s with
        | .int kv y => cond (Nat.beq n 1 && decide (kv = kd)) (cond (decide (off < xs.length)) (k .undef ⟨s.slots, s.heap.set id (.rowI t kd (xs.set off y))⟩) none) none
        | _ => none
      | some (.rowN kd xs) => match v.ev s with
        | .int kv y => cond (Nat.beq n 1 && decide (kv = kd)) (cond (decide (off < xs.length)) (k .undef ⟨s.slots, s.heap.set id (.rowN kd (xs.set off y))⟩) none) none
        | _ => none
      | some (.rowC sz els) => cond (Nat.beq n 1 && (v.ev s).plain) ((els[off / sz]?).bind fun e => cond (decide (off % sz < e.length)) (k .undef ⟨s.slots, s.heap.set id (.rowC sz (els.set (off / sz) (e.set (off % sz) (v.ev s))))⟩) none) none
      | _ => none
    | _ => none
  | .sliceS x lo hi, s, _, k => match x.ev s with
    | .str l => sliceK l.length (lo.map (·.ev s)) (hi.map (·.ev s)) fun a b => k (.str (cut l a b)) s
    | _ => none
  | .slice z x lo hi, s, _, k => match x.ev s with
    | .ints _ kd l => cond (z == 1) (sliceK l.length (lo.map (·.ev s)) (hi.map (·.ev s)) fun a b => k (.ints false kd (cut l a b)) s) none
    | .strs _ l => cond (z == 1) (sliceK l.length (lo.map (·.ev s)) (hi.map (·.ev s)) fun a b => k (.strs false (cut l a b)) s) none
    | .sl _ sz l => cond (z == sz) (sliceK l.length (lo.map (·.ev s)) (hi.map (·.ev s)) fun a b => k (.sl false sz (cut l a b)) s) none
    | .mo id m tot sz => cond (z == sz) (sliceK m (lo.map (·.ev s)) (hi.map (·.ev s)) fun a b => match lo with
      | none => cond (Nat.beq a 0) (k (.mo id (b.getD m) tot sz) s) none
      | some _ => k (.mut id (a * sz) (b.getD m - a) sz) s) none
    | .mut id off m sz => cond (z == sz) (sliceK m (lo.map (·.ev s)) (hi.map (·.ev s)) fun a b => k (.mut id (off + a * sz) (b.getD m - a) sz) s) none
    | _ => none
  | .litI kd xs, s, _, k => intsK kd (evs s xs) fun l => k (.ints true kd l) s
  | .litS xs, s, _, k => strsK (evs s xs) fun l => k (.strs true l) s
  | .litC n xs, s, _, k => cond ((evs s xs).all fun v => Nat.beq (cellsOf v).length n && (cellsOf v).all one && noPtrL (cellsOf v)) (k (.sl true n ((evs s xs).map fun v => cellsOf (disown v))) s) none
  | .litP t xs, s, _, k => cond ((evs s xs).all one) (k (.mut s.heap.length 0 xs.length 1) ⟨s.slots, s.heap ++ [.cells t (disownL (evs s xs))]⟩) none
  | .makeI kd bytes n, s, _, k => match n.ev s with
    | .int _ m => cond (decide (0 ≤ m)) (cond (decide (m * bytes ≤ 140737488355328)) (k (.ints true kd (List.replicate m.toNat 0)) s) none) none
    | _ => none
  | .build zero ps, s, _, k => (putParts zero (ps.map fun p => (p.1, p.2.1)) (evs s (ps.map fun p => p.2.2))).bind fun cs => k (.agg cs) (sts s (ps.map fun p => p.2.2))
  | .box t n x, s, _, k =>
    cond (decide ((cellsOf (x.ev s)).length = n) && (cellsOf (x.ev s)).all one) (k (.ptr (some (s.heap.length, 0))) ⟨(x.st s).slots, s.heap ++ [.cells t (cellsOf (x.ev s))]⟩) none
  | .alloc t zero, s, _, k => k (.ptr (some (s.heap.length, 0))) ⟨s.slots, s.heap ++ [.cells t zero]⟩
  | .allocO ob, s, _, k => k (.ptr (some (s.heap.length, 0))) ⟨s.slots, s.heap ++ [ob]⟩
  | .lenS x, s, _, k => match x.ev s with
    | .str l => k (.int .i64 (l.length : Int)) s
    | _ => none
  | .len x, s, _, k => match x.ev s with
    | .ints _ _ l => k (.int .i64 (l.length : Int)) s
    | .strs _ l => k (.int .i64 (l.length : Int)) s
    | .sl _ _ l => k (.int .i64 (l.length : Int)) s
    | .mut _ _ m _ => k (.int .i64 (m : Int)) s
    | .mo _ m _ _ => k (.int .i64 (m : Int)) s
    | _ => none
  | .append z bytes x y, s, _, k => match x.ev s, y.ev (x.st s) with
    | .ints true kd l, .ints _ km m => cond (z == 1 && decide (kd = km)) (cond (decide ((l.length + m.length) * bytes ≤ 140737488355328)) (k (.ints true kd (l ++ m)) (x.st s)) none) none
    | .strs true l, .strs _ m => cond (z == 1) (cond (decide ((l.length + m.length) * bytes ≤ 140737488355328)) (k (.strs true (l ++ m)) (x.st s)) none) none
    | .sl true sz l, .sl _ sm m => cond (z == sz && z == sm) (cond (decide ((l.length + m.length) * bytes ≤ 140737488355328)) (k (.sl true sz (l ++ m)) (x.st s)) none) none
    | _, _ => none
  | .appendZ bytes x y, s, _, k => match x.ev s, y.ev (x.st s) with
    | .ints true .u8 l, .int _ m => cond (decide (0 ≤ m)) (cond (decide ((l.length + m.toNat) * bytes ≤ 140737488355328)) (k (.ints true .u8 (l ++ List.replicate m.toNat 0)) (x.st s)) none) none
    | _, _ => none
  | .appendS bytes x y, s, _, k => match x.ev s, y.ev (x.st s) with
    | .ints true .u8 l, .str m => cond (decide ((l.length + m.length) * bytes ≤ 140737488355328)) (k (.ints true .u8 (l ++ intsOf m)) (x.st s)) none
    | _, _ => none
  | .nilO sh z, s, _, k => match sh with
    | some kd => cond (z == 1) (k (.mo s.heap.length 0 0 1) ⟨s.slots, s.heap ++ [.rowN kd []]⟩) none
    | none => k (.mo s.heap.length 0 0 z) ⟨s.slots, s.heap ++ [.rowC z []]⟩
  | .buildB, s, _, k => k (.agg [.mo s.heap.length 0 0 1, .int .i64 0, .int .i8 0]) ⟨s.slots, s.heap ++ [.rowN .u8 []]⟩
  | .boxB t x, s, _, k => match x.ev s with
    | .agg [.mo _ 0 0 1, .int .i64 0, .int .i8 0] => k (.ptr (some (s.heap.length, 0))) ⟨s.slots, s.heap ++ [.buf 1 t []]⟩
    | _ => none
  | .appendN z bytes x y, s, _, k => match x.ev s, y.ev (x.st s) with
    | .ints true kd l, .ints _ km m => cond (z == 1 && decide (kd = km) && l.isEmpty && !m.isEmpty) (cond (decide (m.length * bytes ≤ 140737488355328)) (k (.mo s.heap.length m.length m.length 1) ⟨(x.st s).slots, s.heap ++ [.rowN kd m]⟩) none) none
    | .sl true sz l, .sl _ sm m => cond (z == sz && z == sm && l.isEmpty && !m.isEmpty) (cond (plainR sz m && decide (m.length * bytes ≤ 140737488355328)) (k (.mo s.heap.length m.length m.length sz) ⟨(x.st s).slots, s.heap ++ [.rowC sz m]⟩) none) none
    | _, _ => none
  | .appendO z bytes x y, s, _, k => match x.ev s with
    | .mo id a tot sz => match s.heap[id]? with
      | some (.rowN kd xs) => match y.ev s with
        | .ints _ km m => cond (z == 1 && z == sz && decide (kd = km)) (cond (decide (tot = xs.length) && decide (0 < a + m.length) && decide ((a + m.length) * bytes ≤ 140737488355328)) (k (.mo s.heap.length (a + m.length) (a + m.length) 1) ⟨s.slots, s.heap.set id .gone ++ [.rowN kd (xs.take a ++ m)]⟩) none) none
        | _ => none
      | some (.rowC sc els) => match y.ev s with
        | .sl _ sm m => cond (z == sz && z == sc && z == sm) (cond (decide (tot = els.length) && decide (0 < a + m.length) && plainR z m && decide ((a + m.length) * bytes ≤ 140737488355328)) (k (.mo s.heap.length (a + m.length) (a + m.length) z) ⟨s.slots, s.heap.set id .gone ++ [.rowC z (els.take a ++ m)]⟩) none) none
        | _ => none
      | _ => none
    | _ => none
  | .appendM z bytes x y, s, _, k => match y.ev s with
    | .mut id off m sm => match s.heap[id]? with
      | some (.rowN kd xs) => match x.ev s with
        | .ints true km l => cond (z == 1 && decide (kd = km) && decide (off + m ≤ xs.length)) (cond (decide ((l.length + m) * bytes ≤ 140737488355328)) (k (.ints true kd (l ++ (xs.drop off).take m)) (x.st s)) none) none
        | _ => none
      | some (.rowC sc els) => match x.ev s with
        | .sl true sz l => cond (z == sz && z == sc && z == sm && decide (off / sc * sc = off) && decide (off / sc + m ≤ els.length)) (cond (decide ((l.length + m) * bytes ≤ 140737488355328)) (k (.sl true sz (l ++ (els.drop (off / sc)).take m)) (x.st s)) none) none
        | _ => none
      | _ => none
    | _ => none
  | .extract i x, s, _, k => match x.ev s with
    | .tuple vs => match vs[i]? with
      | some v => k v (x.st s)
      | none => none
    | _ => none
  | .mkFunc fn fs cs, s, _, k => k (.func fn (disownL (evs s fs)) (disownL (evs s cs))) s
  | .minmax mx x y, s, _, k => match x.ev s, y.ev s with
    | .int kd a, .int _ b => match mx with
      | true => k (.int kd (if a < b then b else a)) s
      | false => k (.int kd (if b < a then b else a)) s
    | _, _ => none
  | .makeMap, s, _, k => k (.map (some s.heap.length)) ⟨s.slots, s.heap ++ [.map []]⟩
  | .mapPut int m key v, s, _, k => match m.ev s with
    | .map (some id) => match s.heap[id]? with
      | some (.map es) => cond (keyI int (key.ev s)) (findK (key.ev s) es 0 (fun i _ => k .undef ⟨s.slots, s.heap.set id (.map (es.set i (key.ev s, disown (v.ev s))))⟩)
          (k .undef ⟨s.slots, s.heap.set id (.map (es ++ [(key.ev s, disown (v.ev s))]))⟩)) none
      | _ => none
    | _ => none
  | .lookup int ok zero m key, s, _, k => match m.ev s with
    | .map none => cond (keyI int (key.ev s)) (k (lookK ok zero false) s) none
    | .map (some id) => match s.heap[id]? with
      | some (.map es) => cond (keyI int (key.ev s)) (findK (key.ev s) es 0 (fun _ v => k (lookK ok v true) s) (k (lookK ok zero false) s)) none
      | _ => none
    | _ => none
  | .call sp _ args, s, R, k => callK sp (evs s args) (sts s args) R k
  | .callV sp f fv args, s, R, k => match fv.ev s with
    | .func (.func f') first caps => cond (Nat.beq f' f) (callK sp (first ++ (evs s args ++ caps)) (sts s args) R k) none
    | _ => none
  | .callY sp key fv args, s, R, k => match fv.ev s with
    | .yld id => match s.heap[id]? with
      | some (.loop key' caps) => cond (Nat.beq key' key && !(gcIds 0 (evs s args ++ caps) s.heap).contains id) (callK sp (evs s args ++ caps) (sts s args) R k) none
      | _ => none
    | _ => none

structure AOper where
  dst : Option Nat
  op : AOp
  guard : Option (Nat × Bool)

def runOps : List AOper → St → (R : Type) → (St → Option R) → Option R
  | [], s, _, k => k s
  | o :: os, s, R, k =>
    match o.guard with
    | none => o.op.run s R fun v s' => runOps os (s'.put o.dst v) R k
    | some (t, want) => match s.get t with
      | .bool b => match want with
        | true => cond b (o.op.run (s.know t true) R fun v s' => runOps os (s'.put o.dst v) R k) (runOps os ((s.know t false).put o.dst (.tuple [])) R k)
        | false => cond b (runOps os ((s.know t true).put o.dst (.tuple [])) R k) (o.op.run (s.know t false) R fun v s' => runOps os (s'.put o.dst v) R k)
      | .tuple [] => runOps os (s.put o.dst (.tuple [])) R k
      | _ => none

mutual
/-- No pointer to an object from number n on. -/
def below (n : Nat) : AV → Bool
  | .ptr (some (id, _)) => decide (id < n)
  | .agg cs => belowL n cs
  | .tuple cs => belowL n cs
  | .func _ a b => belowL n a && belowL n b
  | .iface _ v => below n v
  | .mut id _ _ _ => decide (id < n)
  | .map (some id) => decide (id < n)
  | .yld id => decide (id < n)
  | .mo id _ _ _ => decide (id < n)
  | _ => true
def belowL (n : Nat) : List AV → Bool
  | [] => true
  | v :: vs => below n v && belowL n vs
end
/-! ### regions whose order is drawn -/
def AX.takes : AX → List Nat
  | .take t => [t]
  | _ => []
def takesL : List AX → List Nat
  | [] => []
  | x :: xs => x.takes ++ takesL xs
/-- The slots that give up their rows. -/
def AOp.takes : AOp → List Nat
  | .mv x | .chk x | .extract _ x | .box _ _ x | .mark x => x.takes
  | .store _ _ v => v.takes
  | .append _ _ x _ | .appendS _ x _ | .appendZ _ x _ | .appendN _ _ x _ | .appendM _ _ x _ => x.takes
  | .build _ ps => takesL (ps.map fun p => p.2.2)
  | .call _ _ xs => takesL xs
  | .callV _ _ _ xs => takesL xs
  | .callY _ _ _ xs => takesL xs
  | _ => []
/-- It leaves the objects alone. -/
def AOp.still : AOp → Bool
  | .nilO .. | .buildB | .boxB .. | .appendN .. | .appendO .. | .loadT .. | .litP .. | .store .. | .box .. | .alloc .. | .allocO .. | .call .. | .callV .. | .callY .. | .makeMap | .mapPut .. => false
  | _ => true
/-- How much of the objects an operation is shown. -/
inductive OB where
  | no | look | all
  | part (ids : List Nat)
  | peek (rs : List Nat)
/-- The other objects as objects that are used no more. -/
def hideX (rs : List Nat) : Nat → List AObj → List AObj
  | _, [] => []
  | k, o :: H => (bif rs.contains k then o else .gone) :: hideX rs (k + 1) H
def backTo (ids : List Nat) (p : Nat) : Option Nat := ids[p]?
/-- An operation, the slots that it is shown, the objects that it is shown. -/
structure DOper where
  op : AOper
  rd : List Nat
  ob : OB
def DOper.wr (d : DOper) : List Nat := match d.op.dst with
  | some t => t :: d.op.op.takes
  | none => d.op.op.takes
def DOper.loc (d : DOper) (s : St) : St := ⟨d.rd.map fun t => (t, s.get t), match d.ob with | .no => [] | .peek rs => hideX rs 0 s.heap | _ => s.heap⟩
def DOper.upd (d : DOper) (s l : St) : St := ⟨(d.rd ++ d.wr).map (fun t => (t, l.get t)) ++ s.slots, match d.ob with | .all => l.heap | _ => s.heap⟩
def DOper.fine (d : DOper) (l : St) : Bool := match d.ob with
  | .no => belowL 0 ((d.rd ++ d.wr).map l.get)
  | .look => d.op.op.still
  | .peek _ => d.op.op.still
  | _ => true
def DOper.pre (d : DOper) (s : St) : Bool := match d.ob with
  | .no => belowL 0 (d.rd.map s.get)
  | _ => true
def runD : List DOper → St → (R : Type) → (St → Option R) → Option R
  | [], s, _, k => k s
  | d :: ds, s, R, k => match d.ob with
    | .part ids => (renL (toPos ids) (d.rd.map s.get)).bind fun vs => (pickObjs (toPos ids) s.heap ids).bind fun hs =>
      runOps [d.op] ⟨d.rd.zip vs, hs⟩ R fun l => (renL (backTo ids) (d.wr.map l.get)).bind fun us => (renOs (backTo ids) l.heap).bind fun hs' =>
        cond (Nat.beq l.heap.length ids.length) (runD ds ⟨d.wr.zip us ++ s.slots, match d.op.op.still with | true => s.heap | false => putObjs s.heap ids hs'⟩ R k) none
    | _ => cond (d.pre s) (runOps [d.op] (d.loc s) R fun l => cond (d.fine l) (runD ds (d.upd s l) R k) none) none

/-- What code does. -/
abbrev Ex := St → (R : Type) → (AExit → St → Option R) → Option R

def eskip : Ex := fun s _ k => k .normal s
def eret : Ex := fun s _ k => k .ret s
def eexit (id : Nat) : Ex := fun s _ k => k (.exit id) s
def eregion (ops : List AOper) : Ex := fun s R k => runOps ops s R fun s' => k .normal s'
def edrawn (ds : List DOper) : Ex := fun s R k => runD ds s R fun s' => k .normal s'
def eseq (x y : Ex) : Ex := fun s R k => x s R fun e s' => match e with
  | .normal => y s' R k
  | e => k e s'
/-- An object that was a row becomes a row again. -/
def frzS (t : Nat) (s : St) {R : Type} (k : St → Option R) : Option R := match s.get t with
  | .mo id m tot sz => match s.heap[id]? with
    | some (.rowN kd xs) => cond (sz == 1 && decide (tot = xs.length)) (k ⟨(t, .ints true kd (xs.take m)) :: s.slots, s.heap.set id .gone⟩) none
    | some (.rowC sc els) => cond (sz == sc && decide (tot = els.length)) (k ⟨(t, .sl true sc (els.take m)) :: s.slots, s.heap.set id .gone⟩) none
    | _ => none
  | _ => none
def efrz (t : Nat) (x : Ex) : Ex := fun s R k => frzS t s fun s' => x s' R k
def econd (c : AX) (x y : Ex) : Ex := fun s R k => match c.ev s with
  | .bool b => cond b (x (c.know s true) R k) (y (c.know s false) R k)
  | _ => none
def eblock (id : Nat) (x : Ex) : Ex := fun s R k => x s R fun e s' => match e with
  | .exit i => match i == id with
    | true => k .normal s'
    | false => k (.exit i) s'
  | e => k e s'
def eloop (x : Ex) : Nat → Ex
  | 0 => fun _ _ _ => none
  | n + 1 => fun s R k => x s R fun e s' => match e with
    | .normal => eloop x n s' R k
    | e => k e s'

/-- A range over a function: its record is an object while it goes on. -/
def erange (key : Nat) (ts : List Nat) (sp : FSpec) (f : FuncId) (x : AX) : Ex := fun s R k => match x.ev s with
  | .func (.func f') [] caps => cond (Nat.beq f' f)
    (callK sp (.yld s.heap.length :: caps) ⟨s.slots, s.heap ++ [.loop key (disownL (ts.map s.get))]⟩ R fun _ s' => match s'.heap[s.heap.length]? with
      | some (.loop _ _) => k .normal ⟨s'.slots, s'.heap.set s.heap.length .gone⟩
      | _ => none) none
  | _ => none
/-- What is known of a range over a function: yield's slots, the assignments, the body, the slots that the body needs, how many there are. -/
structure LMeta where
  params : List Nat
  assign : Code
  body : Code
  slots : List Nat
  nt : Nat

def tagOf : AV → Nat
  | .undef => 0 | .int .. => 1 | .bool .. => 2 | .str .. => 3 | .ints true .. => 4 | .ints false .. => 5 | .strs true .. => 6 | .strs false .. => 7
  | .sl true .. => 8 | .sl false .. => 9 | .eptr .. => 10 | .ptr none => 11 | .ptr (some _) => 12 | .mut .. => 13 | .map none => 14 | .map (some _) => 15
  | .yld _ => 22 | .mo .. => 23 | .func .. => 16 | .nilFunc => 17 | .nilIface => 18 | .iface .. => 19 | .agg .. => 20 | .tuple .. => 21
/-- One of two, by what a slot holds (or by how many objects there are). -/
def ealt (i : Option Nat) (c : Nat) (x y : Ex) : Ex := fun s R k => match i with
  | none => cond (Nat.beq s.heap.length c) (x s R k) (y s R k)
  | some t => cond (Nat.beq (tagOf (s.get t)) c) (x s R k) (y s R k)

/-- Only these slots (and, where a number is told, only the objects that they lead to, and the first so many) stay. -/
def St.drop (m : List Nat × Option Nat) (s : St) {R : Type} (k : St → Option R) : Option R :=
  match m.2 with
  | none => k ⟨m.1.map fun t => (t, s.get t), s.heap⟩
  | some n => gcV n (m.1.map s.get) s.heap fun vs hs => k ⟨m.1.zip vs, hs⟩
def emaskIn (m : List Nat × Option Nat) (x : Ex) : Ex := fun s R k => s.drop m fun s' => x s' R k
def emask (m : AExit → List Nat × Option Nat) (x : Ex) : Ex := fun s R k => x s R fun e s' => s'.drop (m e) fun s2 => k e s2

/-- A result: a slot, or what stands at an address that a slot holds (its type, how many cells, is it a struct or an array). -/
inductive RV where
  | tmp (t : Nat)
  | cell (t ty n : Nat) (aggr : Bool)
def resG (s : St) : List RV → {R : Type} → (List AV → Option R) → Option R
  | [], _, k => k []
  | .tmp t :: rs, _, k => resG s rs fun vs => k (s.get t :: vs)
  | .cell t _ n ag :: rs, _, k => match s.get t with
    | .ptr (some (id, off)) => match s.heap[id]? with
      | some (.cells _ cs) => asK ag n ((cs.drop off).take n) fun v => resG s rs fun vs => k (disown v :: vs)
      | _ => none
    | _ => none
def one1 : List AV → AV
  | [v] => v
  | vs => .tuple vs
/-- What a function hands back: its results, and the objects (where a number is told: those that the results and the first so many lead to). -/
def eres (rs : List RV) (n : Option Nat) (e : AExit) (s : St) {R : Type} (k : AV → List AObj → Option R) : Option R :=
  match e with
  | .exit _ => none
  | _ => resG s rs fun vs => match n with
    | none => k (one1 vs) s.heap
    | some n => gcV n vs s.heap fun vs' hs => k (one1 vs') hs

end Go.Sh

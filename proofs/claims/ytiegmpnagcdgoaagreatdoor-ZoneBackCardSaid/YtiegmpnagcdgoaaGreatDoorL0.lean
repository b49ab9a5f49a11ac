/- Texts of this session, joined and cut to what one statement needs, under short names. -/
import Derived.Deep.LoopGhost
import Derived.Below
import Derived.Lib.ItoaNum
import Derived.Test.YtiegmpnagcdgoaaGreatDoorProg
import Derived.MapKept
import Derived.CallsIn
import Derived.ControlIn
import Derived.AtR
import Derived.Lib.Strings
import Derived.Laws.Cells
import Derived.Laws.Slices
import Derived.Laws.Strings
import Derived.Laws.BytesString
import Derived.Laws.BytesArg
import Derived.Laws.Small
import Derived.Laws.AppendOwn
import Derived.IntWalk
import Derived.Lib.AppendStr
import Derived.Laws.MakeOwn
import Derived.Lib.ConvBytes
import Derived.Great.BuildSlice
namespace Go
def Code.a1 : Code → Code
 | .seq x _ => x
 | .cond _ x _ => x
 | .block _ x => x
 | .loop x => x
 | x => x
def Code.a2 : Code → Code
 | .seq _ y => y
 | .cond _ _ y => y
 | x => x
def Code.rp : Code → List Nat
 | .rangeFunc _ ps _ _ => ps.toList
 | _ => []
def Code.ra : Code → Code
 | .rangeFunc _ _ x _ => x
 | x => x
def Code.rb : Code → Code
 | .rangeFunc _ _ _ x => x
 | x => x
end Go
namespace Go.Sh
abbrev Str := List UInt8
inductive AV where
 | undef
 | int (k : IntKind) (n : Int)
 | bool (b : Bool)
 | str (s : Str)
 | ints (own : Bool) (k : IntKind) (l : List Int)
 | strs (own : Bool) (l : List Str)
 | sl (own : Bool) (sz : Nat) (els : List (List AV))
 | eptr (cs : List AV)
 | ptr (a : Option (Nat × Nat))
 | mut (id off len sz : Nat)
 | map (r : Option Nat)
 | yld (id : Nat)
 | mo (id m tot sz : Nat)
 | func (fn : Fn) (first captured : List AV)
 | nilFunc
 | nilIface
 | iface (t : TypeId) (v : AV)
 | agg (cs : List AV)
 | tuple (vs : List AV)
instance : Inhabited AV := ⟨.undef⟩
inductive AObj where
 | cells (t : TypeId) (cs : List AV)
 | map (es : List (AV × AV))
 | mapI (es : List (Int × Int))
 | rowS (t : TypeId) (xs : List Str)
 | rowI (t : TypeId) (k : IntKind) (xs : List Int)
 | rowC (n : Nat) (els : List (List AV))
 | rowN (k : IntKind) (xs : List Int)
 | loop (key : Nat) (caps : List AV)
 | buf (kind : Nat) (t : TypeId) (l : List Int)
 | gone
def AObj.dead : AObj → Bool
 | .gone => true
 | .rowC _ [] => true
 | .rowN _ [] => true
 | _ => false
def AV.plain : AV → Bool
 | .int _ _ | .bool _ | .str _ => true
 | _ => false
structure St where
 slots : List (Nat × AV)
 heap : List AObj
inductive AExit where
 | normal
 | exit (id : Nat)
 | ret
mutual
def disown : AV → AV
 | .ints _ k l => .ints false k l
 | .strs _ l => .strs false l
 | .sl _ sz els => .sl false sz els
 | .agg cs => .agg (disownL cs)
 | .tuple vs => .tuple (disownL vs)
 | .iface t v => .iface t (disown v)
 | .func f a b => .func f (disownL a) (disownL b)
 | v => v
def disownL : List AV → List AV
 | [] => []
 | v :: vs => disown v :: disownL vs
end
abbrev FSpec := List AV → List AObj → (R : Type) → (AV → List AObj → Option R) → Option R
inductive AX where
 | tmp (t : Nat)
 | take (t : Nat)
 | cst (v : AV)
def NJ : List (Nat × AV) → Nat → AV
 | [], _ => .undef
 | (u, v) :: l, t => cond (u == t) v (NJ l t)
def St.get (s : St) (t : Nat) : AV := NJ s.slots t
def St.put (s : St) (d : Option Nat) (v : AV) : St :=
 match d with
 | some d => ⟨(d, v) :: s.slots, s.heap⟩
 | none => s
def AX.ev (s : St) : AX → AV
 | .tmp t => disown (s.get t)
 | .take t => s.get t
 | .cst v => v
def AX.st (s : St) : AX → St
 | .take t => ⟨(t, disown (s.get t)) :: s.slots, s.heap⟩
 | _ => s
def St.know (s : St) (t : Nat) (b : Bool) : St := ⟨(t, .bool b) :: s.slots, s.heap⟩
def AX.know (s : St) (b : Bool) : AX → St
 | .tmp t => s.know t b
 | _ => s
def evs (s : St) : List AX → List AV
 | [] => []
 | x :: xs => x.ev s :: evs (x.st s) xs
def sts (s : St) : List AX → St
 | [] => s
 | x :: xs => sts (x.st s) xs
def Z9 (op : BinOp) (a b : AV) {R : Type} (k : AV → Option R) : Option R :=
 match a, b with
 | .int ka x, .int kb y =>
  match op with
  | .shl => cond (decide (y < 0)) none (k (.int ka (ka.wrap (x * 2 ^ (min y.toNat ka.bits)))))
  | .shr => cond (decide (y < 0)) none (k (.int ka (x.fdiv (2 ^ (min y.toNat ka.bits)))))
  | op =>
   cond (decide (ka = kb)) (match op with
    | .add => k (.int ka (ka.wrap (x + y)))
    | .sub => k (.int ka (ka.wrap (x - y)))
    | .mul => k (.int ka (ka.wrap (x * y)))
    | .quo => cond (y == 0) none (k (.int ka (ka.wrap (x.tdiv y))))
    | .rem => cond (y == 0) none (k (.int ka (x.tmod y)))
    | .and => k (.int ka (ka.wrap (BitVec.ofInt ka.bits x &&& BitVec.ofInt ka.bits y).toNat))
    | .or => k (.int ka (ka.wrap (BitVec.ofInt ka.bits x ||| BitVec.ofInt ka.bits y).toNat))
    | .xor => k (.int ka (ka.wrap (BitVec.ofInt ka.bits x ^^^ BitVec.ofInt ka.bits y).toNat))
    | .andNot => k (.int ka (ka.wrap (BitVec.ofInt ka.bits x &&& ~~~BitVec.ofInt ka.bits y).toNat))
    | .eql => k (.bool (x == y))
    | .neq => k (.bool (x != y))
    | .lss => k (.bool (decide (x < y)))
    | .leq => k (.bool (decide (x ≤ y)))
    | .gtr => k (.bool (decide (x > y)))
    | .geq => k (.bool (decide (x ≥ y)))
    | _ => none) none
 | .str x, .str y =>
  match op with
  | .add => cond (decide (x.length + y.length ≤ 9223372036854775807)) (k (.str (x ++ y))) none
  | .eql => k (.bool (x == y))
  | .neq => k (.bool (!(x == y)))
  | .lss => k (.bool (Op.bytesLess x y))
  | .leq => k (.bool (Op.bytesLess x y || (x == y)))
  | .gtr => k (.bool (!(Op.bytesLess x y || (x == y))))
  | .geq => k (.bool (!(Op.bytesLess x y)))
  | _ => none
 | _, _ => none
def unK (op : UnOp) (a : AV) {R : Type} (k : AV → Option R) : Option R :=
 match op, a with
 | .neg, .int ka x => k (.int ka (ka.wrap (0 - x)))
 | .not, .bool b => k (.bool (!b))
 | _, _ => none
def aaa (l : List Int) : Str := l.map fun n => UInt8.ofNat n.toNat
def nD (s : Str) : List Int := s.map fun b => (b.toNat : Int)
def NK (i : AV) (top : Nat) {R : Type} (k : Nat → Option R) : Option R :=
 match i with
 | .int _ n => cond (decide (0 ≤ n)) (cond (decide (n ≤ (top : Int))) (k n.toNat) none) none
 | _ => none
def Ir (len : Nat) (lo hi : Option AV) {R : Type} (k : Nat → Option Nat → Option R) : Option R :=
 match hi with
 | some h => NK h len fun h' => match lo with
  | some l => NK l h' fun l' => k l' (some h')
  | none => k 0 (some h')
 | none => match lo with
  | some l => NK l len fun l' => k l' none
  | none => k 0 none
def cut {α : Type} (l : List α) (lo : Nat) (hi : Option Nat) : List α :=
 match hi with
 | some h => (l.take h).drop lo
 | none => l.drop lo
def one : AV → Bool
 | .undef | .agg _ | .tuple _ => false
 | _ => true
def setCells (cs : List AV) (off : Nat) : List AV → List AV
 | [] => cs
 | v :: vs => setCells (cs.set off v) (off + 1) vs
def cellsOf : AV → List AV
 | .agg cs => cs
 | v => [v]
def asK (aggr : Bool) (n : Nat) (cs : List AV) {R : Type} (k : AV → Option R) : Option R :=
 match aggr with
 | true => cond (decide (cs.length = n)) (k (.agg cs)) none
 | false => match cs with
  | v :: _ => k v
  | [] => none
def NL {α : Type} (l : List α) (i : AV) {R : Type} (k : α → Option R) : Option R :=
 match i with
 | .int _ n => cond (decide (0 ≤ n)) ((l[n.toNat]?).bind k) none
 | _ => none
inductive SH where
 | int (k : IntKind)
 | bool
 | str
 | ints (k : IntKind)
 | strs
 | sl (n : Nat)
def unc (l : List AV) {R : Type} (k : AV → List AV → Option R) : Option R := match l with
 | c :: cs => k c cs
 | [] => none
def unn (l : List AV) {R : Type} (k : Option R) : Option R := match l with
 | [] => k
 | _ :: _ => none
def xn (kd : IntKind) (a : AV) {R : Type} (k : Int → Option R) : Option R := match a with
 | .int k' n => cond (decide (k' = kd)) (k n) none
 | _ => none
def zf (a : AV) {R : Type} (k : Bool → Option R) : Option R := match a with
 | .bool b => k b
 | _ => none
def zg (a : AV) {R : Type} (k : Str → Option R) : Option R := match a with
 | .str s => k s
 | _ => none
def NM (kd : IntKind) (a : AV) {R : Type} (k : List Int → Option R) : Option R := match a with
 | .ints false k' l => cond (decide (k' = kd)) (k l) none
 | _ => none
def NN (a : AV) {R : Type} (k : List Str → Option R) : Option R := match a with
 | .strs false l => k l
 | _ => none
def NP (n : Nat) (a : AV) {R : Type} (k : List (List AV) → Option R) : Option R := match a with
 | .sl false m l => cond (Nat.beq m n) (k l) none
 | _ => none
def Vx : SH → AV → {R : Type} → (AV → Option R) → Option R
 | .int kd, a, _, k => xn kd a fun n => k (.int kd n)
 | .bool, a, _, k => zf a fun b => k (.bool b)
 | .str, a, _, k => zg a fun s => k (.str s)
 | .ints kd, a, _, k => NM kd a fun l => k (.ints false kd l)
 | .strs, a, _, k => NN a fun l => k (.strs false l)
 | .sl n, a, _, k => NP n a fun l => k (.sl false n l)
def shK : List SH → List AV → {R : Type} → (List AV → Option R) → Option R
 | [], cs, _, k => unn cs (k [])
 | s :: sh, cs, _, k => unc cs fun c r => Vx s c fun a => shK sh r fun az => k (a :: az)
def eqK (a b : AV) {R : Type} (k : Bool → Option R) : Option R := match a, b with
 | .int ka x, .int kb y => cond (decide (ka = kb)) (k (x == y)) none
 | .bool x, .bool y => k (x == y)
 | .str x, .str y => k (x == y)
 | _, _ => none
def Ki : List AV → List AV → {R : Type} → (Bool → Option R) → Option R
 | [], [], _, k => k true
 | a :: az, b :: bs, _, k => eqK a b fun p => Ki az bs fun q => k (p && q)
 | _, _, _, _ => none
def YS : Nat → Nat → {R : Type} → (Nat → Option R) → Option R
 | 0, _, _, _ => none
 | n + 1, m, _, k => cond (Nat.beq m n) (k n) (YS n m k)
def aaI : Nat → AV → Option Bool
 | 0, .ptr none => some true
 | 0, .ptr (some _) => some false
 | 0, .eptr _ => some false
 | 1, .map none => some true
 | 1, .map (some _) => some false
 | 2, .func _ _ _ => some false
 | 2, .nilFunc => some true
 | _, _ => none
inductive AOp where
 | mv (x : AX)
 | chk (x : AX)
 | pick (c a b : AX)
 | bin (op : BinOp) (x y : AX)
 | eqB (neg : Bool) (x y : AX)
 | un (op : UnOp) (x : AX)
 | conv (k : IntKind) (x : AX)
 | convS (x : AX)
 | rune (x : AX)
 | toBytes (x : AX)
 | toStr (x : AX)
 | fieldA (off : Nat) (x : AX)
 | field (off n : Nat) (aggr : Bool) (x : AX)
 | idxA (z : Nat) (x i : AX)
 | idxS (x i : AX)
 | idxT (z : Nat) (sh : List SH) (x i : AX)
 | idxG (m : Nat) (sh : SH) (x i : AX)
 | idxP (z n : Nat) (x i : AX)
 | eqA (neg : Bool) (sh : List SH) (x y : AX)
 | isNil (neg : Bool) (x : AX)
 | isNilP (kd : Nat) (neg : Bool) (x : AX)
 | mark (x : AX)
 | load (n : Nat) (aggr : Bool) (x : AX)
 | loadT (n : Nat) (aggr : Bool) (x : AX)
 | loadC (sh : List SH) (n : Nat) (aggr : Bool) (x : AX)
 | store (n : Nat) (x v : AX)
 | slice (z : Nat) (x : AX) (lo hi : Option AX)
 | sliceS (x : AX) (lo hi : Option AX)
 | litI (k : IntKind) (xs : List AX)
 | litS (xs : List AX)
 | litC (n : Nat) (xs : List AX)
 | litP (t : TypeId) (xs : List AX)
 | makeI (k : IntKind) (bytes : Nat) (n : AX)
 | build (zero : List AV) (parts : List (Nat × Nat × AX))
 | box (t : TypeId) (n : Nat) (x : AX)
 | alloc (t : TypeId) (zero : List AV)
 | allocO (ob : AObj)
 | len (x : AX)
 | lenS (x : AX)
 | append (z bytes : Nat) (x y : AX)
 | appendS (bytes : Nat) (x y : AX)
 | appendZ (bytes : Nat) (x y : AX)
 | nilO (sh : Option IntKind) (z : Nat)
 | buildB
 | boxB (t : TypeId) (x : AX)
 | appendN (z bytes : Nat) (x y : AX)
 | appendO (z bytes : Nat) (x y : AX)
 | appendM (z bytes : Nat) (x y : AX)
 | extract (i : Nat) (x : AX)
 | mkFunc (fn : Fn) (first captured : List AX)
 | minmax (mx : Bool) (x y : AX)
 | minmaxs (mx : Bool) (kd : IntKind) (xs : List AX)
 | makeMap
 | mapPut (int : Bool) (m k v : AX)
 | makeMapI
 | mapPutI (m k v : AX)
 | clear (x : AX)
 | lookup (int ok : Bool) (zero : AV) (m k : AX)
 | call (sp : FSpec) (f : FuncId) (args : List AX)
 | callV (sp : FSpec) (f : FuncId) (fv : AX) (args : List AX)
 | callY (sp : FSpec) (key : Nat) (fv : AX) (args : List AX)
def Px (kd : IntKind) : List AV → {R : Type} → (List Int → Option R) → Option R
 | [], _, k => k []
 | .int k' n :: vs, _, k => cond (decide (k' = kd)) (Px kd vs fun l => k (n :: l)) none
 | _, _, _ => none
def Rx : List AV → {R : Type} → (List Str → Option R) → Option R
 | [], _, k => k []
 | .str s :: vs, _, k => Rx vs fun l => k (s :: l)
 | _, _, _ => none
def D8 (cs : List AV) : List (Nat × Nat) → List AV → Option (List AV)
 | (off, n) :: ps, v :: vs => cond (Nat.beq (cellsOf v).length n && (cellsOf v).all one && Nat.ble (off + n) cs.length) (D8 (setCells cs off (cellsOf v)) ps vs) none
 | [], [] => some cs
 | _, _ => none
mutual
def ren (f : Nat → Option Nat) : AV → Option AV
 | .ptr (some (id, off)) => (f id).bind fun id' => some (.ptr (some (id', off)))
 | .agg cs => (uC f cs).bind fun cs' => some (.agg cs')
 | .tuple cs => (uC f cs).bind fun cs' => some (.tuple cs')
 | .func fn a b => (uC f a).bind fun a' => (uC f b).bind fun b' => some (.func fn a' b')
 | .iface t v => (ren f v).bind fun v' => some (.iface t v')
 | .mut id off m sz => (f id).bind fun id' => some (.mut id' off m sz)
 | .map (some id) => (f id).bind fun id' => some (.map (some id'))
 | .yld id => (f id).bind fun id' => some (.yld id')
 | .mo id m tot sz => (f id).bind fun id' => some (.mo id' m tot sz)
 | .sl own sz els => some (.sl own sz els)
 | .eptr cs => some (.eptr cs)
 | v => some v
def uC (f : Nat → Option Nat) : List AV → Option (List AV)
 | [] => some []
 | v :: vs => (ren f v).bind fun v' => (uC f vs).bind fun vs' => some (v' :: vs')
end
mutual
def vG : AV → Bool
 | .ptr (some _) => false
 | .agg cs => lq cs
 | .tuple cs => lq cs
 | .func _ a b => lq a && lq b
 | .iface _ v => vG v
 | .mut .. => false
 | .map (some _) => false
 | .yld _ => false
 | .mo .. => false
 | _ => true
def lq : List AV → Bool
 | [] => true
 | v :: vs => vG v && lq vs
end
def KV (id : Nat) (l : List Nat) : List Nat := cond (l.contains id) l (l ++ [id])
mutual
def Vy : AV → List Nat → List Nat
 | .ptr (some (id, _)), l => KV id l
 | .mut id _ _ _, l => KV id l
 | .map (some id), l => KV id l
 | .yld id, l => KV id l
 | .mo id _ _ _, l => KV id l
 | .agg cs, l => Pm cs l
 | .tuple cs, l => Pm cs l
 | .func _ a b, l => Pm b (Pm a l)
 | .iface _ v, l => Vy v l
 | _, l => l
def Pm : List AV → List Nat → List Nat
 | [], l => l
 | v :: vs, l => Pm vs (Vy v l)
end
def YT : List (AV × AV) → List Nat → List Nat
 | [], l => l
 | (k, v) :: es, l => YT es (Vy v (Vy k l))
def aab : AObj → List Nat → List Nat
 | .cells _ cs, l => Pm cs l
 | .map es, l => YT es l
 | .loop _ cs, l => Pm cs l
 | _, l => l
def D9 (h : List AObj) : Nat → Nat → List Nat → List Nat
 | 0, _, l => l
 | n + 1, p, l => match l[p]? with
  | some id => match h[id]? with
   | some o => D9 h n (p + 1) (aab o l)
   | none => D9 h n (p + 1) l
  | none => l
def Ea (nb : Nat) (vs : List AV) (h : List AObj) : List Nat := D9 h 99 0 (Pm vs (List.range nb))
def KW (id : Nat) : List Nat → Nat → Option Nat
 | [], _ => none
 | j :: js, p => cond (j == id) (some p) (KW id js (p + 1))
def mP (ids : List Nat) (id : Nat) : Option Nat := KW id ids 0
def KX (f : Nat → Option Nat) : List (AV × AV) → Option (List (AV × AV))
 | [] => some []
 | (k, v) :: es => (ren f k).bind fun k' => (ren f v).bind fun v' => (KX f es).bind fun es' => some ((k', v') :: es')
def si (f : Nat → Option Nat) : AObj → Option AObj
 | .cells t cs => (uC f cs).bind fun cs' => some (.cells t cs')
 | .map es => (KX f es).bind fun es' => some (.map es')
 | .mapI es => some (.mapI es)
 | .rowS t xs => some (.rowS t xs)
 | .rowI t k xs => some (.rowI t k xs)
 | .rowC n els => some (.rowC n els)
 | .rowN k xs => some (.rowN k xs)
 | .loop key cs => (uC f cs).bind fun cs' => some (.loop key cs')
 | .buf kd t l => some (.buf kd t l)
 | .gone => some .gone
def zt (f : Nat → Option Nat) : List AObj → Option (List AObj)
 | [] => some []
 | o :: os => (si f o).bind fun o' => (zt f os).bind fun os' => some (o' :: os')
def cu (f : Nat → Option Nat) (h : List AObj) : List Nat → Option (List AObj)
 | [] => some []
 | id :: ids => match h[id]? with
  | some o => (si f o).bind fun o' => (cu f h ids).bind fun os => some (o' :: os)
  | none => none
def sj (ids : List Nat) (h : List AObj) (p : Nat) : Option Nat := cond (Nat.blt p ids.length) (ids[p]?) (some (h.length + (p - ids.length)))
def xW (h : List AObj) : List AObj → List AObj
 | [] => h
 | o :: os => h ++ o :: os
def aR (h : List AObj) : List Nat → List AObj → List AObj
 | id :: ids, o :: os => aR (h.set id o) ids os
 | _, _ => h
def NQ (key : AV) {R : Type} : List (AV × AV) → Nat → (Nat → AV → Option R) → Option R → Option R
 | [], _, _, kn => kn
 | (k, v) :: es, i, kf, kn => match key, k with
  | .int k1 x, .int k2 y => cond (decide (k1 = k2)) (cond (x == y) (kf i v) (NQ key es (i + 1) kf kn)) none
  | .str x, .str y => cond (x == y) (kf i v) (NQ key es (i + 1) kf kn)
  | _, _ => none
def QN : Bool → AV → Bool
 | true, .int _ _ => true
 | false, .str _ => true
 | _, _ => false
def NR (ok : Bool) (v : AV) (b : Bool) : AV := match ok with
 | true => .tuple [disown v, .bool b]
 | false => disown v
def gcV (nb : Nat) (vs : List AV) (h : List AObj) {R : Type} (k : List AV → List AObj → Option R) : Option R :=
 (uC (mP (Ea nb vs h)) vs).bind fun vs' => (cu (mP (Ea nb vs h)) h (Ea nb vs h)).bind fun hs => k vs' hs
def JW (sp : FSpec) (az : List AV) (s : St) (R : Type) (k : AV → St → Option R) : Option R :=
 (uC (mP (Ea 0 az s.heap)) az).bind fun vs =>
 (cu (mP (Ea 0 az s.heap)) s.heap (Ea 0 az s.heap)).bind fun hs =>
 sp vs hs R fun v h =>
 (ren (sj (Ea 0 az s.heap) s.heap) v).bind fun v' => (zt (sj (Ea 0 az s.heap) s.heap) h).bind fun h' =>
 k v' ⟨s.slots, xW (aR s.heap (Ea 0 az s.heap) h') (h'.drop (Ea 0 az s.heap).length)⟩
def yo : List (Int × Int) → Int → Int → List (Int × Int)
 | [], a, b => [(a, b)]
 | (x, y) :: r, a, b => cond (x == a) ((x, b) :: r) ((x, y) :: yo r a b)
def FU (mx : Bool) : Int → List Int → Int
 | a, [] => a
 | a, b :: r => FU mx (match mx with
  | true => if a < b then b else a
  | false => if b < a then b else a) r
def qB (a : Int) : Bool := decide (-9223372036854775808 ≤ a) && decide (a ≤ 9223372036854775807)
def TC (n : Nat) (els : List (List AV)) : Bool := els.all fun e => Nat.beq e.length n && e.all AV.plain
def AOp.run : AOp → St → (R : Type) → (AV → St → Option R) → Option R
 | .mv x, s, _, k => k (x.ev s) (x.st s)
 | .chk x, s, _, k => match x.ev s with
  | .ptr (some p) => k (.ptr (some p)) (x.st s)
  | .eptr cs => k (.eptr cs) (x.st s)
  | .func (.func f) a b => k (.func (.func f) a b) (x.st s)
  | _ => none
 | .pick c a b, s, _, k => match c.ev s with
  | .bool t => cond t (k (disown (a.ev s)) (c.know s true)) (k (disown (b.ev s)) (c.know s false))
  | _ => none
 | .bin op x y, s, _, k => Z9 op (x.ev s) (y.ev s) fun v => k v s
 | .eqB neg x y, s, _, k => match x.ev s, y.ev s with
  | .bool a, .bool b => k (.bool (match neg with | true => !(a == b) | false => a == b)) s
  | _, _ => none
 | .un op x, s, _, k => unK op (x.ev s) fun v => k v s
 | .conv kd x, s, _, k => match x.ev s with
  | .int _ n => k (.int kd (kd.wrap n)) s
  | _ => none
 | .convS x, s, _, k => match x.ev s with
  | .str t => k (.str t) s
  | _ => none
 | .rune x, s, _, k => match x.ev s with
  | .int _ n => k (.str (Utf8.encode n).data.toList) s
  | _ => none
 | .toBytes x, s, _, k => match x.ev s with
  | .str t => k (.ints true .u8 (nD t)) s
  | _ => none
 | .toStr x, s, _, k => match x.ev s with
  | .ints _ .u8 l => k (.str (aaa l)) s
  | _ => none
 | .fieldA off x, s, _, k => match x.ev s with
  | .ptr (some (id, o)) => k (.ptr (some (id, o + off))) s
  | .eptr cs => cond (Nat.ble off cs.length) (k (.eptr (cs.drop off)) s) none
  | _ => none
 | .field off n aggr x, s, _, k => match x.ev s with
  | .agg cs => asK aggr n ((cs.drop off).take n) fun v => k v s
  | _ => none
 | .idxA z x i, s, _, k => match x.ev s with
  | .ints _ kd l => cond (z == 1) (NL l (i.ev s) fun n => k (.eptr [.int kd n]) s) none
  | .strs _ l => cond (z == 1) (NL l (i.ev s) fun n => k (.eptr [.str n]) s) none
  | .sl _ sz els => cond (z == sz) (NL els (i.ev s) fun cs => k (.eptr cs) s) none
  | .mut id off m sz => match i.ev s with
   | .int _ n => cond (z == sz) (cond (decide (0 ≤ n)) (cond (decide (n < (m : Int))) (k (.ptr (some (id, off + n.toNat * sz))) s) none) none) none
   | _ => none
  | .mo id m _ sz => match i.ev s with
   | .int _ n => cond (z == sz) (cond (decide (0 ≤ n)) (cond (decide (n < (m : Int))) (k (.ptr (some (id, n.toNat * sz))) s) none) none) none
   | _ => none
  | _ => none
 | .idxT z sh x i, s, _, k => match x.ev s with
  | .sl _ sz els => cond (z == sz) (NL els (i.ev s) fun cs => shK sh cs fun cs' => k (.eptr cs') s) none
  | .mut id off m sz => match i.ev s with
   | .int _ n => cond (z == sz) (cond (decide (0 ≤ n)) (cond (decide (n < (m : Int))) (k (.ptr (some (id, off + n.toNat * sz))) s) none) none) none
   | _ => none
  | .mo id m _ sz => match i.ev s with
   | .int _ n => cond (z == sz) (cond (decide (0 ≤ n)) (cond (decide (n < (m : Int))) (k (.ptr (some (id, n.toNat * sz))) s) none) none) none
   | _ => none
  | _ => none
 | .idxG m sh x i, s, _, k => match x.ev s with
  | .agg cs => cond (Nat.beq cs.length m) (NL cs (i.ev s) fun c => Vx sh c fun a => k a s) none
  | _ => none
 | .idxP z n x i, s, _, k => match x.ev s with
  | .ptr (some (id, off)) => match i.ev s with
   | .int _ m => cond (decide (0 ≤ m)) (YS n m.toNat fun j => k (.ptr (some (id, off + j * z))) s) none
   | _ => none
  | _ => none
 | .eqA neg sh x y, s, _, k => match x.ev s, y.ev s with
  | .agg cs, .agg ds => shK sh cs fun cs => shK sh ds fun ds => Ki cs ds fun b => k (.bool (match neg with | true => !b | false => b)) s
  | _, _ => none
 | .isNil neg x, s, _, k => match x.ev s with
  | .nilIface => k (.bool (match neg with | true => false | false => true)) s
  | .iface _ _ => k (.bool (match neg with | true => true | false => false)) s
  | _ => none
 | .mark x, s, _, k => match x.ev s with
  | .ints true .u8 (n :: l) => k (.ints true .u8 (n :: l)) (x.st s)
  | _ => none
 | .isNilP kd neg x, s, _, k => match aaI kd (x.ev s) with
  | some b => k (.bool (match neg with | true => !b | false => b)) s
  | none => none
 | .idxS x i, s, _, k => match x.ev s with
  | .str l => NL l (i.ev s) fun b => k (.int .u8 (b.toNat : Int)) s
  | _ => none
 | .load n aggr x, s, _, k => match x.ev s with
  | .eptr cs => asK aggr n (cs.take n) fun v => k (disown v) s
  | .ptr (some (id, off)) => match s.heap[id]? with
   | some (.cells _ cs) => asK aggr n ((cs.drop off).take n) fun v => k (disown v) s
   | some (.rowS _ xs) => cond aggr none ((xs[off]?).bind fun y => k (.str y) s)
   | some (.rowI _ kd xs) => cond aggr none ((xs[off]?).bind fun y => k (.int kd y) s)
   | some (.rowN kd xs) => cond aggr none ((xs[off]?).bind fun y => k (.int kd y) s)
   | _ => none
  | _ => none
 | .loadC sh n aggr x, s, _, k => match x.ev s with
  | .ptr (some (id, off)) => match s.heap[id]? with
   | some (.rowC sz els) => (els[off / sz]?).bind fun e => shK sh ((e.drop (off % sz)).take n) fun cs => asK aggr n cs fun v => k v s
   | _ => none
  | _ => none
 | .loadT n aggr x, s, _, k => match x.ev s with
  | .ptr (some (id, off)) => match s.heap[id]? with
   | some (.cells t cs) => asK aggr n ((cs.drop off).take n) fun v => k v ⟨s.slots, s.heap.set id (.cells t (setCells cs off (disownL ((cs.drop off).take n))))⟩
   | _ => none
  | _ => none
 | .store n x v, s, _, k => match x.ev s with
  | .ptr (some (id, off)) => match s.heap[id]? with
   | some (.cells t cs) =>
    cond (decide ((cellsOf (v.ev s)).length = n ∧ off + n ≤ cs.length) && (cellsOf (v.ev s)).all one)
     (k .undef ⟨(v.st s).slots, s.heap.set id (.cells t (setCells cs off (cellsOf (v.ev s))))⟩) none
   | some (.rowS t xs) => match v.ev s with
    | .str y => cond (Nat.beq n 1) (cond (decide (off < xs.length)) (k .undef ⟨s.slots, s.heap.set id (.rowS t (xs.set off y))⟩) none) none
    | _ => none
   | some (.rowI t kd xs) => match v.ev s with
    | .int kv y => cond (Nat.beq n 1 && decide (kv = kd)) (cond (decide (off < xs.length)) (k .undef ⟨s.slots, s.heap.set id (.rowI t kd (xs.set off y))⟩) none) none
    | _ => none
   | some (.rowN kd xs) => match v.ev s with
    | .int kv y => cond (Nat.beq n 1 && decide (kv = kd)) (cond (decide (off < xs.length)) (k .undef ⟨s.slots, s.heap.set id (.rowN kd (xs.set off y))⟩) none) none
    | _ => none
   | some (.rowC sz els) => cond (Nat.beq n 1 && (v.ev s).plain) ((els[off / sz]?).bind fun e => cond (decide (off % sz < e.length)) (k .undef ⟨s.slots, s.heap.set id (.rowC sz (els.set (off / sz) (e.set (off % sz) (v.ev s))))⟩) none) none
   | _ => none
  | _ => none
 | .sliceS x lo hi, s, _, k => match x.ev s with
  | .str l => Ir l.length (lo.map (·.ev s)) (hi.map (·.ev s)) fun a b => k (.str (cut l a b)) s
  | _ => none
 | .slice z x lo hi, s, _, k => match x.ev s with
  | .ints _ kd l => cond (z == 1) (Ir l.length (lo.map (·.ev s)) (hi.map (·.ev s)) fun a b => k (.ints false kd (cut l a b)) s) none
  | .strs _ l => cond (z == 1) (Ir l.length (lo.map (·.ev s)) (hi.map (·.ev s)) fun a b => k (.strs false (cut l a b)) s) none
  | .sl _ sz l => cond (z == sz) (Ir l.length (lo.map (·.ev s)) (hi.map (·.ev s)) fun a b => k (.sl false sz (cut l a b)) s) none
  | .mo id m tot sz => cond (z == sz) (Ir m (lo.map (·.ev s)) (hi.map (·.ev s)) fun a b => match lo with
   | none => cond (Nat.beq a 0) (k (.mo id (b.getD m) tot sz) s) none
   | some _ => k (.mut id (a * sz) (b.getD m - a) sz) s) none
  | .mut id off m sz => cond (z == sz) (Ir m (lo.map (·.ev s)) (hi.map (·.ev s)) fun a b => k (.mut id (off + a * sz) (b.getD m - a) sz) s) none
  | _ => none
 | .litI kd xs, s, _, k => Px kd (evs s xs) fun l => k (.ints true kd l) s
 | .litS xs, s, _, k => Rx (evs s xs) fun l => k (.strs true l) s
 | .litC n xs, s, _, k => cond ((evs s xs).all fun v => Nat.beq (cellsOf v).length n && (cellsOf v).all one && lq (cellsOf v)) (k (.sl true n ((evs s xs).map fun v => cellsOf (disown v))) s) none
 | .litP t xs, s, _, k => cond ((evs s xs).all one) (k (.mut s.heap.length 0 xs.length 1) ⟨s.slots, s.heap ++ [.cells t (disownL (evs s xs))]⟩) none
 | .makeI kd bytes n, s, _, k => match n.ev s with
  | .int _ m => cond (decide (0 ≤ m)) (cond (decide (m * bytes ≤ 140737488355328)) (k (.ints true kd (List.replicate m.toNat 0)) s) none) none
  | _ => none
 | .build zero ps, s, _, k => (D8 zero (ps.map fun p => (p.1, p.2.1)) (evs s (ps.map fun p => p.2.2))).bind fun cs => k (.agg cs) (sts s (ps.map fun p => p.2.2))
 | .box t n x, s, _, k =>
  cond (decide ((cellsOf (x.ev s)).length = n) && (cellsOf (x.ev s)).all one) (k (.ptr (some (s.heap.length, 0))) ⟨(x.st s).slots, s.heap ++ [.cells t (cellsOf (x.ev s))]⟩) none
 | .alloc t zero, s, _, k => k (.ptr (some (s.heap.length, 0))) ⟨s.slots, s.heap ++ [.cells t zero]⟩
 | .allocO ob, s, _, k => k (.ptr (some (s.heap.length, 0))) ⟨s.slots, s.heap ++ [ob]⟩
 | .lenS x, s, _, k => match x.ev s with
  | .str l => k (.int .i64 (l.length : Int)) s
  | _ => none
 | .len x, s, _, k => match x.ev s with
  | .ints _ _ l => k (.int .i64 (l.length : Int)) s
  | .strs _ l => k (.int .i64 (l.length : Int)) s
  | .sl _ _ l => k (.int .i64 (l.length : Int)) s
  | .mut _ _ m _ => k (.int .i64 (m : Int)) s
  | .mo _ m _ _ => k (.int .i64 (m : Int)) s
  | _ => none
 | .append z bytes x y, s, _, k => match x.ev s, y.ev (x.st s) with
  | .ints true kd l, .ints _ km m => cond (z == 1 && decide (kd = km)) (cond (decide ((l.length + m.length) * bytes ≤ 140737488355328)) (k (.ints true kd (l ++ m)) (x.st s)) none) none
  | .strs true l, .strs _ m => cond (z == 1) (cond (decide ((l.length + m.length) * bytes ≤ 140737488355328)) (k (.strs true (l ++ m)) (x.st s)) none) none
  | .sl true sz l, .sl _ sm m => cond (z == sz && z == sm) (cond (decide ((l.length + m.length) * bytes ≤ 140737488355328)) (k (.sl true sz (l ++ m)) (x.st s)) none) none
  | _, _ => none
 | .appendZ bytes x y, s, _, k => match x.ev s, y.ev (x.st s) with
  | .ints true .u8 l, .int _ m => cond (decide (0 ≤ m)) (cond (decide ((l.length + m.toNat) * bytes ≤ 140737488355328)) (k (.ints true .u8 (l ++ List.replicate m.toNat 0)) (x.st s)) none) none
  | _, _ => none
 | .appendS bytes x y, s, _, k => match x.ev s, y.ev (x.st s) with
  | .ints true .u8 l, .str m => cond (decide ((l.length + m.length) * bytes ≤ 140737488355328)) (k (.ints true .u8 (l ++ nD m)) (x.st s)) none
  | _, _ => none
 | .nilO sh z, s, _, k => match sh with
  | some kd => cond (z == 1) (k (.mo s.heap.length 0 0 1) ⟨s.slots, s.heap ++ [.rowN kd []]⟩) none
  | none => k (.mo s.heap.length 0 0 z) ⟨s.slots, s.heap ++ [.rowC z []]⟩
 | .buildB, s, _, k => k (.agg [.mo s.heap.length 0 0 1, .int .i64 0, .int .i8 0]) ⟨s.slots, s.heap ++ [.rowN .u8 []]⟩
 | .boxB t x, s, _, k => match x.ev s with
  | .agg [.mo _ 0 0 1, .int .i64 0, .int .i8 0] => k (.ptr (some (s.heap.length, 0))) ⟨s.slots, s.heap ++ [.buf 1 t []]⟩
  | _ => none
 | .appendN z bytes x y, s, _, k => match x.ev s, y.ev (x.st s) with
  | .ints true kd l, .ints _ km m => cond (z == 1 && decide (kd = km) && l.isEmpty && !m.isEmpty) (cond (decide (m.length * bytes ≤ 140737488355328)) (k (.mo s.heap.length m.length m.length 1) ⟨(x.st s).slots, s.heap ++ [.rowN kd m]⟩) none) none
  | .sl true sz l, .sl _ sm m => cond (z == sz && z == sm && l.isEmpty && !m.isEmpty) (cond (TC sz m && decide (m.length * bytes ≤ 140737488355328)) (k (.mo s.heap.length m.length m.length sz) ⟨(x.st s).slots, s.heap ++ [.rowC sz m]⟩) none) none
  | _, _ => none
 | .appendO z bytes x y, s, _, k => match x.ev s with
  | .mo id a tot sz => match s.heap[id]? with
   | some (.rowN kd xs) => match y.ev s with
    | .ints _ km m => cond (z == 1 && z == sz && decide (kd = km)) (cond (decide (tot = xs.length) && (decide (0 < a + m.length) || Nat.beq tot 0) && decide ((a + m.length) * bytes ≤ 140737488355328)) (k (.mo s.heap.length (a + m.length) (a + m.length) 1) ⟨s.slots, s.heap.set id .gone ++ [.rowN kd (xs.take a ++ m)]⟩) none) none
    | _ => none
   | some (.rowC sc els) => match y.ev s with
    | .sl _ sm m => cond (z == sz && z == sc && z == sm) (cond (decide (tot = els.length) && (decide (0 < a + m.length) || Nat.beq tot 0) && TC z m && decide ((a + m.length) * bytes ≤ 140737488355328)) (k (.mo s.heap.length (a + m.length) (a + m.length) z) ⟨s.slots, s.heap.set id .gone ++ [.rowC z (els.take a ++ m)]⟩) none) none
    | _ => none
   | _ => none
  | _ => none
 | .appendM z bytes x y, s, _, k => match y.ev s with
  | .mut id off m sm => match s.heap[id]? with
   | some (.rowN kd xs) => match x.ev s with
    | .ints true km l => cond (z == 1 && decide (kd = km) && decide (off + m ≤ xs.length)) (cond (decide ((l.length + m) * bytes ≤ 140737488355328)) (k (.ints true kd (l ++ (xs.drop off).take m)) (x.st s)) none) none
    | _ => none
   | some (.rowC sc els) => match x.ev s with
    | .sl true sz l => cond (z == sz && z == sc && z == sm && decide (off / sc * sc = off) && decide (off / sc + m ≤ els.length)) (cond (decide ((l.length + m) * bytes ≤ 140737488355328)) (k (.sl true sz (l ++ (els.drop (off / sc)).take m)) (x.st s)) none) none
    | _ => none
   | _ => none
  | _ => none
 | .extract i x, s, _, k => match x.ev s with
  | .tuple vs => match vs[i]? with
   | some v => k v (x.st s)
   | none => none
  | _ => none
 | .mkFunc fn fs cs, s, _, k => k (.func fn (disownL (evs s fs)) (disownL (evs s cs))) s
 | .minmax mx x y, s, _, k => match x.ev s, y.ev s with
  | .int kd a, .int _ b => match mx with
   | true => k (.int kd (if a < b then b else a)) s
   | false => k (.int kd (if b < a then b else a)) s
  | _, _ => none
 | .minmaxs mx kd xs, s, _, k => Px kd (evs s xs) fun l => match l with
  | [] => none
  | a :: l => k (.int kd (FU mx a l)) s
 | .makeMap, s, _, k => k (.map (some s.heap.length)) ⟨s.slots, s.heap ++ [.map []]⟩
 | .mapPut int m key v, s, _, k => match m.ev s with
  | .map (some id) => match s.heap[id]? with
   | some (.map es) => cond (QN int (key.ev s)) (NQ (key.ev s) es 0 (fun i _ => k .undef ⟨s.slots, s.heap.set id (.map (es.set i (key.ev s, disown (v.ev s))))⟩)
    (k .undef ⟨s.slots, s.heap.set id (.map (es ++ [(key.ev s, disown (v.ev s))]))⟩)) none
   | _ => none
  | _ => none
 | .makeMapI, s, _, k => k (.map (some s.heap.length)) ⟨s.slots, s.heap ++ [.mapI []]⟩
 | .mapPutI m key v, s, _, k => match m.ev s with
  | .map (some id) => match s.heap[id]? with
   | some (.mapI es) => match key.ev s, v.ev s with
    | .int .i64 a, .int .i64 b => cond (qB a && qB b) (k .undef ⟨s.slots, s.heap.set id (.mapI (yo es a b))⟩) none
    | _, _ => none
   | _ => none
  | _ => none
 | .clear x, s, _, k => match x.ev s with
  | .mut id off m sz => match s.heap[id]? with
   | some (.rowN kd xs) => cond (sz == 1 && decide (off + m ≤ xs.length)) (k (.tuple []) ⟨s.slots, s.heap.set id (.rowN kd (xs.take off ++ (List.replicate m 0 ++ xs.drop (off + m))))⟩) none
   | _ => none
  | _ => none
 | .lookup int ok zero m key, s, _, k => match m.ev s with
  | .map none => cond (QN int (key.ev s)) (k (NR ok zero false) s) none
  | .map (some id) => match s.heap[id]? with
   | some (.map es) => cond (QN int (key.ev s)) (NQ (key.ev s) es 0 (fun _ v => k (NR ok v true) s) (k (NR ok zero false) s)) none
   | _ => none
  | _ => none
 | .call sp _ args, s, R, k => JW sp (evs s args) (sts s args) R k
 | .callV sp f fv args, s, R, k => match fv.ev s with
  | .func (.func f') first caps => cond (Nat.beq f' f) (JW sp (first ++ (evs s args ++ caps)) (sts s args) R k) none
  | _ => none
 | .callY sp key fv args, s, R, k => match fv.ev s with
  | .yld id => match s.heap[id]? with
   | some (.loop key' caps) => cond (Nat.beq key' key && !(Ea 0 (evs s args ++ caps) s.heap).contains id) (JW sp (evs s args ++ caps) (sts s args) R k) none
   | _ => none
  | _ => none
structure AOper where
 dst : Option Nat
 op : AOp
 guard : Option (Nat × Bool)
def oM : List AOper → St → (R : Type) → (St → Option R) → Option R
 | [], s, _, k => k s
 | o :: os, s, R, k =>
  match o.guard with
  | none => o.op.run s R fun v s' => oM os (s'.put o.dst v) R k
  | some (t, want) => match s.get t with
   | .bool b => match want with
    | true => cond b (o.op.run (s.know t true) R fun v s' => oM os (s'.put o.dst v) R k) (oM os ((s.know t false).put o.dst (.tuple [])) R k)
    | false => cond b (oM os ((s.know t true).put o.dst (.tuple [])) R k) (o.op.run (s.know t false) R fun v s' => oM os (s'.put o.dst v) R k)
   | .tuple [] => oM os (s.put o.dst (.tuple [])) R k
   | _ => none
mutual
def below (n : Nat) : AV → Bool
 | .ptr (some (id, _)) => decide (id < n)
 | .agg cs => Eb n cs
 | .tuple cs => Eb n cs
 | .func _ a b => Eb n a && Eb n b
 | .iface _ v => below n v
 | .mut id _ _ _ => decide (id < n)
 | .map (some id) => decide (id < n)
 | .yld id => decide (id < n)
 | .mo id _ _ _ => decide (id < n)
 | _ => true
def Eb (n : Nat) : List AV → Bool
 | [] => true
 | v :: vs => below n v && Eb n vs
end
def AX.takes : AX → List Nat
 | .take t => [t]
 | _ => []
def Kj : List AX → List Nat
 | [] => []
 | x :: xs => x.takes ++ Kj xs
def AOp.takes : AOp → List Nat
 | .mv x | .chk x | .extract _ x | .box _ _ x | .mark x => x.takes
 | .store _ _ v => v.takes
 | .append _ _ x _ | .appendS _ x _ | .appendZ _ x _ | .appendN _ _ x _ | .appendM _ _ x _ => x.takes
 | .build _ ps => Kj (ps.map fun p => p.2.2)
 | .call _ _ xs => Kj xs
 | .callV _ _ _ xs => Kj xs
 | .callY _ _ _ xs => Kj xs
 | _ => []
def AOp.still : AOp → Bool
 | .nilO .. | .buildB | .boxB .. | .appendN .. | .appendO .. | .loadT .. | .litP .. | .store .. | .box .. | .alloc .. | .allocO .. | .call .. | .callV .. | .callY .. | .makeMap | .mapPut .. | .makeMapI | .mapPutI .. | .clear .. => false
 | _ => true
inductive OB where
 | no | look | all
 | part (ids : List Nat)
 | peek (ids rs : List Nat)
 | new (n : Nat)
def lm (rs : List Nat) : Nat → List AObj → List AObj
 | _, [] => []
 | k, o :: H => (bif rs.contains k then o else .gone) :: lm rs (k + 1) H
def backTo (ids : List Nat) (p : Nat) : Option Nat := ids[p]?
def Py (n p : Nat) : Option Nat := some (n + p)
structure DOper where
 op : AOper
 rd : List Nat
 ob : OB
def DOper.wr (d : DOper) : List Nat := match d.op.dst with
 | some t => t :: d.op.op.takes
 | none => d.op.op.takes
def DOper.loc (d : DOper) (s : St) : St := ⟨d.rd.map fun t => (t, s.get t), match d.ob with | .no => [] | _ => s.heap⟩
def DOper.upd (d : DOper) (s l : St) : St := ⟨(d.rd ++ d.wr).map (fun t => (t, l.get t)) ++ s.slots, match d.ob with | .all => l.heap | _ => s.heap⟩
def DOper.fine (d : DOper) (l : St) : Bool := match d.ob with
 | .no => Eb 0 ((d.rd ++ d.wr).map l.get)
 | .look => d.op.op.still
 | _ => true
def DOper.pre (d : DOper) (s : St) : Bool := match d.ob with
 | .no => Eb 0 (d.rd.map s.get)
 | _ => true
def NS : List DOper → St → (R : Type) → (St → Option R) → Option R
 | [], s, _, k => k s
 | d :: ds, s, R, k => match d.ob with
  | .part ids => (uC (mP ids) (d.rd.map s.get)).bind fun vs => (cu (mP ids) s.heap ids).bind fun hs =>
   oM [d.op] ⟨d.rd.zip vs, hs⟩ R fun l => (uC (backTo ids) ((d.rd ++ d.wr).map l.get)).bind fun us => (zt (backTo ids) l.heap).bind fun hs' =>
    cond (Nat.beq l.heap.length ids.length) (NS ds ⟨(d.rd ++ d.wr).zip us ++ s.slots, match d.op.op.still with | true => s.heap | false => aR s.heap ids hs'⟩ R k) none
  | .peek ids rs => (uC (mP ids) (d.rd.map s.get)).bind fun vs => (cu (mP ids) (lm rs 0 s.heap) ids).bind fun hs =>
   oM [d.op] ⟨d.rd.zip vs, hs⟩ R fun l => (uC (backTo ids) ((d.rd ++ d.wr).map l.get)).bind fun us =>
    cond (d.op.op.still) (NS ds ⟨(d.rd ++ d.wr).zip us ++ s.slots, s.heap⟩ R k) none
  | .new n => cond (Nat.beq s.heap.length n) ((uC (mP []) (d.rd.map s.get)).bind fun vs =>
   oM [d.op] ⟨d.rd.zip vs, []⟩ R fun l => (uC (Py n) (d.wr.map l.get)).bind fun us => (zt (Py n) l.heap).bind fun hs' =>
    NS ds ⟨d.wr.zip us ++ s.slots, s.heap ++ hs'⟩ R k) none
  | _ => cond (d.pre s) (oM [d.op] (d.loc s) R fun l => cond (d.fine l) (NS ds (d.upd s l) R k) none) none
abbrev Ex := St → (R : Type) → (AExit → St → Option R) → Option R
def ZT : Ex := fun s _ k => k .normal s
def aaJ : Ex := fun s _ k => k .ret s
def ZU (id : Nat) : Ex := fun s _ k => k (.exit id) s
def UK (ops : List AOper) : Ex := fun s R k => oM ops s R fun s' => k .normal s'
def WU (ds : List DOper) : Ex := fun s R k => NS ds s R fun s' => k .normal s'
def Vz (x y : Ex) : Ex := fun s R k => x s R fun e s' => match e with
 | .normal => y s' R k
 | e => k e s'
def aac (t : Nat) (s : St) {R : Type} (k : St → Option R) : Option R := match s.get t with
 | .mo id m tot sz => match s.heap[id]? with
  | some (.rowN kd xs) => cond (sz == 1 && decide (tot = xs.length)) (k ⟨(t, .ints true kd (xs.take m)) :: s.slots, s.heap.set id .gone⟩) none
  | some (.rowC sc els) => cond (sz == sc && decide (tot = els.length)) (k ⟨(t, .sl true sc (els.take m)) :: s.slots, s.heap.set id .gone⟩) none
  | _ => none
 | _ => none
def aaK (t : Nat) (x : Ex) : Ex := fun s R k => aac t s fun s' => x s' R k
def WV (c : AX) (x y : Ex) : Ex := fun s R k => match c.ev s with
 | .bool b => cond b (x (c.know s true) R k) (y (c.know s false) R k)
 | _ => none
def TD (id : Nat) (x : Ex) : Ex := fun s R k => x s R fun e s' => match e with
 | .exit i => match i == id with
  | true => k .normal s'
  | false => k (.exit i) s'
 | e => k e s'
def Iu (x : Ex) : Nat → Ex
 | 0 => fun _ _ _ => none
 | n + 1 => fun s R k => x s R fun e s' => match e with
  | .normal => Iu x n s' R k
  | e => k e s'
def Mk (key : Nat) (ts : List Nat) (sp : FSpec) (f : FuncId) (x : AX) : Ex := fun s R k => match x.ev s with
 | .func (.func f') [] caps => cond (Nat.beq f' f)
  (JW sp (.yld s.heap.length :: caps) ⟨s.slots, s.heap ++ [.loop key (disownL (ts.map s.get))]⟩ R fun _ s' => match s'.heap[s.heap.length]? with
   | some (.loop _ _) => k .normal ⟨s'.slots, s'.heap.set s.heap.length .gone⟩
   | _ => none) none
 | _ => none
structure LMeta where
 params : List Nat
 assign : Code
 body : Code
 slots : List Nat
 nt : Nat
def aaL : AV → Nat
 | .undef => 0 | .int .. => 1 | .bool .. => 2 | .str .. => 3 | .ints true .. => 4 | .ints false .. => 5 | .strs true .. => 6 | .strs false .. => 7
 | .sl true .. => 8 | .sl false .. => 9 | .eptr .. => 10 | .ptr none => 11 | .ptr (some _) => 12 | .mut .. => 13 | .map none => 14 | .map (some _) => 15
 | .yld _ => 22 | .mo .. => 23 | .func .. => 16 | .nilFunc => 17 | .nilIface => 18 | .iface .. => 19 | .agg .. => 20 | .tuple .. => 21
def JN (i : Option Nat) (c : Nat) (x y : Ex) : Ex := fun s R k => match i with
 | none => cond (Nat.beq s.heap.length c) (x s R k) (y s R k)
 | some t => cond (Nat.beq (aaL (s.get t)) c) (x s R k) (y s R k)
def St.drop (m : List Nat × Option Nat) (s : St) {R : Type} (k : St → Option R) : Option R :=
 match m.2 with
 | none => k ⟨m.1.map fun t => (t, s.get t), s.heap⟩
 | some n => gcV n (m.1.map s.get) s.heap fun vs hs => k ⟨m.1.zip vs, hs⟩
def GM (m : List Nat × Option Nat) (x : Ex) : Ex := fun s R k => s.drop m fun s' => x s' R k
def Pz (m : AExit → List Nat × Option Nat) (x : Ex) : Ex := fun s R k => x s R fun e s' => s'.drop (m e) fun s2 => k e s2
inductive RV where
 | tmp (t : Nat)
 | cell (t ty n : Nat) (aggr : Bool)
def TE (s : St) : List RV → {R : Type} → (List AV → Option R) → Option R
 | [], _, k => k []
 | .tmp t :: rs, _, k => TE s rs fun vs => k (s.get t :: vs)
 | .cell t _ n ag :: rs, _, k => match s.get t with
  | .ptr (some (id, off)) => match s.heap[id]? with
   | some (.cells _ cs) => asK ag n ((cs.drop off).take n) fun v => TE s rs fun vs => k (disown v :: vs)
   | _ => none
  | _ => none
def Ml : List AV → AV
 | [v] => v
 | vs => .tuple vs
def Ry (rs : List RV) (n : Option Nat) (e : AExit) (s : St) {R : Type} (k : AV → List AObj → Option R) : Option R :=
 match e with
 | .exit _ => none
 | _ => TE s rs fun vs => match n with
  | none => k (Ml vs) s.heap
  | some n => gcV n vs s.heap fun vs' hs => k (Ml vs') hs
end Go.Sh
namespace Go.Sh
def GdH (bs : Array Obj) : Prop := (∃ m t f, bs[0]? = some (.cells #[.int .i64 m] t f)) ∧ (∃ u v t f, bs[1]? = some (.cells #[.iface u v] t f)) ∧ (∃ u v t f, bs[2]? = some (.cells #[.iface u v] t f)) ∧ ∃ t f, bs[3]? = some (.cells (Lib.pow10Tab.map fun z => Value.int .u64 z).toArray t f)
theorem NT {bs : Array Obj} {w : World} {b : Nat} {o : Obj} (h : ∀ b, b < bs.size → w.heap[b]? = bs[b]?) (hb : bs[b]? = some o) : w.heap[b]? = some o := by
 rw [h b (Array.getElem?_eq_some_iff.1 hb).1, hb]
theorem Rz {w : World} (h : ∃ bs : Array Obj, GdH bs ∧ ∀ b, b < bs.size → w.heap[b]? = bs[b]?) : ∃ u v, w.cell? ⟨1, 0, none⟩ = some (.iface u v) := by
 obtain ⟨bs, ⟨_, ⟨u, v, t, f, h1⟩, _, _⟩, h2⟩ := h
 exact ⟨u, v, by simp [World.cell?, NT h2 h1]⟩
theorem TF {w : World} (h : ∃ bs : Array Obj, GdH bs ∧ ∀ b, b < bs.size → w.heap[b]? = bs[b]?) : ∃ u v, w.cell? ⟨2, 0, none⟩ = some (.iface u v) := by
 obtain ⟨bs, ⟨_, _, ⟨u, v, t, f, h1⟩, _⟩, h2⟩ := h
 exact ⟨u, v, by simp [World.cell?, NT h2 h1]⟩
end Go.Sh
namespace Go.Sh
def RA : Nat → List Nat
 | 0 => [23, 24]
 | 1 => [7]
 | _ => []
noncomputable def aB : Nat → LMeta
 | 0 => ⟨[23, 24], (Go.Proofs.Tryz.f20.body.getD .skip).a2.a2.a2.a2.a1.a2.a1.ra, (Go.Proofs.Tryz.f20.body.getD .skip).a2.a2.a2.a2.a1.a2.a1.rb, [2, 6, 8], 48⟩
 | 1 => ⟨[7], (Go.Proofs.Tryz.f108.body.getD .skip).a2.a1.a2.a1.ra, (Go.Proofs.Tryz.f108.body.getD .skip).a2.a1.a2.a1.rb, [2], 13⟩
 | _ => ⟨[], .skip, .skip, [], 0⟩
theorem RB : ∀ k, RA k = (aB k).params
 | 0 => rfl
 | 1 => rfl
 | _ + 2 => rfl
def aaM : TypeId := 5
end Go.Sh
namespace Go.Sh
open Go.RowKit
structure Gh where
 obj : List Nat
 len : Nat → Nat
def Reads (g : Gh) (w : World) (a : Addr) (vs : List Value) : Prop :=
 a.spot = none ∧ a.off + vs.length ≤ g.len a.block ∧ ∀ j, j < vs.length → w.cell? ⟨a.block, a.off + j, none⟩ = vs[j]?
def Row (g : Gh) (w : World) (own : Bool) (a : Option Addr) (n c sz : Nat) (vs : List Value) : Prop :=
 vs.length = n * sz ∧ n ≤ c ∧ 0 ≤ n ∧ (0 < vs.length → ∃ ad, a = some ad ∧ Reads g w ad vs) ∧
 (own = true → ∀ ad, a = some ad → ad.off = 0 ∧ ad.spot = none) ∧ (a = none → n = 0 ∧ c = 0) ∧ ∀ u ∈ vs, u.oneCell' = true
def CellsAt (w : World) (b : Nat) (arr : Array Value) (t : TypeId) : Prop := ∃ fz : Nat × Nat, w.heap[b]? = some (.cells arr t fz) ∧ (fz.2 = fz.1 ∨ arr.size ≤ fz.1)
theorem CellsAt.of_heap {w w' : World} {b : Nat} {arr : Array Value} {t : TypeId} (e : w'.heap[b]? = w.heap[b]?) (h : CellsAt w b arr t) : CellsAt w' b arr t := by
 obtain ⟨fz, h1, h2⟩ := h
 exact ⟨fz, by rw [e]; exact h1, h2⟩
theorem CellsAt.lt {w : World} {b : Nat} {arr : Array Value} {t : TypeId} (h : CellsAt w b arr t) : b < w.heap.size := by
 obtain ⟨fz, h1, _⟩ := h
 exact (Array.getElem?_eq_some_iff.1 h1).1
theorem CellsAt.plain {w : World} {b : Nat} {arr : Array Value} {t : TypeId} (h : w.heap[b]? = some (.cells arr t (0, 0))) : CellsAt w b arr t := ⟨_, h, .inl rfl⟩
theorem CellsAt.uniq {w : World} {b : Nat} {arr arr' : Array Value} {t t' : TypeId} (h : CellsAt w b arr t) (h' : CellsAt w b arr' t') : arr' = arr ∧ t' = t := by
 obtain ⟨fz, h1, _⟩ := h
 obtain ⟨fz', h2, _⟩ := h'
 rw [h1] at h2
 injection h2 with h2
 injection h2 with e1 e2 e3
 exact ⟨e1.symm, e2.symm⟩
theorem CellsAt.cell {w : World} {b : Nat} {arr : Array Value} {t : TypeId} (h : CellsAt w b arr t) (j : Nat) : w.cell? ⟨b, j, none⟩ = arr[j]? := by
 obtain ⟨fz, h1, _⟩ := h
 simp [World.cell?, h1]
def mQ (w : World) (b : Nat) : Nat := match w.heap[b]? with
 | some (.cells arr _ _) => arr.size
 | _ => 0
theorem PD {w w' : World} {b : Nat} (h : w'.heap[b]? = w.heap[b]?) : mQ w b ≤ mQ w' b := by unfold mQ; rw [h]; exact Nat.le_refl _
theorem Gf {w : World} {b : Nat} {arr : Array Value} {t : TypeId} {f : Nat × Nat} (h : w.heap[b]? = some (.cells arr t f)) : mQ w b = arr.size := by unfold mQ; rw [h]
theorem CellsAt.bsz {w : World} {b : Nat} {arr : Array Value} {t : TypeId} (h : CellsAt w b arr t) : mQ w b = arr.size := by
 obtain ⟨fz, h1, _⟩ := h
 exact Gf h1
theorem UL {w w' : World} (h : ∀ k, k < w.heap.size → w'.heap[k]? = w.heap[k]?) (b : Nat) : mQ w b ≤ mQ w' b := by
 rcases Nat.lt_or_ge b w.heap.size with hb | hb
 ·exact PD (h b hb)
 ·unfold mQ; rw [Array.getElem?_eq_none hb]; exact Nat.zero_le _
theorem GN {w w' : World} {b : Nat} (h : ∀ k, k ≠ b → w'.heap[k]? = w.heap[k]?) (hb : mQ w b ≤ mQ w' b) (k : Nat) : mQ w k ≤ mQ w' k := by
 by_cases e : k = b
 ·subst e; exact hb
 ·exact PD (h k e)
mutual
def VR (g : Gh) (w : World) : AV → Value → Prop
 | .undef, _ => True
 | .int k n, v => v = .int k n
 | .bool b, v => v = .bool b
 | .str l, v => ∃ s, v = .string s ∧ s.data.toList = l
 | .ints own k l, v => ∃ a n c, v = .slice a n c ∧ Row g w own a n c 1 (l.map (Value.int k))
 | .strs own l, v => ∃ a n c, v = .slice a n c ∧ Row g w own a n c 1 (l.map fun s => Value.string ⟨s.toArray⟩)
 | .sl own sz els, v => ∃ a n c vs, v = .slice a n c ∧ Row g w own a n c sz vs ∧ els.length = n ∧ (∀ e ∈ els, e.length = sz ∧ lq e = true) ∧ VRss g w els vs
 | .eptr cs, v => ∃ a vs, v = .pointer (some a) ∧ Reads g w a vs ∧ VRs g w cs vs ∧ lq cs = true
 | .ptr none, v => v = .pointer none
 | .ptr (some (id, off)), v => ∃ b, v = .pointer (some ⟨b, off, none⟩) ∧ g.obj[id]? = some b
 | .mut id off m _, v => ∃ a b c, v = .slice a m c ∧ (0 < m → a = some ⟨b, off, none⟩) ∧ m ≤ c ∧ g.obj[id]? = some b
 | .map none, v => v = .map none
 | .map (some id), v => ∃ b, v = .map (some b) ∧ g.obj[id]? = some b
 | .yld id, v => ∃ b, v = .func (.yield b) #[] #[] ∧ g.obj[id]? = some b
 | .mo id m tot sz, v => ∃ a b c, v = .slice a m c ∧ m ≤ c ∧ m ≤ tot ∧ g.obj[id]? = some b ∧ (tot = 0 → a = none ∧ c = 0) ∧ (0 < tot → a = some ⟨b, 0, none⟩ ∧ c * sz ≤ mQ w b)
 | .func fn first cap, v => ∃ xs ys, v = .func fn xs ys ∧ VRs g w first xs.toList ∧ VRs g w cap ys.toList
 | .nilFunc, v => v = .nilFunc
 | .nilIface, v => v = .nilIface
 | .iface t x, v => ∃ y, v = .iface t y ∧ VR g w x y
 | .agg cs, v => ∃ vs, v = .agg vs ∧ VRs g w cs vs.toList
 | .tuple cs, v => ∃ vs, v = .tuple vs ∧ VRs g w cs vs.toList
def VRs (g : Gh) (w : World) : List AV → List Value → Prop
 | [], vs => vs = []
 | c :: cs, vs => ∃ v us, vs = v :: us ∧ VR g w c v ∧ VRs g w cs us
def VRss (g : Gh) (w : World) : List (List AV) → List Value → Prop
 | [], vs => vs = []
 | e :: es, vs => ∃ p q, vs = p ++ q ∧ VRs g w e p ∧ VRss g w es q
end
abbrev Rec := Nat × Nat × Nat
mutual
def owns : AV → Value → List Rec
 | .ints true _ l, .slice (some a) _ c => [(a.block, l.length, c)]
 | .strs true l, .slice (some a) _ c => [(a.block, l.length, c)]
 | .sl true sz els, .slice (some a) _ c => [(a.block, els.length * sz, c * sz)]
 | .agg cs, .agg vs => aC cs vs.toList
 | .tuple cs, .tuple vs => aC cs vs.toList
 | _, _ => []
def aC : List AV → List Value → List Rec
 | c :: cs, v :: vs => owns c v ++ aC cs vs
 | _, _ => []
end
def oc (b : Nat) (l : List Rec) : Nat := l.countP fun r => r.1 == b
theorem ax (b : Nat) (l m : List Rec) : oc b (l ++ m) = oc b l + oc b m := by simp [oc, List.countP_append]
theorem nO (b : Nat) : oc b [] = 0 := rfl
theorem yt {r : Rec} {l : List Rec} (h : r ∈ l) : 0 < oc r.1 l := by
 unfold oc
 exact List.countP_pos_iff.2 ⟨r, h, by simp⟩
def OwnOK (g : Gh) (w : World) (r : Rec) : Prop :=
 g.len r.1 = r.2.1 ∧ r.2.1 ≤ r.2.2 ∧ ∃ arr t, CellsAt w r.1 arr t ∧ r.2.2 ≤ arr.size
def Fg (w : World) (b : Nat) : Option TypeId := match w.heap[b]? with
 | some (.cells _ t _) => some t
 | _ => none
theorem qY {w w' : World} {b : Nat} (h : w'.heap[b]? = w.heap[b]?) : Fg w' b = Fg w b := by unfold Fg; rw [h]
theorem GQ {w : World} {b : Nat} {arr : Array Value} {t : TypeId} {f : Nat × Nat} (h : w.heap[b]? = some (.cells arr t f)) : Fg w b = some t := by unfold Fg; rw [h]
theorem CellsAt.ty {w : World} {b : Nat} {arr : Array Value} {t : TypeId} (h : CellsAt w b arr t) : Fg w b = some t := by
 obtain ⟨fz, h1, _⟩ := h
 exact GQ h1
def EntR (g : Gh) (w : World) : List (AV × AV) → List MapEntry → Prop
 | [], es => es = []
 | (k, v) :: l, es => ∃ e rest, es = e :: rest ∧ VR g w k e.key ∧ VR g w v e.val ∧ EntR g w l rest
def ObjR (g : Gh) (w : World) (b : Nat) : AObj → Prop
 | .cells t cs => ∃ arr, w.heap[b]? = some (.cells arr t (0, 0)) ∧ VRs g w cs arr.toList
 | .map es => ∃ entries clock, w.heap[b]? = some (.map entries clock) ∧ EntR g w es entries.toList
 | .mapI es => ∃ entries clock, w.heap[b]? = some (.map entries clock) ∧ MapKept.Stamped entries clock ∧ (entries.toList.map fun e => (e.key, e.val)) = es.map fun p => (Value.int .i64 p.1, Value.int .i64 p.2)
 | .rowS t xs => ∃ arr rest, w.heap[b]? = some (.cells arr t (0, 0)) ∧ arr.toList = (xs.map fun s => Value.string ⟨s.toArray⟩) ++ rest
 | .rowI t k xs => ∃ arr rest, w.heap[b]? = some (.cells arr t (0, 0)) ∧ arr.toList = xs.map (Value.int k) ++ rest
 | .rowC n els => els = [] ∨ ((∀ e ∈ els, e.length = n ∧ e.all AV.plain = true) ∧ ∃ arr t vs rest, CellsAt w b arr t ∧ arr.toList = vs ++ rest ∧ VRss g w els vs)
 | .loop key cs => ∃ r, w.heap[b]? = some (.loop r) ∧ r.state = .ready ∧ r.pending = none ∧ r.params.toList = (aB key).params ∧ r.assign = (aB key).assign ∧ r.body = (aB key).body ∧ r.tmps.size = (aB key).nt ∧
  VRs g w cs ((aB key).slots.map fun t => r.tmps.getD t undef)
 | .rowN k xs => xs = [] ∨ ∃ arr t rest, CellsAt w b arr t ∧ arr.toList = xs.map (Value.int k) ++ rest
 | .buf 0 t l => ∃ x u, w.heap[b]? = some (.cells #[x, u] t (0, 0)) ∧ (x = .pointer none ∨ x = .pointer (some ⟨b, 0, none⟩)) ∧ VR g w (.ints true .u8 l) u ∧ (l = [] → u = .slice none 0 0) ∧ ∀ a n c, u = .slice (some a) n c → l ≠ [] → Fg w a.block = some aaM
 | .buf 1 t l => ∃ (u : Value) (lr : Int), w.heap[b]? = some (.cells #[u, .int .i64 0, .int .i8 lr] t (0, 0)) ∧ VR g w (.ints true .u8 l) u ∧ (l = [] → u = .slice none 0 0) ∧ ∀ a n c, u = .slice a n c → c ≤ maxLen
 | .buf _ _ _ => False
 | .gone => True
def jo (w : World) (b : Nat) : AObj → List Rec
 | .cells _ cs => match w.heap[b]? with
  | some (.cells arr _ _) => aC cs arr.toList
  | _ => []
 | .buf 0 _ l => match w.heap[b]? with
  | some (.cells arr _ _) => owns (.ints true .u8 l) (arr.getD 1 undef)
  | _ => []
 | .buf 1 _ l => match w.heap[b]? with
  | some (.cells arr _ _) => owns (.ints true .u8 l) (arr.getD 0 undef)
  | _ => []
 | _ => []
def aU (w : World) : List AObj → List Nat → List Rec
 | o :: H, b :: bs => jo w b o ++ aU w H bs
 | _, _ => []
def lives : List AObj → List Nat → List Nat
 | o :: H, b :: bs => bif o.dead then lives H bs else b :: lives H bs
 | _, _ => []
def ObjsR (g : Gh) (w : World) : List AObj → List Nat → Prop
 | [], bs => bs = []
 | o :: H, bs => ∃ b cs, bs = b :: cs ∧ ObjR g w b o ∧ ObjsR g w H cs
def Keeps (F : Nat → Prop) (w : World) : Prop := ∃ bs : Array Obj, GdH bs ∧ ∀ b, b < bs.size → F b ∧ w.heap[b]? = bs[b]?
theorem Keeps.step {F F' : Nat → Prop} {w w' : World} (h : Keeps F w) (hf : ∀ b, F b → F' b) (he : ∀ b, F b → w'.heap[b]? = w.heap[b]?) : Keeps F' w' := by
 obtain ⟨bs, h1, h2⟩ := h
 exact ⟨bs, h1, fun b hb => ⟨hf b (h2 b hb).1, (he b (h2 b hb).1).trans (h2 b hb).2⟩⟩
structure Core (F : Nat → Prop) (g : Gh) (H : List AObj) (os : List Rec) (w : World) : Prop where
 heap : ObjsR g w H g.obj
 own : ∀ r, r ∈ os ∨ r ∈ aU w H g.obj → OwnOK g w r
 dist : ∀ b, oc b os + oc b (aU w H g.obj) + (lives H g.obj).count b ≤ 1
 notF : ∀ b, F b → oc b os + oc b (aU w H g.obj) + (lives H g.obj).count b = 0
 objlen : ∀ b, b ∈ lives H g.obj → g.len b = 0
 lenlt : ∀ b, 0 < g.len b → b < w.heap.size
 flt : ∀ b, F b → b < w.heap.size
 good : Keeps F w
structure Step (F : Nat → Prop) (g : Gh) (w : World) (g' : Gh) (w' : World) : Prop where
 cell : ∀ b j, j < g.len b → w'.cell? ⟨b, j, none⟩ = w.cell? ⟨b, j, none⟩
 ty : ∀ b, 0 < g.len b → Fg w' b = Fg w b
 bsz : ∀ b, mQ w b ≤ mQ w' b
 len : ∀ b, g.len b ≤ g'.len b
 frame : ∀ b, F b → w'.heap[b]? = w.heap[b]? ∧ g'.len b = g.len b
 size : w.heap.size ≤ w'.heap.size
 os : w'.os = w.os
 tape : w'.tape = w.tape
 output : w'.output = w.output
theorem Step.refl (F : Nat → Prop) (g : Gh) (w : World) : Step F g w g w := ⟨fun _ _ _ => rfl, fun _ _ => rfl, fun _ => Nat.le_refl _, fun _ => Nat.le_refl _, fun _ _ => ⟨rfl, rfl⟩, Nat.le_refl _, rfl, rfl, rfl⟩
theorem Step.trans {F : Nat → Prop} {g g1 g2 : Gh} {w w1 w2 : World} (h : Step F g w g1 w1) (k : Step F g1 w1 g2 w2) : Step F g w g2 w2 :=
 ⟨fun b j hj => (k.cell b j (Nat.lt_of_lt_of_le hj (h.len b))).trans (h.cell b j hj), fun b hb => (k.ty b (Nat.lt_of_lt_of_le hb (h.len b))).trans (h.ty b hb), fun b => Nat.le_trans (h.bsz b) (k.bsz b), fun b => Nat.le_trans (h.len b) (k.len b),
  fun b hb => ⟨(k.frame b hb).1.trans (h.frame b hb).1, (k.frame b hb).2.trans (h.frame b hb).2⟩, Nat.le_trans h.size k.size, k.os.trans h.os, k.tape.trans h.tape, k.output.trans h.output⟩
theorem Step.weaken {F F' : Nat → Prop} {g g' : Gh} {w w' : World} (h : Step F g w g' w') (hf : ∀ b, F' b → F b) : Step F' g w g' w' :=
 ⟨h.cell, h.ty, h.bsz, h.len, fun b hb => h.frame b (hf b hb), h.size, h.os, h.tape, h.output⟩
structure Ext (g : Gh) (w : World) (g' : Gh) (w' : World) : Prop where
 cell : ∀ b j, j < g.len b → w'.cell? ⟨b, j, none⟩ = w.cell? ⟨b, j, none⟩
 ty : ∀ b, 0 < g.len b → Fg w' b = Fg w b
 bsz : ∀ b, mQ w b ≤ mQ w' b
 len : ∀ b, g.len b ≤ g'.len b
 obj : ∀ (i b : Nat), g.obj[i]? = some b → g'.obj[i]? = some b
theorem Ext.refl (g : Gh) (w : World) : Ext g w g w := ⟨fun _ _ _ => rfl, fun _ _ => rfl, fun _ => Nat.le_refl _, fun _ => Nat.le_refl _, fun _ _ h => h⟩
theorem Step.aaN {F : Nat → Prop} {g g' : Gh} {w w' : World} (h : Step F g w g' w') (ho : ∀ (i b : Nat), g.obj[i]? = some b → g'.obj[i]? = some b) : Ext g w g' w' := ⟨h.cell, h.ty, h.bsz, h.len, ho⟩
theorem Reads.ext {g g' : Gh} {w w' : World} (e : Ext g w g' w') {a : Addr} {vs : List Value} (h : Reads g w a vs) : Reads g' w' a vs :=
 ⟨h.1, Nat.le_trans h.2.1 (e.len _), fun j hj => (e.cell _ _ (by have := h.2.1; omega)).trans (h.2.2 j hj)⟩
theorem Row.ext {g g' : Gh} {w w' : World} (e : Ext g w g' w') {own : Bool} {a : Option Addr} {n c sz : Nat} {vs : List Value} (h : Row g w own a n c sz vs) : Row g' w' own a n c sz vs :=
 ⟨h.1, h.2.1, h.2.2.1, fun hp => let ⟨ad, h1, h2⟩ := h.2.2.2.1 hp; ⟨ad, h1, h2.ext e⟩, h.2.2.2.2⟩
mutual
theorem VR.ext {g g' : Gh} {w w' : World} (e : Ext g w g' w') : ∀ (a : AV) (v : Value), VR g w a v → VR g' w' a v
 | .undef, _, _ => trivial
 | .int .., _, h => h
 | .bool .., _, h => h
 | .str .., _, h => h
 | .ints .., _, h => by
  simp only [VR] at h ⊢
  obtain ⟨a, n, c, h1, h2⟩ := h
  exact ⟨a, n, c, h1, h2.ext e⟩
 | .strs .., _, h => by
  simp only [VR] at h ⊢
  obtain ⟨a, n, c, h1, h2⟩ := h
  exact ⟨a, n, c, h1, h2.ext e⟩
 | .sl own sz els, _, h => by
  simp only [VR] at h ⊢
  obtain ⟨a, n, c, vs, h1, h2, h3, h4, h5⟩ := h
  exact ⟨a, n, c, vs, h1, h2.ext e, h3, h4, VRss.ext e els vs h5⟩
 | .eptr cs, _, h => by
  simp only [VR] at h ⊢
  obtain ⟨a, vs, h1, h2, h3, h4⟩ := h
  exact ⟨a, vs, h1, h2.ext e, VRs.ext e cs vs h3, h4⟩
 | .ptr none, _, h => h
 | .ptr (some (id, off)), _, h => by
  simp only [VR] at h ⊢
  obtain ⟨b, h1, h2⟩ := h
  exact ⟨b, h1, e.obj _ _ h2⟩
 | .mut .., _, h => by
  simp only [VR] at h ⊢
  obtain ⟨a, b, c, h1, h2, h3, h4⟩ := h
  exact ⟨a, b, c, h1, h2, h3, e.obj _ _ h4⟩
 | .map none, _, h => h
 | .map (some id), _, h => by
  simp only [VR] at h ⊢
  obtain ⟨b, h1, h2⟩ := h
  exact ⟨b, h1, e.obj _ _ h2⟩
 | .yld _, _, h => by
  simp only [VR] at h ⊢
  obtain ⟨b, h1, h2⟩ := h
  exact ⟨b, h1, e.obj _ _ h2⟩
 | .mo .., _, h => by
  simp only [VR] at h ⊢
  obtain ⟨a, b, c, h1, h2, h3, h4, h5, h6⟩ := h
  exact ⟨a, b, c, h1, h2, h3, e.obj _ _ h4, h5, fun h0 => ⟨(h6 h0).1, Nat.le_trans (h6 h0).2 (e.bsz b)⟩⟩
 | .func fn first cap, _, h => by
  simp only [VR] at h ⊢
  obtain ⟨xs, ys, h1, h2, h3⟩ := h
  exact ⟨xs, ys, h1, VRs.ext e first _ h2, VRs.ext e cap _ h3⟩
 | .nilFunc, _, h => h
 | .nilIface, _, h => h
 | .iface t x, _, h => by
  simp only [VR] at h ⊢
  obtain ⟨y, h1, h2⟩ := h
  exact ⟨y, h1, VR.ext e x y h2⟩
 | .agg cs, _, h => by
  simp only [VR] at h ⊢
  obtain ⟨vs, h1, h2⟩ := h
  exact ⟨vs, h1, VRs.ext e cs _ h2⟩
 | .tuple cs, _, h => by
  simp only [VR] at h ⊢
  obtain ⟨vs, h1, h2⟩ := h
  exact ⟨vs, h1, VRs.ext e cs _ h2⟩
theorem VRs.ext {g g' : Gh} {w w' : World} (e : Ext g w g' w') : ∀ (cs : List AV) (vs : List Value), VRs g w cs vs → VRs g' w' cs vs
 | [], _, h => h
 | c :: cs, vs, h => by
  simp only [VRs] at h ⊢
  obtain ⟨v, us, h1, h2, h3⟩ := h
  exact ⟨v, us, h1, VR.ext e c v h2, VRs.ext e cs us h3⟩
theorem VRss.ext {g g' : Gh} {w w' : World} (e : Ext g w g' w') : ∀ (es : List (List AV)) (vs : List Value), VRss g w es vs → VRss g' w' es vs
 | [], _, h => h
 | c :: cs, vs, h => by
  simp only [VRss] at h ⊢
  obtain ⟨p, q, h1, h2, h3⟩ := h
  exact ⟨p, q, h1, VRs.ext e c p h2, VRss.ext e cs q h3⟩
end
theorem EntR.ext {g g' : Gh} {w w' : World} (e : Ext g w g' w') : ∀ {l : List (AV × AV)} {es : List MapEntry}, EntR g w l es → EntR g' w' l es
 | [], es, h => h
 | (k, v) :: l, es, h => by
  obtain ⟨x, rest, rfl, h1, h2, h3⟩ := h
  exact ⟨x, rest, rfl, VR.ext e _ _ h1, VR.ext e _ _ h2, h3.ext e⟩
mutual
theorem VR.disown {g : Gh} {w : World} : ∀ (a : AV) (v : Value), VR g w a v → VR g w (disown a) v
 | .undef, _, h => h
 | .int .., _, h => h
 | .bool .., _, h => h
 | .str .., _, h => h
 | .ints .., _, h => by
  simp only [VR, Sh.disown] at h ⊢
  obtain ⟨a, n, c, h1, h2⟩ := h
  exact ⟨a, n, c, h1, h2.1, h2.2.1, h2.2.2.1, h2.2.2.2.1, fun hh => (by simp at hh), h2.2.2.2.2.2⟩
 | .strs .., _, h => by
  simp only [VR, Sh.disown] at h ⊢
  obtain ⟨a, n, c, h1, h2⟩ := h
  exact ⟨a, n, c, h1, h2.1, h2.2.1, h2.2.2.1, h2.2.2.2.1, fun hh => (by simp at hh), h2.2.2.2.2.2⟩
 | .sl own sz els, _, h => by
  simp only [VR, Sh.disown] at h ⊢
  obtain ⟨a, n, c, vs, h1, h2, h3⟩ := h
  exact ⟨a, n, c, vs, h1, ⟨h2.1, h2.2.1, h2.2.2.1, h2.2.2.2.1, fun hh => (by simp at hh), h2.2.2.2.2.2⟩, h3⟩
 | .eptr cs, _, h => h
 | .ptr none, _, h => h
 | .ptr (some (id, off)), _, h => h
 | .mut .., _, h => h
 | .map none, _, h => h
 | .map (some id), _, h => h
 | .yld _, _, h => h
 | .mo .., _, h => h
 | .func fn first cap, _, h => by
  simp only [VR, Sh.disown] at h ⊢
  obtain ⟨xs, ys, h1, h2, h3⟩ := h
  exact ⟨xs, ys, h1, VRs.disown first _ h2, VRs.disown cap _ h3⟩
 | .nilFunc, _, h => h
 | .nilIface, _, h => h
 | .iface t x, _, h => by
  simp only [VR, Sh.disown] at h ⊢
  obtain ⟨y, h1, h2⟩ := h
  exact ⟨y, h1, VR.disown x y h2⟩
 | .agg cs, _, h => by
  simp only [VR, Sh.disown] at h ⊢
  obtain ⟨vs, h1, h2⟩ := h
  exact ⟨vs, h1, VRs.disown cs _ h2⟩
 | .tuple cs, _, h => by
  simp only [VR, Sh.disown] at h ⊢
  obtain ⟨vs, h1, h2⟩ := h
  exact ⟨vs, h1, VRs.disown cs _ h2⟩
theorem VRs.disown {g : Gh} {w : World} : ∀ (cs : List AV) (vs : List Value), VRs g w cs vs → VRs g w (disownL cs) vs
 | [], _, h => h
 | c :: cs, vs, h => by
  simp only [VRs, Sh.disownL] at h ⊢
  obtain ⟨v, us, h1, h2, h3⟩ := h
  exact ⟨v, us, h1, VR.disown c v h2, VRs.disown cs us h3⟩
end
mutual
theorem ma : ∀ (a : AV) (v : Value), owns (disown a) v = []
 | .undef, v => by cases v <;> rfl
 | .int .., v => by cases v <;> rfl
 | .bool .., v => by cases v <;> rfl
 | .str .., v => by cases v <;> rfl
 | .ints .., v => by cases v <;> rfl
 | .strs .., v => by cases v <;> rfl
 | .sl .., v => by cases v <;> rfl
 | .eptr _, v => by cases v <;> rfl
 | .ptr _, v => by cases v <;> rfl
 | .mut .., v => by cases v <;> rfl
 | .map _, v => by cases v <;> rfl
 | .yld _, v => by cases v <;> rfl
 | .mo .., v => by cases v <;> rfl
 | .func .., v => by cases v <;> rfl
 | .nilFunc, v => by cases v <;> rfl
 | .nilIface, v => by cases v <;> rfl
 | .iface .., v => by cases v <;> rfl
 | .agg cs, v => by cases v <;> simp [disown, owns, tY cs]
 | .tuple cs, v => by cases v <;> simp [disown, owns, tY cs]
theorem tY : ∀ (cs : List AV) (vs : List Value), aC (disownL cs) vs = []
 | [], vs => by cases vs <;> rfl
 | c :: cs, vs => by
  cases vs with
  | nil => rfl
  | cons v vs => simp [disownL, aC, ma c, tY cs]
end
theorem VRs.length {g : Gh} {w : World} : ∀ {cs : List AV} {vs : List Value}, VRs g w cs vs → cs.length = vs.length
 | [], vs, h => by simp only [VRs] at h; subst h; rfl
 | c :: cs, vs, h => by
  simp only [VRs] at h
  obtain ⟨v, us, rfl, _, h3⟩ := h
  simp [VRs.length h3]
theorem VRs.get {g : Gh} {w : World} : ∀ {cs : List AV} {vs : List Value}, VRs g w cs vs → ∀ (i : Nat) (c : AV), cs[i]? = some c → ∃ v, vs[i]? = some v ∧ VR g w c v
 | [], _, _, i, c, hc => by simp at hc
 | c :: cs, vs, h, i, c', hc => by
  simp only [VRs] at h
  obtain ⟨v, us, rfl, h2, h3⟩ := h
  cases i with
  | zero => simp at hc; subst hc; exact ⟨v, rfl, h2⟩
  | succ i => simp at hc; simpa using VRs.get h3 i c' hc
theorem VRs.append {g : Gh} {w : World} : ∀ {cs : List AV} {vs : List Value} {ds : List AV} {us : List Value}, VRs g w cs vs → VRs g w ds us → VRs g w (cs ++ ds) (vs ++ us)
 | [], vs, ds, us, h, k => by simp only [VRs] at h; subst h; simpa using k
 | c :: cs, vs, ds, us, h, k => by
  simp only [VRs] at h
  obtain ⟨v, us', rfl, h2, h3⟩ := h
  simp only [List.cons_append, VRs]
  exact ⟨v, us' ++ us, rfl, h2, VRs.append h3 k⟩
theorem VRs.drop {g : Gh} {w : World} : ∀ {cs : List AV} {vs : List Value} (n : Nat), VRs g w cs vs → VRs g w (cs.drop n) (vs.drop n)
 | [], vs, n, h => by simp only [VRs] at h; subst h; simp [VRs]
 | c :: cs, vs, n, h => by
  cases n with
  | zero => simpa using h
  | succ n =>
   simp only [VRs] at h
   obtain ⟨v, us', rfl, h2, h3⟩ := h
   simpa using VRs.drop n h3
theorem VRs.take {g : Gh} {w : World} : ∀ {cs : List AV} {vs : List Value} (n : Nat), VRs g w cs vs → VRs g w (cs.take n) (vs.take n)
 | [], vs, n, h => by simp only [VRs] at h; subst h; simp [VRs]
 | c :: cs, vs, n, h => by
  cases n with
  | zero => simp [VRs]
  | succ n =>
   simp only [VRs] at h
   obtain ⟨v, us', rfl, h2, h3⟩ := h
   simp only [List.take_succ_cons, VRs]
   exact ⟨v, _, rfl, h2, VRs.take n h3⟩
theorem Core.weaken {F : Nat → Prop} {g : Gh} {H : List AObj} {os os' : List Rec} {w : World} (h : Core F g H os w) (h1 : ∀ r, r ∈ os' → r ∈ os) (h2 : ∀ b, oc b os' ≤ oc b os) : Core F g H os' w :=
 ⟨h.heap, fun r hr => h.own r (hr.imp (h1 r) id), fun b => by have := h.dist b; have := h2 b; omega, fun b hb => by have := h.notF b hb; have := h2 b; omega, h.objlen, h.lenlt, h.flt, h.good⟩
def af (s : St) : Nat → List Value → List Rec
 | _, [] => []
 | t, v :: vs => owns (s.get t) v ++ af s (t + 1) vs
end Go.Sh
namespace Go.Sh
open Go.RowKit
theorem iO (d : Nat) (v : AV) (l : List (Nat × AV)) (H : List AObj) (t : Nat) : (⟨(d, v) :: l, H⟩ : St).get t = if d = t then v else (⟨l, H⟩ : St).get t := by
 show NJ ((d, v) :: l) t = _
 by_cases h : d = t
 ·subst h; simp [NJ]
 ·rw [if_neg h]
  show _ = NJ l t
  have : (d == t) = false := beq_eq_false_iff_ne.2 h
  simp only [NJ, this, cond_false]
theorem vH {s s' : St} : ∀ (l : List Value) (i : Nat), (∀ t, i ≤ t → s.get t = s'.get t) → af s i l = af s' i l
 | [], _, _ => rfl
 | v :: l, i, h => by
  simp only [af]
  rw [h i (Nat.le_refl _), vH l (i + 1) (fun t ht => h t (by omega))]
theorem KY {s s' : St} {d : Nat} (h : ∀ t, t ≠ d → s'.get t = s.get t) {v' : Value} : ∀ (l : List Value) (i : Nat), i ≤ d →
 (∀ b, oc b (af s' i (l.set (d - i) v')) ≤ oc b (owns (s'.get d) v') + oc b (af s i l)) ∧
 (∀ r, r ∈ af s' i (l.set (d - i) v') → r ∈ owns (s'.get d) v' ∨ r ∈ af s i l)
 | [], _, _ => ⟨fun b => by simp [af, nO], fun r hr => by simp [af] at hr⟩
 | u :: l, i, hi => by
  by_cases e : i = d
  ·subst e
   have hc : af s' (i + 1) l = af s (i + 1) l := vH l (i + 1) (fun t ht => h t (by omega))
   simp only [Nat.sub_self, List.set_cons_zero, af, hc]
   exact ⟨fun b => by simp only [ax]; omega, fun r hr => by simp only [List.mem_append] at hr ⊢; rcases hr with hr | hr <;> simp [hr]⟩
  ·obtain ⟨k, hk⟩ : ∃ k, d - i = k + 1 := ⟨d - i - 1, by omega⟩
   have hk' : k = d - (i + 1) := by omega
   obtain ⟨h1, h2⟩ := KY (s := s) (s' := s') h (v' := v') l (i + 1) (by omega)
   rw [hk]
   simp only [List.set_cons_succ, af, hk', h i (by omega)]
   exact ⟨fun b => by have := h1 b; simp only [ax]; omega, fun r hr => by
    simp only [List.mem_append] at hr ⊢
    rcases hr with hr | hr
    ·simp [hr]
    ·rcases h2 r hr with h3 | h3 <;> simp [h3]⟩
theorem yu (a : AV) : owns a undef = [] := by
 show owns a (.tuple #[]) = []
 cases a with
 | ints o k l => cases o <;> rfl
 | strs o l => cases o <;> rfl
 | sl o sz els => cases o <;> rfl
 | tuple cs => cases cs <;> rfl
 | _ => rfl
theorem BG {s s' : St} {d : Nat} (h : ∀ t, t ≠ d → s'.get t = s.get t) (hd : ∀ v, owns (s'.get d) v = []) : ∀ (l : List Value) (i : Nat), i ≤ d →
 (∀ b, oc b (owns (s.get d) (l.getD (d - i) undef)) + oc b (af s' i l) ≤ oc b (af s i l)) ∧
 (∀ r, r ∈ owns (s.get d) (l.getD (d - i) undef) ∨ r ∈ af s' i l → r ∈ af s i l)
 | [], i, _ => by
  have hu : owns (s.get d) undef = [] := yu _
  exact ⟨fun b => by simp [af, nO, hu], fun r hr => by simp [af, hu] at hr⟩
 | u :: l, i, hi => by
  by_cases e : i = d
  ·subst e
   have hc : af s' (i + 1) l = af s (i + 1) l := vH l (i + 1) (fun t ht => h t (by omega))
   simp only [Nat.sub_self, List.getD_cons_zero, af, hc, hd, List.nil_append]
   exact ⟨fun b => by simp only [ax]; omega, fun r hr => by simpa [List.mem_append] using hr⟩
  ·obtain ⟨k, hk⟩ : ∃ k, d - i = k + 1 := ⟨d - i - 1, by omega⟩
   have hk' : k = d - (i + 1) := by omega
   obtain ⟨h1, h2⟩ := BG (s := s) (s' := s') h hd l (i + 1) (by omega)
   rw [hk]
   simp only [List.getD_cons_succ, af, hk', h i (by omega)]
   exact ⟨fun b => by have := h1 b; simp only [ax]; omega, fun r hr => by
    simp only [List.mem_append] at hr ⊢
    rcases hr with hr | hr | hr
    ·exact .inr (h2 r (.inl hr))
    ·exact .inl hr
    ·exact .inr (h2 r (.inr hr))⟩
structure Cx where
 P : Program
 nb : Nat
 nt : Nat
structure SimX (F : Nat → Prop) (nt : Nat) (g : Gh) (s : St) (a : Act) (w : World) (os : List Rec) : Prop where
 size : a.tmps.size = nt
 slots : ∀ t, VR g w (s.get t) (a.tmps.getD t undef)
 core : Core F g s.heap (os ++ af s 0 a.tmps.toList) w
theorem SimX.less {F : Nat → Prop} {nt : Nat} {g : Gh} {s : St} {a : Act} {w : World} {os os' : List Rec} (h : SimX F nt g s a w os) (h1 : ∀ r, r ∈ os' → r ∈ os) (h2 : ∀ b, oc b os' ≤ oc b os) : SimX F nt g s a w os' :=
 ⟨h.size, h.slots, h.core.weaken (fun r hr => by rw [List.mem_append] at hr ⊢; exact hr.imp (h1 r) id) (fun b => by have := h2 b; simp only [ax]; omega)⟩
theorem SimX.none {F : Nat → Prop} {nt : Nat} {g : Gh} {s : St} {a : Act} {w : World} {os : List Rec} (h : SimX F nt g s a w os) : SimX F nt g s a w [] := h.less (fun r hr => by simp at hr) (fun b => by simp [nO])
theorem SimX.put {F : Nat → Prop} {nt : Nat} {g : Gh} {s : St} {a : Act} {w : World} {v : AV} {v' : Value} (h : SimX F nt g s a w (owns v v')) (hv : VR g w v v') (d : Option Nat) (hlt : ∀ t, d = some t → t < nt) : SimX F nt g (s.put d v) (a.put d v') w [] := by
 cases d with
 | none => exact h.none
 | some d =>
  have hg : ∀ t, (s.put (some d) v).get t = if d = t then v else s.get t := fun t => iO d v s.slots s.heap t
  refine ⟨by simp [Act.put, h.size], fun t => ?_, ?_⟩
  ·rw [hg]
   simp only [Act.put]
   rw [Array.getD_eq_getD_getElem?, Array.getElem?_setIfInBounds]
   by_cases e : d = t
   ·subst e
    rw [if_pos rfl, if_pos rfl]
    rw [if_pos (by have := hlt d rfl; have := h.size; omega)]; exact hv
   ·rw [if_neg e, if_neg e]
    have hs := h.slots t
    rwa [Array.getD_eq_getD_getElem?] at hs
  ·have hp := KY (s := s) (s' := s.put (some d) v) (d := d) (fun t ht => by rw [hg, if_neg (fun e => ht e.symm)]) (v' := v') a.tmps.toList 0 (Nat.zero_le _)
   have hl : (a.put (some d) v').tmps.toList = a.tmps.toList.set (d - 0) v' := by simp [Act.put]
   have hd : (s.put (some d) v).get d = v := by rw [hg, if_pos rfl]
   rw [hd] at hp
   rw [hl]
   exact h.core.weaken (fun r hr => by simpa [List.mem_append] using hp.2 r (by simpa using hr)) (fun b => by have := hp.1 b; simpa [ax] using this)
end Go.Sh
namespace Go.Sh
open Go.RowKit
mutual
def KZ : AV → Value → Bool
 | .int k n, .int k' n' => decide (k = k') && decide (n = n')
 | .bool a, .bool b => a == b
 | .str l, .string s => decide (l = s.data.toList)
 | .ints _ _ [], .slice none 0 0 => true
 | .strs _ [], .slice none 0 0 => true
 | .sl _ _ [], .slice none 0 0 => true
 | .ptr none, .pointer none => true
 | .map none, .map none => true
 | .nilFunc, .nilFunc => true
 | .nilIface, .nilIface => true
 | .agg cs, .agg vs => K3 cs vs.toList
 | _, _ => false
def K3 : List AV → List Value → Bool
 | [], [] => true
 | c :: cs, v :: vs => KZ c v && K3 cs vs
 | _, _ => false
end
theorem BH (g : Gh) (w : World) (own : Bool) (sz : Nat) : Row g w own none 0 0 sz [] :=
 ⟨by simp, Nat.le_refl _, by omega, fun h => by simp at h, fun _ ad h => by simp at h, fun _ => ⟨rfl, rfl⟩, fun u hu => by simp at hu⟩
mutual
theorem K4 (g : Gh) (w : World) : ∀ (a : AV) (v : Value), KZ a v = true → VR g w a v ∧ owns a v = []
 | .int k n, .int k' n', h => by
  simp only [KZ, Bool.and_eq_true, decide_eq_true_eq] at h
  obtain ⟨rfl, rfl⟩ := h
  exact ⟨by simp [VR], rfl⟩
 | .bool a, .bool b, h => by
  simp only [KZ, beq_iff_eq] at h
  subst h
  exact ⟨by simp [VR], rfl⟩
 | .str l, .string s, h => by
  simp only [KZ, decide_eq_true_eq] at h
  exact ⟨by simp only [VR]; exact ⟨s, rfl, h.symm⟩, rfl⟩
 | .ints o _ [], .slice none 0 0, _ => ⟨by simp only [VR]; exact ⟨none, 0, 0, rfl, BH _ _ _ _⟩, by cases o <;> rfl⟩
 | .strs o [], .slice none 0 0, _ => ⟨by simp only [VR]; exact ⟨none, 0, 0, rfl, BH _ _ _ _⟩, by cases o <;> rfl⟩
 | .sl o sz [], .slice none 0 0, _ => ⟨by simp only [VR]; exact ⟨none, 0, 0, [], rfl, BH _ _ _ _, rfl, by simp, by simp [VRss]⟩, by cases o <;> rfl⟩
 | .ptr none, .pointer none, _ => ⟨by simp [VR], rfl⟩
 | .map none, .map none, _ => ⟨by simp [VR], rfl⟩
 | .nilFunc, .nilFunc, _ => ⟨by simp [VR], rfl⟩
 | .nilIface, .nilIface, _ => ⟨by simp [VR], rfl⟩
 | .agg cs, .agg vs, h => by
  simp only [KZ] at h
  obtain ⟨h1, h2⟩ := Iw g w cs vs.toList h
  exact ⟨by simp only [VR]; exact ⟨vs, rfl, h1⟩, by simp [owns, h2]⟩
theorem Iw (g : Gh) (w : World) : ∀ (cs : List AV) (vs : List Value), K3 cs vs = true → VRs g w cs vs ∧ aC cs vs = []
 | [], [], _ => ⟨by simp [VRs], rfl⟩
 | c :: cs, v :: vs, h => by
  simp only [K3, Bool.and_eq_true] at h
  obtain ⟨h1, h2⟩ := K4 g w c v h.1
  obtain ⟨h3, h4⟩ := Iw g w cs vs h.2
  exact ⟨by simp only [VRs]; exact ⟨v, vs, rfl, h1, h3⟩, by simp [aC, h2, h4]⟩
end
def bA : AX → Operand → Bool
 | .tmp t, .tmp u => t == u
 | .take t, .tmp u => t == u
 | .cst v, .const c => KZ v c
 | .cst (.func (.func f) [] []), .func f' => f == f'
 | _, _ => false
def wU : List AX → List Operand → Bool
 | [], [] => true
 | x :: xs, o :: os => bA x o && wU xs os
 | _, _ => false
theorem AX.ok {F : Nat → Prop} {nt : Nat} {g : Gh} {s : St} {a : Act} {w : World} {os : List Rec} {x : AX} {o : Operand} (h : SimX F nt g s a w os) (hx : bA x o = true) :
 VR g w (x.ev s) (a.eval o) ∧ SimX F nt g (x.st s) a w (owns (x.ev s) (a.eval o) ++ os) := by
 cases x with
 | tmp t =>
  cases o with
  | tmp u =>
   simp only [bA, beq_iff_eq] at hx
   subst hx
   exact ⟨VR.disown _ _ (h.slots t), by simp only [AX.ev, AX.st, ma, List.nil_append]; exact h⟩
  | _ => simp [bA] at hx
 | take t =>
  cases o with
  | tmp u =>
   simp only [bA, beq_iff_eq] at hx
   subst hx
   have hg : ∀ t', ((AX.take t).st s).get t' = if t = t' then disown (s.get t) else s.get t' := fun t' => iO t (disown (s.get t)) s.slots s.heap t'
   refine ⟨h.slots t, h.size, fun t' => ?_, ?_⟩
   ·rw [hg]
    by_cases e : t = t'
    ·subst e; rw [if_pos rfl]; exact VR.disown _ _ (h.slots t)
    ·rw [if_neg e]; exact h.slots t'
   ·have hp := BG (s := s) (s' := (AX.take t).st s) (d := t) (fun t' ht => by rw [hg, if_neg (fun e => ht e.symm)]) (fun v => by rw [hg, if_pos rfl, ma]) a.tmps.toList 0 (Nat.zero_le _)
    have he : a.tmps.toList.getD (t - 0) undef = a.eval (.tmp t) := by simp [Act.eval, List.getD_eq_getElem?_getD, Array.getD_eq_getD_getElem?]
    rw [he] at hp
    refine h.core.weaken (fun r hr => ?_) (fun b => ?_)
    ·simp only [List.mem_append] at hr ⊢
     rcases hr with (hr | hr) | hr
     ·exact .inr (hp.2 r (.inl hr))
     ·exact .inl hr
     ·exact .inr (hp.2 r (.inr hr))
    ·have := hp.1 b
     simp only [ax]
     simp only [AX.ev] at this ⊢
     omega
  | _ => simp [bA] at hx
 | cst v =>
  cases o with
  | const c =>
   simp only [bA] at hx
   obtain ⟨h1, h2⟩ := K4 g w v c hx
   exact ⟨h1, by simp only [AX.ev, AX.st, Act.eval, h2, List.nil_append]; exact h⟩
  | func f =>
   cases v with
   | func fn f1 c1 =>
    cases fn <;> cases f1 <;> cases c1 <;> simp [bA] at hx
    subst hx
    exact ⟨by simp only [AX.ev, VR]; exact ⟨#[], #[], rfl, by simp [VRs], by simp [VRs]⟩, by simpa [AX.ev, AX.st, owns] using h⟩
   | _ => simp [bA] at hx
  | _ => simp [bA] at hx
theorem AX.oks {F : Nat → Prop} {nt : Nat} {g : Gh} {a : Act} {w : World} : ∀ {xs : List AX} {ys : List Operand} {s : St} {os : List Rec}, SimX F nt g s a w os → wU xs ys = true →
 VRs g w (evs s xs) (ys.map a.eval) ∧ SimX F nt g (sts s xs) a w (aC (evs s xs) (ys.map a.eval) ++ os)
 | [], [], _, _, h, _ => ⟨by simp [evs, VRs], by simpa [evs, sts, aC] using h⟩
 | [], _ :: _, _, _, _, hx => by simp [wU] at hx
 | _ :: _, [], _, _, _, hx => by simp [wU] at hx
 | x :: xs, y :: ys, s, os, h, hx => by
  simp only [wU, Bool.and_eq_true] at hx
  obtain ⟨h1, h2⟩ := AX.ok h hx.1
  obtain ⟨h3, h4⟩ := AX.oks h2 hx.2
  refine ⟨by simp only [evs, List.map_cons, VRs]; exact ⟨_, _, rfl, h1, h3⟩, ?_⟩
  simp only [evs, sts, List.map_cons, aC]
  exact h4.less (fun r hr => by simp only [List.mem_append] at hr ⊢; rcases hr with (hr | hr) | hr <;> simp [hr]) (fun b => by simp only [ax]; omega)
def fw (ro : Option Nat) : Fence := { Fence.wide with round := ro }
theorem Jp {P : Program} {o : Oper} {ρ : Operand → Value} {w w' : World} {x : Next} (h : (execOp ρ o).run P w = .ok x w') (hx : ∀ d, x ≠ .defer d) : ∀ c, o.op ≠ .defer c := by
 intro c hc
 simp only [execOp, hc, Sem.run_bind] at h
 cases hr : (resolve ρ c o.type).run P w with
 | ok d w1 => rw [hr] at h; simp [Result.andThen, Sem.run_pure] at h; exact hx _ h.1.symm
 | halt e w1 => rw [hr] at h; simp [Result.andThen] at h
theorem VA {P : Program} {o : Oper} {a : Act} {w w' : World} {v : Value} {ro : Option Nat} {n : Nat} {next : Act → World → Prop} {Q : Exit → Act → World → Prop} (h : (execOp a.eval o).run P w = .ok (.value v) w') (hn : next (a.put o.dst v) w') : o.wpIn (fw ro) n P a w next Q := by
 refine ⟨fun _ _ => trivial, ?_⟩
 rw [Oper.semAt_eq _ _ _ (Jp h (by simp)), h]
 exact hn
theorem K5 {P : Program} {o : Oper} {a : Act} {w w' : World} {ro : Option Nat} {n : Nat} {next : Act → World → Prop} {Q : Exit → Act → World → Prop} (h : (execOp a.eval o).run P w = .ok .skip w') (hn : next (a.put o.dst undef) w') : o.wpIn (fw ro) n P a w next Q := by
 refine ⟨fun _ _ => trivial, ?_⟩
 rw [Oper.semAt_eq _ _ _ (Jp h (by simp)), h]
 exact hn
theorem PE {P : Program} {o : Oper} {a : Act} {w w' : World} {f : FuncId} {args : Array Value} {ro : Option Nat} {n : Nat} {next : Act → World → Prop} {Q : Exit → Act → World → Prop} (h : (execOp a.eval o).run P w = .ok (.enter f args) w')
 (hn : Calls P f args w' fun e w'' => ∃ v, e = .returned v ∧ next (a.put o.dst v) w'') : o.wpIn (fw ro) n P a w next Q := by
 refine ⟨fun _ _ => trivial, ?_⟩
 rw [Oper.semAt_eq _ _ _ (Jp h (by simp)), h, Oper.uponIn_enter]
 refine ⟨fun hd => (by cases hd), ?_⟩
 have hc : CallsIn Fence.wide (n - 1) P f args w' fun e w'' => ∃ v, e = .returned v ∧ next (a.put o.dst v) w'' := callsIn_wide.2 hn
 exact CallsIn.mono (F := fw ro) hc (by rintro e w'' ⟨v, rfl, h⟩; exact h)
def OpSem (c : Cx) (o : Oper) (s : St) (v : AV) (s' : St) : Prop :=
 ∀ (F : Nat → Prop) (g : Gh) (a : Act) (w : World) (B : List Nat), B.length = B.length → B <+: g.obj → SimX F c.nt g s a w [] →
  ∀ (ro : Option Nat) (dn : Nat) (next : Act → World → Prop) (Q : Exit → Act → World → Prop),
   (∀ v' g' w', VR g' w' v v' → B <+: g'.obj → SimX F c.nt g' s' a w' (owns v v') → Step F g w g' w' → next (a.put o.dst v') w') → o.wpIn (fw ro) dn c.P a w next Q
def bK (c : Cx) (p : AOp) (o : Oper) : Prop :=
 ∀ (s : St) (R : Type) (k : AV → St → Option R) (r : R), p.run s R k = some r → ∃ v s', k v s' = some r ∧ OpSem c o s v s'
theorem OpSem.run {c : Cx} {o : Oper} {s : St} {v : AV} {s' : St}
 (h : ∀ (F : Nat → Prop) (g : Gh) (a : Act) (w : World) (B : List Nat), B.length = B.length → B <+: g.obj → SimX F c.nt g s a w [] →
  ∃ v' g' w', (execOp a.eval o).run c.P w = .ok (.value v') w' ∧ VR g' w' v v' ∧ B <+: g'.obj ∧ SimX F c.nt g' s' a w' (owns v v') ∧ Step F g w g' w') : OpSem c o s v s' := by
 intro F g a w B hB hp hs ro dn next Q hn
 obtain ⟨v', g', w', h1, h2, h3, h4, h5⟩ := h F g a w B hB hp hs
 exact VA h1 (hn v' g' w' h2 h3 h4 h5)
theorem OpSem.pure {c : Cx} {o : Oper} {s : St} {v : AV}
 (h : ∀ (F : Nat → Prop) (g : Gh) (a : Act) (w : World), SimX F c.nt g s a w [] → ∃ v', (execOp a.eval o).run c.P w = .ok (.value v') w ∧ VR g w v v' ∧ owns v v' = []) : OpSem c o s v s :=
 OpSem.run fun F g a w B _ hp hs => by
  obtain ⟨v', h1, h2, h3⟩ := h F g a w hs
  exact ⟨v', g, w, h1, h2, hp, by rw [h3]; exact hs, Step.refl _ _ _⟩
theorem aj {F : Nat → Prop} {nt : Nat} {g : Gh} {s : St} {a : Act} {w : World} {os : List Rec} {x : AX} {o : Operand} (h : SimX F nt g s a w os) (hx : bA x o = true) : VR g w (x.ev s) (a.eval o) := (AX.ok h hx).1
end Go.Sh
namespace Go.Sh
open Go.RowKit
set_option linter.unusedSimpArgs false
set_option linter.unusedVariables false
variable {c : Cx} {o : Oper}
theorem ZV {x : AX} {y : Operand} (h : o.op = .move y ∨ o.op = .assign y) (hx : bA x y = true) : bK c (.mv x) o := by
 intro s R k r hr
 refine ⟨x.ev s, x.st s, hr, OpSem.run fun F g a w B _ hp hs => ?_⟩
 obtain ⟨h1, h2⟩ := AX.ok hs hx
 exact ⟨a.eval y, g, w, by rcases h with h | h <;> simp [execOp, h, Sem.run], h1, hp, by simpa using h2, Step.refl _ _ _⟩
theorem aad {x : AX} {y : Operand} (h : o.op = .nilCheck y) (hx : bA x y = true) : bK c (.chk x) o := by
 intro s R k r hr
 have key : ∀ v, x.ev s = v → (∀ F g (a : Act) w, SimX F c.nt g s a w [] → VR g w v (a.eval y) → owns v (a.eval y) = [] ∧ (execOp a.eval o).run c.P w = .ok (.value (a.eval y)) w) → k v (x.st s) = some r → ∃ v s', k v s' = some r ∧ OpSem c o s v s' := by
  intro v hv hrun hk
  refine ⟨v, x.st s, hk, OpSem.run fun F g a w B _ hp hs => ?_⟩
  obtain ⟨h1, h2⟩ := AX.ok hs hx
  rw [hv] at h1 h2
  obtain ⟨h3, h4⟩ := hrun F g a w hs h1
  exact ⟨a.eval y, g, w, h4, h1, hp, by simpa using h2, Step.refl _ _ _⟩
 simp only [AOp.run] at hr
 split at hr
 ·rename_i p hv
  obtain ⟨id, off⟩ := p
  refine key _ hv (fun F g a w hs h1 => ?_) hr
  simp only [VR] at h1
  obtain ⟨b, h2, _⟩ := h1
  rw [h2]
  exact ⟨rfl, by simp [execOp, h, h2, Sem.run]⟩
 ·rename_i cs hv
  refine key _ hv (fun F g a w hs h1 => ?_) hr
  simp only [VR] at h1
  obtain ⟨b, vs, h2, _⟩ := h1
  rw [h2]
  exact ⟨rfl, by simp [execOp, h, h2, Sem.run]⟩
 ·rename_i f a1 b1 hv
  refine key _ hv (fun F g a w hs h1 => ?_) hr
  simp only [VR] at h1
  obtain ⟨b, vs, h2, _⟩ := h1
  rw [h2]
  exact ⟨rfl, by simp [execOp, h, h2, Sem.run]⟩
 ·exact absurd hr (by simp)
theorem K6 {F : Nat → Prop} {nt : Nat} {g : Gh} {s : St} {a : Act} {w : World} {os : List Rec} {x : AX} {y : Operand} {b : Bool} (h : SimX F nt g s a w os) (hx : bA x y = true) (hb : a.eval y = .bool b) : SimX F nt g (x.know s b) a w os := by
 cases x with
 | tmp t =>
  cases y with
  | tmp u =>
   simp only [bA, beq_iff_eq] at hx
   subst hx
   have hg : ∀ t', ((AX.tmp t).know s b).get t' = if t = t' then .bool b else s.get t' := fun t' => iO t (.bool b) s.slots s.heap t'
   have ho : ∀ v, owns (.bool b) v = [] := fun v => by cases v <;> rfl
   refine ⟨h.size, fun t' => ?_, ?_⟩
   ·rw [hg]
    by_cases e : t = t'
    ·subst e; rw [if_pos rfl]; simp only [VR]; exact hb
    ·rw [if_neg e]; exact h.slots t'
   ·have hp := BG (s := s) (s' := (AX.tmp t).know s b) (d := t) (fun t' ht => by rw [hg, if_neg (fun e => ht e.symm)]) (fun v => by rw [hg, if_pos rfl, ho]) a.tmps.toList 0 (Nat.zero_le _)
    refine h.core.weaken (fun r hr => ?_) (fun b => ?_)
    ·simp only [List.mem_append] at hr ⊢
     exact hr.imp id (fun hr => hp.2 r (.inr hr))
    ·have := hp.1 b
     simp only [ax]
     omega
  | _ => simp [bA] at hx
 | _ => exact h
theorem YU {x p q : AX} {y u v : Operand} (h : o.op = .pick y u v) (hx : bA x y = true) (hp : bA p u = true) (hq : bA q v = true) : bK c (.pick x p q) o := by
 intro s R k r hr
 simp only [AOp.run] at hr
 split at hr
 ·rename_i t ht
  have key : ∀ (b : Bool) (m : AX) (z : Operand), t = b → bA m z = true → (b = true → z = u) → (b = false → z = v) → OpSem c o s (disown (m.ev s)) (x.know s b) := by
   intro b m z hb hm hu hv
   refine OpSem.run fun F g a w B _ hpre hs => ?_
   have h1 := aj hs hx
   rw [ht] at h1
   simp only [VR] at h1
   have h2 := aj hs hm
   refine ⟨a.eval z, g, w, ?_, VR.disown _ _ h2, hpre, ?_, Step.refl _ _ _⟩
   ·cases b
    ·rw [hv rfl]; simp [execOp, h, h1, hb, asBool, Sem.run]
    ·rw [hu rfl]; simp [execOp, h, h1, hb, asBool, Sem.run]
   ·rw [ma]; exact K6 hs hx (by rw [h1, hb])
  cases t with
  | true => exact ⟨_, _, hr, key true p u rfl hp (fun _ => rfl) (fun e => by simp at e)⟩
  | false => exact ⟨_, _, hr, key false q v rfl hq (fun e => by simp at e) (fun _ => rfl)⟩
 ·exact absurd hr (by simp)
theorem ae {α : Type} {b : Bool} {x y : Option α} {r : α} (h : cond b x y = some r) : (b = true ∧ x = some r) ∨ (b = false ∧ y = some r) := by
 cases b
 ·exact .inr ⟨rfl, h⟩
 ·exact .inl ⟨rfl, h⟩
def aaO (c : Cx) (o : Oper) (s : St) (v : AV) : Prop :=
 ∀ (F : Nat → Prop) (g : Gh) (a : Act) (w : World), SimX F c.nt g s a w [] → ∃ v', (execOp a.eval o).run c.P w = .ok (.value v') w ∧ VR g w v v' ∧ owns v v' = []
theorem ek {p : AOp} (h : ∀ (s : St) (R : Type) (k : AV → St → Option R) (r : R), p.run s R k = some r → ∃ v, k v s = some r ∧ aaO c o s v) : bK c p o := fun s R k r hr =>
 let ⟨v, h1, h2⟩ := h s R k r hr
 ⟨v, s, h1, OpSem.pure h2⟩
theorem WW {n : Nat} (h : n ≤ 9223372036854775807) : ¬ ((n : Nat) : Int) > IntKind.i64.max := by
 have e : IntKind.i64.max = 9223372036854775807 := rfl
 rw [e]
 omega
theorem YV (P : Program) (op : BinOp) (t : TypeId) (x y : Operand) {a b : AV} {R : Type} {k : AV → Option R} {r : R} (h : Z9 op a b k = some r) :
 ∃ v, k v = some r ∧ ∀ (g : Gh) (w : World) (va vb : Value), VR g w a va → VR g w b vb → ∃ v', (do eqGuard op t x y va vb; binOp op t va vb : Sem Value).run P w = .ok v' w ∧ VR g w v v' ∧ owns v v' = [] := by
 unfold Z9 at h
 split at h
 ·rename_i ka x1 kb y1
  cases op
  case shl =>
   obtain ⟨h1, h2⟩ | ⟨h1, h2⟩ := ae h
   ·exact absurd h2 (by simp)
   ·simp only [decide_eq_false_iff_not] at h1
    refine ⟨_, h2, fun g w va vb ha hb => ?_⟩
    simp only [VR] at ha hb; subst ha; subst hb
    exact ⟨_, by simp [eqGuard, binOp, Op.shift, h1, Sem.run]; rfl, by simp [VR], rfl⟩
  case shr =>
   obtain ⟨h1, h2⟩ | ⟨h1, h2⟩ := ae h
   ·exact absurd h2 (by simp)
   ·simp only [decide_eq_false_iff_not] at h1
    refine ⟨_, h2, fun g w va vb ha hb => ?_⟩
    simp only [VR] at ha hb; subst ha; subst hb
    exact ⟨_, by simp [eqGuard, binOp, Op.shift, h1, Sem.run]; rfl, by simp [VR], rfl⟩
  case quo =>
   obtain ⟨h0, h2⟩ | ⟨h0, h2⟩ := ae h
   case inr => exact absurd h2 (by simp)
   simp only [decide_eq_true_eq] at h0
   subst h0
   obtain ⟨h1, h2⟩ | ⟨h1, h2⟩ := ae h2
   ·exact absurd h2 (by simp)
   ·simp only [beq_eq_false_iff_ne, ne_eq] at h1
    refine ⟨_, h2, fun g w va vb ha hb => ?_⟩
    simp only [VR] at ha hb; subst ha; subst hb
    exact ⟨_, by simp [eqGuard, binOp, Op.intDiv, h1, Sem.run]; rfl, by simp [VR], rfl⟩
  case rem =>
   obtain ⟨h0, h2⟩ | ⟨h0, h2⟩ := ae h
   case inr => exact absurd h2 (by simp)
   simp only [decide_eq_true_eq] at h0
   subst h0
   obtain ⟨h1, h2⟩ | ⟨h1, h2⟩ := ae h2
   ·exact absurd h2 (by simp)
   ·simp only [beq_eq_false_iff_ne, ne_eq] at h1
    refine ⟨_, h2, fun g w va vb ha hb => ?_⟩
    simp only [VR] at ha hb; subst ha; subst hb
    exact ⟨_, by simp [eqGuard, binOp, Op.intDiv, h1, Sem.run]; rfl, by simp [VR], rfl⟩
  all_goals
   obtain ⟨h0, h2⟩ | ⟨h0, h2⟩ := ae h
   case inr => exact absurd h2 (by simp)
   simp only [decide_eq_true_eq] at h0
   subst h0
   refine ⟨_, h2, fun g w va vb ha hb => ?_⟩
   simp only [VR] at ha hb; subst ha; subst hb
   exact ⟨_, by simp [eqGuard, binOp, Op.intArith, Op.intBits, Op.intCmp, Sem.run]; rfl, by simp [VR], rfl⟩
 ·rename_i x1 y1
  have key : ∀ (s1 s2 : ByteArray), s1.data.toList = x1 → s2.data.toList = y1 → s1.toList = x1 ∧ s2.toList = y1 ∧ s1.size = x1.length ∧ s2.size = y1.length := by
   intro s1 s2 e1 e2
   subst e1; subst e2
   exact ⟨Lib.toList_data s1, Lib.toList_data s2, (Array.length_toList (xs := s1.data)).symm, (Array.length_toList (xs := s2.data)).symm⟩
  cases op
  case add =>
   obtain ⟨h1, h2⟩ | ⟨h1, h2⟩ := ae h
   ·simp only [decide_eq_true_eq] at h1
    refine ⟨_, h2, fun g w va vb ha hb => ?_⟩
    simp only [VR] at ha hb
    obtain ⟨s1, rfl, e1⟩ := ha
    obtain ⟨s2, rfl, e2⟩ := hb
    obtain ⟨l1, l2, z1, z2⟩ := key s1 s2 e1 e2
    have h3 : ¬ ((s1.size + s2.size : Nat) : Int) > IntKind.i64.max := WW (by omega)
    refine ⟨.string (s1 ++ s2), ?_, by simp [VR, ByteArray.data_append, e1, e2], rfl⟩
    simp only [eqGuard, binOp, Op.stringOp]
    rw [if_neg h3]
    simp [Sem.run]
   ·exact absurd h2 (by simp)
  all_goals first
   | (simp at h; done)
   | (refine ⟨_, h, fun g w va vb ha hb => ?_⟩
      simp only [VR] at ha hb
      obtain ⟨s1, rfl, e1⟩ := ha
      obtain ⟨s2, rfl, e2⟩ := hb
      obtain ⟨l1, l2, z1, z2⟩ := key s1 s2 e1 e2
      exact ⟨_, by simp [eqGuard, binOp, Op.stringOp, l1, l2, Sem.run]; rfl, by simp [VR], rfl⟩)
 ·exact absurd h (by simp)
theorem aG {P : Program} {w w' : World} {m : Sem Value} {v : Value} (h : m.run P w = .ok v w') : (do pure (.value (← m)) : Sem Next).run P w = .ok (.value v) w' := by
 rw [Sem.run_bind, h]
 rfl
theorem WX {op : BinOp} {x y : AX} {p q : Operand} {t t' : TypeId} (h : o.op = .binOp op t p q t') (hx : bA x p = true) (hy : bA y q = true) : bK c (.bin op x y) o := by
 refine ek fun s R k r hr => ?_
 simp only [AOp.run] at hr
 obtain ⟨v, h1, h2⟩ := YV c.P op t p q hr
 refine ⟨v, h1, fun F g a w hs => ?_⟩
 obtain ⟨v', h3, h4⟩ := h2 g w _ _ (aj hs hx) (aj hs hy)
 refine ⟨v', ?_, h4⟩
 simp only [execOp, h]
 exact aG h3
theorem run_equalIn_bool {P : Program} {t : TypeId} (w : World) (ht : P.underlying t = some .bool) (d : Nat) (a b : Bool) : (Op.equalIn (d + 1) t (.bool a) (.bool b)).run P w = .ok (a == b) w := by
 unfold Op.equalIn
 simp [underlying, program, ht, Sem.run, Sem.run_bind]
theorem run_equal_bool {P : Program} {t : TypeId} (w : World) (ht : P.underlying t = some .bool) (a b : Bool) : (Op.equal t (.bool a) (.bool b)).run P w = .ok (a == b) w := run_equalIn_bool w ht 9999 a b
theorem WY {neg : Bool} {x y : AX} {p q : Operand} {t t' : TypeId} (h : o.op = .binOp (if neg then .neq else .eql) t p q t') (ht : c.P.underlying t = some .bool) (hx : bA x p = true) (hy : bA y q = true) : bK c (.eqB neg x y) o := by
 refine ek fun s R k r hr => ?_
 simp only [AOp.run] at hr
 split at hr
 ·rename_i a1 b1 ha hb
  refine ⟨_, hr, fun F g a w hs => ?_⟩
  have h1 := aj hs hx
  have h2 := aj hs hy
  rw [ha] at h1; rw [hb] at h2
  simp only [VR] at h1 h2
  refine ⟨.bool (if neg then !(a1 == b1) else a1 == b1), ?_, by cases neg <;> simp [VR], by cases neg <;> rfl⟩
  simp only [execOp, h]
  refine aG ?_
  rw [h1, h2]
  cases neg <;> simp [eqGuard, binOp, run_equal_bool w ht, Sem.run_bind]
 ·exact absurd hr (by simp)
theorem aaP {op : UnOp} {x : AX} {p : Operand} {t : TypeId} (h : o.op = .unOp op t p) (hx : bA x p = true) : bK c (.un op x) o := by
 refine ek fun s R k r hr => ?_
 simp only [AOp.run, unK] at hr
 split at hr
 ·rename_i ka x1 hv
  refine ⟨_, hr, fun F g a w hs => ?_⟩
  have h1 := aj hs hx
  rw [hv] at h1
  simp only [VR] at h1
  refine ⟨.int ka (ka.wrap (0 - x1)), ?_, by simp [VR], rfl⟩
  simp only [execOp, h]
  refine aG ?_
  rw [h1]
  simp [Op.unary, Op.intArith, Sem.run]
 ·rename_i b hv
  refine ⟨_, hr, fun F g a w hs => ?_⟩
  have h1 := aj hs hx
  rw [hv] at h1
  simp only [VR] at h1
  refine ⟨.bool (!b), ?_, by simp [VR], rfl⟩
  simp only [execOp, h]
  refine aG ?_
  rw [h1]
  simp [Op.unary, Sem.run]
 ·exact absurd hr (by simp)
theorem YW {kd : IntKind} {x : AX} {p : Operand} {src dst : TypeId} {d : TypeDesc} (h : o.op = .convert src dst p) (hs0 : c.P.underlying src = some d) (hd : c.P.underlying dst = some (.int kd)) (hx : bA x p = true) : bK c (.conv kd x) o := by
 refine ek fun s R k r hr => ?_
 simp only [AOp.run] at hr
 split at hr
 ·rename_i ka x1 hv
  refine ⟨_, hr, fun F g a w hs => ?_⟩
  have h1 := aj hs hx
  rw [hv] at h1
  simp only [VR] at h1
  refine ⟨.int kd (kd.wrap x1), ?_, by simp [VR], rfl⟩
  simp only [execOp, h]
  refine aG ?_
  rw [h1]
  simp [convert, underlying, program, hs0, hd, Conv.intToInt, Sem.run, Sem.run_bind]
 ·exact absurd hr (by simp)
theorem WZ {x : AX} {p : Operand} {src dst : TypeId} {d : TypeDesc} (h : o.op = .convert src dst p) (hs0 : c.P.underlying src = some d) (hd : c.P.underlying dst = some .string) (hx : bA x p = true) : bK c (.convS x) o := by
 refine ek fun s R k r hr => ?_
 simp only [AOp.run] at hr
 split at hr
 ·rename_i t hv
  refine ⟨_, hr, fun F g a w hs => ?_⟩
  have h1 := aj hs hx
  rw [hv] at h1
  have h2 := h1
  simp only [VR] at h1
  obtain ⟨s1, e1, e2⟩ := h1
  refine ⟨.string s1, ?_, e1 ▸ h2, rfl⟩
  simp only [execOp, h]
  refine aG ?_
  rw [e1]
  simp [convert, underlying, program, hs0, hd, Sem.run, Sem.run_bind]
 ·exact absurd hr (by simp)
theorem YX {x : AX} {p : Operand} {src dst : TypeId} {d : TypeDesc} (h : o.op = .convert src dst p) (hs0 : c.P.underlying src = some d) (hd : c.P.underlying dst = some .string) (hx : bA x p = true) : bK c (.rune x) o := by
 refine ek fun s R k r hr => ?_
 simp only [AOp.run] at hr
 split at hr
 ·rename_i ka x1 hv
  refine ⟨_, hr, fun F g a w hs => ?_⟩
  have h1 := aj hs hx
  rw [hv] at h1
  simp only [VR] at h1
  refine ⟨.string (Utf8.encode x1), ?_, by simp only [VR]; exact ⟨_, rfl, rfl⟩, rfl⟩
  simp only [execOp, h]
  refine aG ?_
  rw [h1]
  simp [convert, underlying, program, hs0, hd, Conv.intToString, Sem.run, Sem.run_bind]
 ·exact absurd hr (by simp)
end Go.Sh
namespace Go.Sh
open Go.RowKit
set_option linter.unusedSimpArgs false
set_option linter.unusedVariables false
variable {c : Cx} {o : Oper}
theorem add_block (a : Addr) (n : Nat) : (a.add n).block = a.block := by unfold Addr.add; split <;> rfl
theorem QO (a : Addr) (n : Nat) : (a.add n).off = a.off + n := by unfold Addr.add; split <;> simp_all
theorem RD {a : Addr} (n : Nat) (h : a.spot = none) : (a.add n).spot = none := by unfold Addr.add; split <;> simp_all
theorem addr_eq {a : Addr} (h : a.spot = none) : a = ⟨a.block, a.off, none⟩ := by cases a; simp_all
theorem zu {a : Addr} (n : Nat) (h : a.spot = none) : a.add n = ⟨a.block, a.off + n, none⟩ := by
 rw [addr_eq (RD n h), add_block, QO]
theorem iD {P : Program} {t : TypeId} {z : Nat} (h : (P.info? t).map (·.size) = some z) (w : World) : (sizeOf t).run P w = .ok z w := by
 obtain ⟨i, h1, h2⟩ := Option.map_eq_some_iff.1 h
 simp [sizeOf, typeInfo, h1, h2]
def qZ : TypeDesc → Bool
 | .struct _ | .array _ _ => true
 | _ => false
theorem nE {P : Program} {t : TypeId} {d : TypeDesc} (h : P.underlying t = some d) (w : World) : (isAgg t).run P w = .ok (qZ d) w := by
 simp only [isAgg, Sem.run_bind, run_underlying h, Result.andThen]
 cases d <;> rfl
theorem BI {P : Program} {t e : TypeId} (h : P.underlying t = some (.slice e)) : P.elem t = e := by simp [Program.elem, h]
def AX.free : AX → Bool
 | .take _ => false
 | _ => true
theorem VB {F : Nat → Prop} {nt : Nat} {g : Gh} {s : St} {a : Act} {w : World} {os : List Rec} {x : AX} {y : Operand} (h : SimX F nt g s a w os) (hx : bA x y = true) (hf : x.free = true) : owns (x.ev s) (a.eval y) = [] := by
 cases x with
 | tmp t => exact ma _ _
 | take t => simp [AX.free] at hf
 | cst v =>
  cases y with
  | const c => exact (K4 g w v c (by simpa [bA] using hx)).2
  | func f =>
   cases v with
   | func fn f1 c1 => rfl
   | _ => simp [bA] at hx
  | _ => simp [bA] at hx
theorem Gg {α : Type} {l : List α} {i : AV} {R : Type} {k : α → Option R} {r : R} (h : NL l i k = some r) : ∃ kd n x, i = .int kd n ∧ 0 ≤ n ∧ n.toNat < l.length ∧ l[n.toNat]? = some x ∧ k x = some r := by
 unfold NL at h
 split at h
 ·rename_i kd n
  obtain ⟨h1, h2⟩ | ⟨h1, h2⟩ := ae h
  ·obtain ⟨x, h3, h4⟩ := Option.bind_eq_some_iff.1 h2
   exact ⟨kd, n, x, rfl, by simpa using h1, (List.getElem?_eq_some_iff.1 h3).1, h3, h4⟩
  ·exact absurd h2 (by simp)
 ·exact absurd h (by simp)
theorem Reads.sub {g : Gh} {w : World} {a : Addr} {vs : List Value} (h : Reads g w a vs) (k m : Nat) (hk : k + m ≤ vs.length) : Reads g w (a.add k) ((vs.drop k).take m) := by
 obtain ⟨h1, h2, h3⟩ := h
 refine ⟨RD _ h1, ?_, fun j hj => ?_⟩
 ·rw [QO, add_block, List.length_take, List.length_drop]; omega
 ·rw [List.length_take, List.length_drop] at hj
  rw [QO, add_block, Nat.add_assoc, h3 _ (by omega), List.getElem?_take, if_pos (by omega), List.getElem?_drop]
theorem VRss.length {g : Gh} {w : World} {sz : Nat} : ∀ {els : List (List AV)} {vs : List Value}, VRss g w els vs → (∀ e ∈ els, e.length = sz) → vs.length = els.length * sz
 | [], vs, h, _ => by simp only [VRss] at h; subst h; simp
 | e :: els, vs, h, hl => by
  simp only [VRss] at h
  obtain ⟨p, q, rfl, h1, h2⟩ := h
  rw [List.length_append, ← h1.length, hl e (by simp), VRss.length h2 (fun e he => hl e (by simp [he])), List.length_cons, Nat.add_mul]
  omega
theorem VRss.get {g : Gh} {w : World} {sz : Nat} : ∀ {els : List (List AV)} {vs : List Value}, VRss g w els vs → (∀ e ∈ els, e.length = sz) → ∀ (i : Nat) (cs : List AV), els[i]? = some cs → VRs g w cs ((vs.drop (i * sz)).take sz)
 | [], _, _, _, i, cs, hc => by simp at hc
 | e :: els, vs, h, hl, i, cs, hc => by
  simp only [VRss] at h
  obtain ⟨p, q, rfl, h1, h2⟩ := h
  have hp : p.length = sz := by rw [← h1.length, hl e (by simp)]
  cases i with
  | zero => simp at hc; subst hc; simpa [← hp] using h1
  | succ i =>
   have := VRss.get h2 (fun e he => hl e (by simp [he])) i cs (by simpa using hc)
   rw [show (i + 1) * sz = p.length + i * sz by rw [hp, Nat.add_mul]; omega, List.drop_length_add_append]
   exact this
theorem VRss.drop {g : Gh} {w : World} {sz : Nat} : ∀ {els : List (List AV)} {vs : List Value} (n : Nat), VRss g w els vs → (∀ e ∈ els, e.length = sz) → VRss g w (els.drop n) (vs.drop (n * sz))
 | [], vs, n, h, _ => by simp only [VRss] at h; subst h; simp [VRss]
 | e :: els, vs, n, h, hl => by
  cases n with
  | zero => simpa using h
  | succ n =>
   simp only [VRss] at h
   obtain ⟨p, q, rfl, h1, h2⟩ := h
   have hp : p.length = sz := by rw [← h1.length, hl e (by simp)]
   rw [show (n + 1) * sz = p.length + n * sz by rw [hp, Nat.add_mul]; omega, List.drop_length_add_append, List.drop_succ_cons]
   exact VRss.drop n h2 (fun e he => hl e (by simp [he]))
theorem VRss.take {g : Gh} {w : World} {sz : Nat} : ∀ {els : List (List AV)} {vs : List Value} (n : Nat), VRss g w els vs → (∀ e ∈ els, e.length = sz) → VRss g w (els.take n) (vs.take (n * sz))
 | [], vs, n, h, _ => by simp only [VRss] at h; subst h; simp [VRss]
 | e :: els, vs, n, h, hl => by
  cases n with
  | zero => simp [VRss]
  | succ n =>
   simp only [VRss] at h
   obtain ⟨p, q, rfl, h1, h2⟩ := h
   have hp : p.length = sz := by rw [← h1.length, hl e (by simp)]
   rw [show (n + 1) * sz = p.length + n * sz by rw [hp, Nat.add_mul]; omega, List.take_length_add_append, List.take_succ_cons]
   simp only [VRss]
   exact ⟨p, _, rfl, h1, VRss.take n h2 (fun e he => hl e (by simp [he]))⟩
theorem UM {z : Nat} {x i : AX} {p q : Operand} {t e : TypeId} (h : o.op = .indexAddr t p q) (ht : c.P.underlying t = some (.slice e)) (hz : (c.P.info? e).map (·.size) = some z) (h0 : 0 < z) (hx : bA x p = true) (hi : bA i q = true) : bK c (.idxA z x i) o := by
 refine ek fun s R k r hr => ?_
 have key : ∀ (g : Gh) (w : World) (a : Act) (ao : Option Addr) (n cp : Nat) (vs : List Value) (kd : IntKind) (m : Int), a.eval p = .slice ao n cp → a.eval q = .int kd m → 0 ≤ m → m.toNat < n → (∃ own, Row g w own ao n cp z vs) →
  ∃ ad, (execOp a.eval o).run c.P w = .ok (.value (.pointer (some ad))) w ∧ Reads g w ad ((vs.drop (m.toNat * z)).take z) := by
  intro g w a ao n cp vs kd m hp hq hm hn hrow
  obtain ⟨own, h1, h2, _, h3, _, _⟩ := hrow
  have hle : (m.toNat + 1) * z ≤ n * z := Nat.mul_le_mul_right _ hn
  rw [Nat.add_mul] at hle
  obtain ⟨ad, rfl, h4⟩ := h3 (by omega)
  refine ⟨ad.add (m.toNat * z), ?_, h4.sub _ _ (by omega)⟩
  simp only [execOp, h]
  refine aG ?_
  rw [hp, hq, run_indexAt_slice w t ad n cp kd m (by rw [BI ht]; exact ht), if_pos ⟨hm, by omega⟩, BI ht, iD hz]
  rfl
 simp only [AOp.run] at hr
 split at hr
 ·rename_i own kd l hv
  obtain ⟨hc, hr⟩ | ⟨_, hr⟩ := ae hr
  case inr => exact absurd hr (by simp)
  simp only [beq_iff_eq] at hc
  subst hc
  obtain ⟨ki, n, e1, h1, h2, hlt, h3, h4⟩ := Gg hr
  refine ⟨_, h4, fun F g a w hs => ?_⟩
  have hp := aj hs hx
  have hq := aj hs hi
  rw [hv] at hp
  rw [h1] at hq
  simp only [VR] at hp hq
  obtain ⟨ao, m, cp, hp, hrow⟩ := hp
  have hm : m = l.length := by have := hrow.1; simp at this; exact this.symm
  obtain ⟨ad, h5, h6⟩ := key g w a ao m cp _ ki n hp hq h2 (by omega) ⟨_, hrow⟩
  refine ⟨_, h5, ?_, rfl⟩
  simp only [VR]
  have hone : ((l.map (Value.int kd)).drop (n.toNat * 1)).take 1 = [Value.int kd e1] := by
   rw [Nat.mul_one, List.take_one, List.head?_drop, List.getElem?_map, h3]; rfl
  rw [hone] at h6
  exact ⟨ad, [Value.int kd e1], rfl, h6, by simp [VRs, VR, lq, vG]⟩
 ·rename_i own l hv
  obtain ⟨hc, hr⟩ | ⟨_, hr⟩ := ae hr
  case inr => exact absurd hr (by simp)
  simp only [beq_iff_eq] at hc
  subst hc
  obtain ⟨ki, n, e1, h1, h2, hlt, h3, h4⟩ := Gg hr
  refine ⟨_, h4, fun F g a w hs => ?_⟩
  have hp := aj hs hx
  have hq := aj hs hi
  rw [hv] at hp
  rw [h1] at hq
  simp only [VR] at hp hq
  obtain ⟨ao, m, cp, hp, hrow⟩ := hp
  have hm : m = l.length := by have := hrow.1; simp at this; exact this.symm
  obtain ⟨ad, h5, h6⟩ := key g w a ao m cp _ ki n hp hq h2 (by omega) ⟨_, hrow⟩
  refine ⟨_, h5, ?_, rfl⟩
  simp only [VR]
  have hone : ((l.map fun s => Value.string ⟨s.toArray⟩).drop (n.toNat * 1)).take 1 = [Value.string ⟨e1.toArray⟩] := by
   rw [Nat.mul_one, List.take_one, List.head?_drop, List.getElem?_map, h3]; rfl
  rw [hone] at h6
  exact ⟨ad, [Value.string ⟨e1.toArray⟩], rfl, h6, by simp [VRs, VR, lq, vG]⟩
 ·rename_i own sz els hv
  obtain ⟨hc, hr2⟩ | ⟨_, hr2⟩ := ae hr
  case inr => exact absurd hr2 (by simp)
  simp only [beq_iff_eq] at hc
  subst hc
  obtain ⟨ki, n, e1, h1, h2, hlt, h3, h4⟩ := Gg hr2
  refine ⟨_, h4, fun F g a w hs => ?_⟩
  have hp := aj hs hx
  have hq := aj hs hi
  rw [hv] at hp
  rw [h1] at hq
  simp only [VR] at hp hq
  obtain ⟨ao, m, cp, vs, hp, hrow, hm, hsz, hvs⟩ := hp
  obtain ⟨ad, h5, h6⟩ := key g w a ao m cp _ ki n hp hq h2 (by omega) ⟨_, hrow⟩
  refine ⟨_, h5, ?_, rfl⟩
  simp only [VR]
  exact ⟨ad, _, rfl, h6, hvs.get (fun e he => (hsz e he).1) _ _ h3, (hsz e1 (List.mem_of_getElem? h3)).2⟩
 ·rename_i id off m sz hv
  split at hr
  ·rename_i ki n hn
   obtain ⟨hc, hr⟩ | ⟨_, hr⟩ := ae hr
   case inr => exact absurd hr (by simp)
   obtain ⟨h1, hr⟩ | ⟨_, hr⟩ := ae hr
   case inr => exact absurd hr (by simp)
   obtain ⟨h2, hr⟩ | ⟨_, hr⟩ := ae hr
   case inr => exact absurd hr (by simp)
   simp only [beq_iff_eq, decide_eq_true_eq] at hc h1 h2
   subst hc
   refine ⟨_, hr, fun F g a w hs => ?_⟩
   have hp := aj hs hx
   have hq := aj hs hi
   rw [hv] at hp
   rw [hn] at hq
   simp only [VR] at hp hq
   obtain ⟨ao, b, cp, hp, hao, hle, hb⟩ := hp
   obtain rfl := hao (by omega)
   refine ⟨.pointer (some ⟨b, off + n.toNat * z, none⟩), ?_, by simp only [VR]; exact ⟨b, rfl, hb⟩, rfl⟩
   simp only [execOp, h]
   refine aG ?_
   rw [hp, hq, run_indexAt_slice w t _ m cp ki n (by rw [BI ht]; exact ht), if_pos ⟨h1, h2⟩, BI ht, iD hz]
   simp only [Result.andThen]
   rw [zu _ rfl]
  ·exact absurd hr (by simp)
 ·rename_i id m tot sz hv
  split at hr
  ·rename_i ki n hn
   obtain ⟨hc, hr⟩ | ⟨_, hr⟩ := ae hr
   case inr => exact absurd hr (by simp)
   obtain ⟨h1, hr⟩ | ⟨_, hr⟩ := ae hr
   case inr => exact absurd hr (by simp)
   obtain ⟨h2, hr⟩ | ⟨_, hr⟩ := ae hr
   case inr => exact absurd hr (by simp)
   simp only [beq_iff_eq, decide_eq_true_eq] at hc h1 h2
   subst hc
   refine ⟨_, hr, fun F g a w hs => ?_⟩
   have hp := aj hs hx
   have hq := aj hs hi
   rw [hv] at hp
   rw [hn] at hq
   simp only [VR] at hp hq
   obtain ⟨ao, b, cp, hp, hle, hmt, hb, _, hao⟩ := hp
   obtain ⟨rfl, _⟩ := hao (by omega)
   refine ⟨.pointer (some ⟨b, n.toNat * z, none⟩), ?_, by simp only [VR]; exact ⟨b, rfl, hb⟩, rfl⟩
   simp only [execOp, h]
   refine aG ?_
   rw [hp, hq, run_indexAt_slice w t _ m cp ki n (by rw [BI ht]; exact ht), if_pos ⟨h1, h2⟩, BI ht, iD hz]
   simp only [Result.andThen]
   rw [zu _ rfl, Nat.zero_add]
  ·exact absurd hr (by simp)
 ·exact absurd hr (by simp)
theorem YY {x i : AX} {p q : Operand} {t : TypeId} (h : o.op = .index t p q) (ht : c.P.underlying t = some .string) (hx : bA x p = true) (hi : bA i q = true) : bK c (.idxS x i) o := by
 refine ek fun s R k r hr => ?_
 simp only [AOp.run] at hr
 split at hr
 ·rename_i l hv
  obtain ⟨ki, n, e1, h1, h2, hlt, h3, h4⟩ := Gg hr
  refine ⟨_, h4, fun F g a w hs => ?_⟩
  have hp := aj hs hx
  have hq := aj hs hi
  rw [hv] at hp
  rw [h1] at hq
  simp only [VR] at hp hq
  obtain ⟨s1, hp, hl⟩ := hp
  have hsz : s1.size = l.length := by rw [← hl]; exact (Array.length_toList (xs := s1.data)).symm
  refine ⟨.int .u8 (e1.toNat : Int), ?_, by simp [VR], rfl⟩
  simp only [execOp, h]
  refine aG ?_
  have hlt' : 0 ≤ n ∧ n < (s1.size : Int) := ⟨h2, by omega⟩
  rw [hp, hq, run_index_string w t s1 ki n ht, dif_pos hlt']
  have he : s1[n.toNat]'(by omega) = e1 := by
   have h5 : s1.data[n.toNat]? = some e1 := by rw [← Array.getElem?_toList, hl, h3]
   have h6 := (Array.getElem?_eq_some_iff.1 h5)
   exact h6.2
  rw [he]
 ·exact absurd hr (by simp)
theorem Gi {aggr : Bool} {n : Nat} {cs : List AV} {R : Type} {k : AV → Option R} {r : R} (h : asK aggr n cs k = some r) : ∃ v, k v = some r ∧ ((aggr = true ∧ cs.length = n ∧ v = .agg cs) ∨ (aggr = false ∧ ∃ rest, cs = v :: rest)) := by
 unfold asK at h
 cases aggr with
 | true =>
  obtain ⟨h1, h2⟩ | ⟨h1, h2⟩ := ae h
  ·exact ⟨_, h2, .inl ⟨rfl, by simpa using h1, rfl⟩⟩
  ·exact absurd h2 (by simp)
 | false =>
  cases cs with
  | nil => exact absurd h (by simp)
  | cons v rest => exact ⟨v, h, .inr ⟨rfl, rest, rfl⟩⟩
theorem GR {P : Program} {t : TypeId} {d : TypeDesc} {n : Nat} {aggr : Bool} (ht : P.underlying t = some d) (ha : qZ d = aggr) (hn : (P.info? t).map (·.size) = some n) {g : Gh} {w : World} {cs : List AV} {v : AV} {b off : Nat} {vs : List Value}
 (hv : (aggr = true ∧ cs.length = n ∧ v = .agg cs) ∨ (aggr = false ∧ ∃ rest, cs = v :: rest)) (hcs : VRs g w cs vs) (hw : ∀ j, j < vs.length → w.cell? ⟨b, off + j, none⟩ = vs[j]?) :
 ∃ v', (loadVar t ⟨b, off, none⟩).run P w = .ok v' w ∧ VR g w v v' := by
 rcases hv with ⟨rfl, h1, rfl⟩ | ⟨rfl, rest, rfl⟩
 ·refine ⟨.agg vs.toArray, ?_, by simp only [VR]; exact ⟨_, rfl, by simpa using hcs⟩⟩
  have hl := hcs.length
  simp only [loadVar, Sem.run_bind, nE ht, ha, Result.andThen, if_true, iD hn]
  rw [show n = vs.length by omega, run_loadCells_list w ⟨b, off, none⟩ vs (fun j x hj => by
   have hlt : j < vs.length := (List.getElem?_eq_some_iff.1 hj).1
   rw [zu _ rfl, hw j hlt, hj])]
  rfl
 ·simp only [VRs] at hcs
  obtain ⟨v', us, rfl, h2, h3⟩ := hcs
  refine ⟨v', ?_, h2⟩
  have h0 := hw 0 (by simp)
  simp only [Nat.add_zero, List.getElem?_cons_zero] at h0
  simp only [loadVar, Sem.run_bind, nE ht, ha, Result.andThen, Bool.false_eq_true, if_false, run_load, h0]
theorem aY {g : Gh} {w : World} : ∀ {H : List AObj} {bs : List Nat}, ObjsR g w H bs → ∀ (id b : Nat) (ob : AObj), H[id]? = some ob → bs[id]? = some b → ObjR g w b ob
 | [], _, _, id, b, ob, h1, _ => by simp at h1
 | x :: H, bs, h, id, b, ob, h1, h2 => by
  simp only [ObjsR] at h
  obtain ⟨b', cs, rfl, h3, h4⟩ := h
  cases id with
  | zero => simp at h1 h2; subst h1; subst h2; exact h3
  | succ id => exact aY h4 id b ob (by simpa using h1) (by simpa using h2)
theorem YZ {n : Nat} {aggr : Bool} {x : AX} {p : Operand} {t : TypeId} {d : TypeDesc} (h : o.op = .load t p) (ht : c.P.underlying t = some d) (ha : qZ d = aggr) (hn : (c.P.info? t).map (·.size) = some n) (hx : bA x p = true) : bK c (.load n aggr x) o := by
 refine ek fun s R k r hr => ?_
 simp only [AOp.run] at hr
 split at hr
 ·rename_i cs hv
  obtain ⟨v, h1, h2⟩ := Gi hr
  refine ⟨_, h1, fun F g a w hs => ?_⟩
  have hp := aj hs hx
  rw [hv] at hp
  simp only [VR] at hp
  obtain ⟨ad, vs, hp, hrd, hvs, _⟩ := hp
  obtain ⟨v', h3, h4⟩ := GR (b := ad.block) (off := ad.off) ht ha hn h2 (hvs.take n) (fun j hj => by
   rw [List.length_take] at hj
   rw [hrd.2.2 j (by omega), List.getElem?_take, if_pos (by omega)])
  refine ⟨v', ?_, VR.disown _ _ h4, ma _ _⟩
  simp only [execOp, h]
  refine aG ?_
  rw [hp]
  simp only [Instr.loadAt, Instr.sureAddr, Sem.run_bind, Sem.run_pure, Result.andThen]
  rw [addr_eq hrd.1]
  exact h3
 ·rename_i id off hv
  split at hr
  ·rename_i ot cs hob
   obtain ⟨v, h1, h2⟩ := Gi hr
   refine ⟨_, h1, fun F g a w hs => ?_⟩
   have hp := aj hs hx
   rw [hv] at hp
   simp only [VR] at hp
   obtain ⟨b, hp, hb⟩ := hp
   have hobj := aY hs.core.heap id b _ hob hb
   simp only [ObjR] at hobj
   obtain ⟨arr, hw, hvs⟩ := hobj
   obtain ⟨v', h3, h4⟩ := GR (b := b) (off := off) ht ha hn h2 ((hvs.drop off).take n) (fun j hj => by
    rw [List.length_take] at hj
    rw [List.getElem?_take, if_pos (by omega), List.getElem?_drop]
    simp [World.cell?, hw])
   refine ⟨v', ?_, VR.disown _ _ h4, ma _ _⟩
   simp only [execOp, h]
   refine aG ?_
   rw [hp]
   simp only [Instr.loadAt, Instr.sureAddr, Sem.run_bind, Sem.run_pure, Result.andThen]
   exact h3
  ·rename_i ot xs hob
   obtain ⟨hag, hr2⟩ | ⟨hag, hr2⟩ := ae hr
   ·exact absurd hr2 (by simp)
   obtain ⟨y, h1, h2⟩ := Option.bind_eq_some_iff.1 hr2
   refine ⟨_, h2, fun F g a w hs => ?_⟩
   have hp := aj hs hx
   rw [hv] at hp
   simp only [VR] at hp
   obtain ⟨b, hp, hb⟩ := hp
   have hobj := aY hs.core.heap id b _ hob hb
   simp only [ObjR] at hobj
   obtain ⟨arr, rest, hw, harr⟩ := hobj
   have hlt := (List.getElem?_eq_some_iff.1 h1).1
   have hc : w.cell? ⟨b, off, none⟩ = some (Value.string ⟨y.toArray⟩) := by
    have : arr.toList[off]? = some (Value.string ⟨y.toArray⟩) := by
     rw [harr, List.getElem?_append_left (by simpa using hlt), List.getElem?_map, h1]; rfl
    simpa [World.cell?, hw] using this
   refine ⟨Value.string ⟨y.toArray⟩, ?_, by simp only [VR]; exact ⟨_, rfl, by simp⟩, rfl⟩
   simp only [execOp, h]
   refine aG ?_
   rw [hp]
   simp only [Instr.loadAt, Instr.sureAddr, Sem.run_bind, Sem.run_pure, Result.andThen, loadVar, nE ht, ha, hag, Bool.false_eq_true, if_false, run_load, hc]
  ·rename_i ot kd xs hob
   obtain ⟨hag, hr2⟩ | ⟨hag, hr2⟩ := ae hr
   ·exact absurd hr2 (by simp)
   obtain ⟨y, h1, h2⟩ := Option.bind_eq_some_iff.1 hr2
   refine ⟨_, h2, fun F g a w hs => ?_⟩
   have hp := aj hs hx
   rw [hv] at hp
   simp only [VR] at hp
   obtain ⟨b, hp, hb⟩ := hp
   have hobj := aY hs.core.heap id b _ hob hb
   simp only [ObjR] at hobj
   obtain ⟨arr, rest, hw, harr⟩ := hobj
   have hlt := (List.getElem?_eq_some_iff.1 h1).1
   have hc : w.cell? ⟨b, off, none⟩ = some (Value.int kd y) := by
    have : arr.toList[off]? = some (Value.int kd y) := by
     rw [harr, List.getElem?_append_left (by simpa using hlt), List.getElem?_map, h1]; rfl
    simpa [World.cell?, hw] using this
   refine ⟨Value.int kd y, ?_, by simp only [VR], rfl⟩
   simp only [execOp, h]
   refine aG ?_
   rw [hp]
   simp only [Instr.loadAt, Instr.sureAddr, Sem.run_bind, Sem.run_pure, Result.andThen, loadVar, nE ht, ha, hag, Bool.false_eq_true, if_false, run_load, hc]
  ·rename_i kd xs hob
   obtain ⟨hag, hr2⟩ | ⟨hag, hr2⟩ := ae hr
   ·exact absurd hr2 (by simp)
   obtain ⟨y, h1, h2⟩ := Option.bind_eq_some_iff.1 hr2
   refine ⟨_, h2, fun F g a w hs => ?_⟩
   have hp := aj hs hx
   rw [hv] at hp
   simp only [VR] at hp
   obtain ⟨b, hp, hb⟩ := hp
   have hobj := aY hs.core.heap id b _ hob hb
   simp only [ObjR] at hobj
   have hlt := (List.getElem?_eq_some_iff.1 h1).1
   obtain ⟨arr, tt, rest, hw, harr⟩ := hobj.resolve_left (fun e0 => by subst e0; simp at hlt)
   have hc : w.cell? ⟨b, off, none⟩ = some (Value.int kd y) := by
    have : arr.toList[off]? = some (Value.int kd y) := by
     rw [harr, List.getElem?_append_left (by simpa using hlt), List.getElem?_map, h1]; rfl
    rw [hw.cell]; simpa using this
   refine ⟨Value.int kd y, ?_, by simp only [VR], rfl⟩
   simp only [execOp, h]
   refine aG ?_
   rw [hp]
   simp only [Instr.loadAt, Instr.sureAddr, Sem.run_bind, Sem.run_pure, Result.andThen, loadVar, nE ht, ha, hag, Bool.false_eq_true, if_false, run_load, hc]
  ·exact absurd hr (by simp)
 ·exact absurd hr (by simp)
theorem VR.aae {g : Gh} {w : World} {own : Bool} {sz : Nat} {els : List (List AV)} {v : Value} (h : VR g w (.sl own sz els) v) : ∃ ao cp, v = .slice ao els.length cp := by
 simp only [VR] at h
 obtain ⟨ao, m, cp, vs, h1, h2, h3, _⟩ := h
 exact ⟨ao, cp, by rw [h3]; exact h1⟩
theorem VR.Xa {g : Gh} {w : World} {own : Bool} {kd : IntKind} {l : List Int} {v : Value} (h : VR g w (.ints own kd l) v) : ∃ ao cp, v = .slice ao l.length cp := by
 simp only [VR] at h
 obtain ⟨ao, m, cp, h1, h2⟩ := h
 have hm : m = l.length := by have := h2.1; simp at this; exact this.symm
 exact ⟨ao, cp, by rw [← hm]; exact h1⟩
theorem VR.Xb {g : Gh} {w : World} {own : Bool} {l : List Str} {v : Value} (h : VR g w (.strs own l) v) : ∃ ao cp, v = .slice ao l.length cp := by
 simp only [VR] at h
 obtain ⟨ao, m, cp, h1, h2⟩ := h
 have hm : m = l.length := by have := h2.1; simp at this; exact this.symm
 exact ⟨ao, cp, by rw [← hm]; exact h1⟩
theorem VR.QP {g : Gh} {w : World} {l : Str} {v : Value} (h : VR g w (.str l) v) : ∃ s : ByteArray, v = .string s ∧ s.size = l.length := by
 simp only [VR] at h
 obtain ⟨s, h1, h2⟩ := h
 exact ⟨s, h1, by rw [← h2]; exact (Array.length_toList (xs := s.data)).symm⟩
end Go.Sh
namespace Go.Sh
open Go.RowKit
set_option linter.unusedSimpArgs false
set_option linter.unusedVariables false
variable {c : Cx} {o : Oper}
theorem dC {P : Program} {w : World} {a : Act} {cl : Call} {b : Builtin} (h : o.op = .call cl) (hc : cl.callee = .builtin b) {r : Result Next}
 (hr : (builtin b cl.argTypes o.type (cl.args.map fun | .const _ => true | _ => false) (cl.args.map a.eval)).run P w = r) : (execOp a.eval o).run P w = r := by
 simp only [execOp, h, resolve, hc, Sem.run_bind, Sem.run_pure, Result.andThen, invoke]
 exact hr
theorem aaf {x : AX} {p : Operand} {t e : TypeId} {cl : Call} (h : o.op = .call cl) (hc : cl.callee = .builtin .len) (hargs : cl.args = #[p]) (hts : cl.argTypes = #[t]) (ht : c.P.underlying t = some (.slice e)) (hx : bA x p = true) : bK c (.len x) o := by
 refine ek fun s R k r hr => ?_
 have key : ∀ (w : World) (a : Act) (n : Nat), (∃ ao cp, a.eval p = .slice ao n cp) → (execOp a.eval o).run c.P w = .ok (.value (goInt n)) w := by
  intro w a n ⟨ao, cp, h1⟩
  refine dC h hc ?_
  rw [hargs, hts]
  simp [builtin, h1, Builtin.len_, run_underlying ht]
 simp only [AOp.run] at hr
 split at hr
 ·rename_i own kd l hv
  refine ⟨_, hr, fun F g a w hs => ?_⟩
  have hp := aj hs hx
  rw [hv] at hp
  exact ⟨_, key w a _ hp.Xa, by simp [VR, goInt], rfl⟩
 ·rename_i own l hv
  refine ⟨_, hr, fun F g a w hs => ?_⟩
  have hp := aj hs hx
  rw [hv] at hp
  exact ⟨_, key w a _ hp.Xb, by simp [VR, goInt], rfl⟩
 ·rename_i own sz l hv
  refine ⟨_, hr, fun F g a w hs => ?_⟩
  have hp := aj hs hx
  rw [hv] at hp
  exact ⟨_, key w a _ hp.aae, by simp [VR, goInt], rfl⟩
 ·rename_i id off m sz hv
  refine ⟨_, hr, fun F g a w hs => ?_⟩
  have hp := aj hs hx
  rw [hv] at hp
  simp only [VR] at hp
  obtain ⟨ao, b, cp, hp, _⟩ := hp
  exact ⟨_, key w a m ⟨_, _, hp⟩, by simp [VR, goInt], rfl⟩
 ·rename_i id m tot sz hv
  refine ⟨_, hr, fun F g a w hs => ?_⟩
  have hp := aj hs hx
  rw [hv] at hp
  simp only [VR] at hp
  obtain ⟨ao, b, cp, hp, _⟩ := hp
  exact ⟨_, key w a m ⟨_, _, hp⟩, by simp [VR, goInt], rfl⟩
 ·exact absurd hr (by simp)
theorem Y0 {x : AX} {p : Operand} {t : TypeId} {cl : Call} (h : o.op = .call cl) (hc : cl.callee = .builtin .len) (hargs : cl.args = #[p]) (hts : cl.argTypes = #[t]) (ht : c.P.underlying t = some .string) (hx : bA x p = true) : bK c (.lenS x) o := by
 refine ek fun s R k r hr => ?_
 simp only [AOp.run] at hr
 split at hr
 ·rename_i l hv
  refine ⟨_, hr, fun F g a w hs => ?_⟩
  have hp := aj hs hx
  rw [hv] at hp
  obtain ⟨s1, h1, h2⟩ := hp.QP
  refine ⟨goInt l.length, ?_, by simp [VR, goInt], rfl⟩
  refine dC h hc ?_
  rw [hargs, hts]
  simp [builtin, h1, Builtin.len_, run_underlying ht, h2]
 ·exact absurd hr (by simp)
theorem PG {mx : Bool} {x y : AX} {p q : Operand} {cl : Call} (h : o.op = .call cl) (hc : cl.callee = .builtin (if mx then .max else .min)) (hargs : cl.args = #[p, q]) (hx : bA x p = true) (hy : bA y q = true) : bK c (.minmax mx x y) o := by
 refine ek fun s R k r hr => ?_
 simp only [AOp.run] at hr
 split at hr
 ·rename_i kd a1 kd' b1 hv hw
  cases mx with
  | true =>
   refine ⟨_, hr, fun F g a w hs => ?_⟩
   have hp := aj hs hx
   have hq := aj hs hy
   rw [hv] at hp
   rw [hw] at hq
   simp only [VR] at hp hq
   refine ⟨.int kd (if a1 < b1 then b1 else a1), ?_, by simp [VR], rfl⟩
   refine dC h hc ?_
   rw [hargs]
   simp only [builtin, if_true, List.map_toArray, List.map_cons, List.map_nil, hp, hq]
   exact aG (run_max_int2 w _ _ kd kd' a1 b1)
  | false =>
   refine ⟨_, hr, fun F g a w hs => ?_⟩
   have hp := aj hs hx
   have hq := aj hs hy
   rw [hv] at hp
   rw [hw] at hq
   simp only [VR] at hp hq
   refine ⟨.int kd (if b1 < a1 then b1 else a1), ?_, by simp [VR], rfl⟩
   refine dC h hc ?_
   rw [hargs]
   simp only [builtin, Bool.false_eq_true, if_false, List.map_toArray, List.map_cons, List.map_nil, hp, hq]
   exact aG (run_min_int2 w _ _ kd kd' a1 b1)
 ·exact absurd hr (by simp)
theorem TG {cs : List AV} {vs : List Value} (n : Nat) : aC cs vs = [] → aC (cs.drop n) (vs.drop n) = [] := by
 induction n generalizing cs vs with
 | zero => intro h; simpa using h
 | succ n ih =>
  intro h
  cases cs with
  | nil => cases vs <;> rfl
  | cons c cs =>
   cases vs with
   | nil => simp [aC]
   | cons v vs =>
    simp only [aC, List.append_eq_nil_iff] at h
    exact ih h.2
theorem TH {cs : List AV} {vs : List Value} (n : Nat) : aC cs vs = [] → aC (cs.take n) (vs.take n) = [] := by
 induction n generalizing cs vs with
 | zero => intro h; rfl
 | succ n ih =>
  intro h
  cases cs with
  | nil => cases vs <;> rfl
  | cons c cs =>
   cases vs with
   | nil => rfl
   | cons v vs =>
    simp only [aC, List.append_eq_nil_iff] at h
    simp [aC, h.1, ih h.2]
theorem VC {cs : List AV} {vs : List Value} {i : Nat} {c : AV} {v : Value} (h1 : cs[i]? = some c) (h2 : vs[i]? = some v) : (∀ r, r ∈ owns c v → r ∈ aC cs vs) ∧ ∀ b, oc b (owns c v) ≤ oc b (aC cs vs) := by
 induction cs generalizing vs i with
 | nil => simp at h1
 | cons c1 cs ih =>
  cases vs with
  | nil => simp at h2
  | cons v1 vs =>
   simp only [aC]
   cases i with
   | zero =>
    simp at h1 h2
    subst h1; subst h2
    exact ⟨fun r hr => List.mem_append_left _ hr, fun b => by rw [ax]; omega⟩
   | succ i =>
    obtain ⟨h3, h4⟩ := ih (by simpa using h1) (by simpa using h2)
    exact ⟨fun r hr => List.mem_append_right _ (h3 r hr), fun b => by rw [ax]; have := h4 b; omega⟩
theorem Xc {off n j : Nat} {aggr : Bool} {x : AX} {p : Operand} {t : TypeId} {fs : Array Field} {f : Field} {d : TypeDesc} (h : o.op = .field t p j) (ht : c.P.underlying t = some (.struct fs)) (hf : fs[j]? = some f) (hof : f.offset = off)
 (hd : c.P.underlying f.type = some d) (ha : qZ d = aggr) (hn : (c.P.info? f.type).map (·.size) = some n) (h0 : 0 < n) (hx : bA x p = true) (hfr : x.free = true) : bK c (.field off n aggr x) o := by
 refine ek fun s R k r hr => ?_
 simp only [AOp.run] at hr
 split at hr
 ·rename_i cs hv
  obtain ⟨v, h1, h2⟩ := Gi hr
  refine ⟨_, h1, fun F g a w hs => ?_⟩
  have hp := aj hs hx
  have hown := VB hs hx hfr
  rw [hv] at hp hown
  simp only [VR] at hp
  obtain ⟨vs, hp, hvs⟩ := hp
  rw [hp] at hown
  simp only [owns] at hown
  have hsub := (hvs.drop off).take n
  have hosub := TH n (TG off hown)
  have run : ∀ v', (part f.type vs off).run c.P w = .ok v' w → (execOp a.eval o).run c.P w = .ok (.value v') w := by
   intro v' hv'
   simp only [execOp, h]
   refine aG ?_
   simp only [Instr.field, Sem.run_bind, run_underlying ht, Result.andThen, hf, hp, asAgg, Sem.run_pure, hof]
   exact hv'
  rcases h2 with ⟨rfl, h3, rfl⟩ | ⟨rfl, rest, h3⟩
  ·refine ⟨.agg (vs.extract off (off + n)), run _ ?_, ?_, ?_⟩
   ·simp [part, nE hd, ha, iD hn]
   ·simp only [VR]
    refine ⟨_, rfl, ?_⟩
    rw [show (vs.extract off (off + n)).toList = (vs.toList.drop off).take n by simp [List.extract_eq_take_drop]]
    exact hsub
   ·simp only [owns]
    rw [show (vs.extract off (off + n)).toList = (vs.toList.drop off).take n by simp [List.extract_eq_take_drop]]
    exact hosub
  ·rw [h3] at hsub hosub
   simp only [VRs] at hsub
   obtain ⟨v', us, h4, h5, _⟩ := hsub
   rw [h4] at hosub
   simp only [aC, List.append_eq_nil_iff] at hosub
   refine ⟨v', run _ ?_, h5, hosub.1⟩
   have h6 : vs[off]? = some v' := by
    have h7 : ((vs.toList.drop off).take n)[0]? = some v' := by rw [h4]; rfl
    rw [List.getElem?_take, if_pos h0, List.getElem?_drop] at h7
    simpa using h7
   simp [part, nE hd, ha, h6]
 ·exact absurd hr (by simp)
theorem MX : ∀ {cs : List AV} (n : Nat), lq cs = true → lq (cs.drop n) = true
 | [], n, h => by simpa using h
 | c :: cs, 0, h => h
 | c :: cs, n + 1, h => by
  simp only [lq, Bool.and_eq_true] at h
  simpa using MX n h.2
theorem VD {off j z : Nat} {x : AX} {p : Operand} {t : TypeId} {fs : Array Field} {f : Field} (h : o.op = .fieldAddr t p j) (ht : c.P.underlying t = some (.struct fs)) (hf : fs[j]? = some f) (hof : f.offset = off)
 (hn : (c.P.info? f.type).map (·.size) = some z) (h0 : 0 < z) (hx : bA x p = true) : bK c (.fieldA off x) o := by
 refine ek fun s R k r hr => ?_
 have run : ∀ (a : Act) (w : World) (ad : Addr), a.eval p = .pointer (some ad) → (execOp a.eval o).run c.P w = .ok (.value (.pointer (some (ad.add off)))) w := by
  intro a w ad hp
  simp only [execOp, h]
  refine aG ?_
  simp only [Instr.fieldAt, Sem.run_bind, run_underlying ht, Result.andThen, hf, hp, Instr.sureAddr, Sem.run_pure, fieldPlace, iD hn, hof]
  rw [if_neg (by omega)]
  rfl
 simp only [AOp.run] at hr
 split at hr
 ·rename_i id off' hv
  refine ⟨_, hr, fun F g a w hs => ?_⟩
  have hp := aj hs hx
  rw [hv] at hp
  simp only [VR] at hp
  obtain ⟨b, hp, hb⟩ := hp
  refine ⟨_, run a w _ hp, ?_, rfl⟩
  rw [zu _ rfl]
  simp only [VR]
  exact ⟨b, rfl, hb⟩
 ·rename_i cs hv
  obtain ⟨h1, hr⟩ | ⟨_, hr⟩ := ae hr
  case inr => exact absurd hr (by simp)
  have h1 := Nat.le_of_ble_eq_true h1
  refine ⟨_, hr, fun F g a w hs => ?_⟩
  have hp := aj hs hx
  rw [hv] at hp
  simp only [VR] at hp
  obtain ⟨ad, vs, hp, hrd, hvs, hnp⟩ := hp
  refine ⟨_, run a w _ hp, ?_, rfl⟩
  simp only [VR]
  have hl := hvs.length
  have h2 := hrd.sub off (vs.length - off) (by omega)
  rw [List.take_of_length_le (by simp)] at h2
  exact ⟨_, _, rfl, h2, hvs.drop off, MX off hnp⟩
 ·exact absurd hr (by simp)
theorem Iy {i : AV} {top : Nat} {R : Type} {k : Nat → Option R} {r : R} (h : NK i top k = some r) : ∃ kd n, i = .int kd n ∧ 0 ≤ n ∧ n ≤ (top : Int) ∧ k n.toNat = some r := by
 unfold NK at h
 split at h
 ·rename_i kd n
  obtain ⟨h1, h2⟩ | ⟨_, h2⟩ := ae h
  case inr => exact absurd h2 (by simp)
  obtain ⟨h3, h4⟩ | ⟨_, h4⟩ := ae h2
  case inr => exact absurd h4 (by simp)
  exact ⟨kd, n, rfl, by simpa using h1, by simpa using h3, h4⟩
 ·exact absurd h (by simp)
def VRo (g : Gh) (w : World) : Option AV → Option Value → Prop
 | some a, some v => VR g w a v
 | none, none => True
 | _, _ => False
def TI : Option AX → Option Operand → Bool
 | some x, some p => bA x p
 | none, none => true
 | _, _ => false
theorem qC {F : Nat → Prop} {nt : Nat} {g : Gh} {s : St} {a : Act} {w : World} {os : List Rec} {x : Option AX} {p : Option Operand} (h : SimX F nt g s a w os) (hx : TI x p = true) : VRo g w (x.map (·.ev s)) (p.map a.eval) := by
 cases x <;> cases p <;> simp [TI] at hx
 ·trivial
 ·exact aj h hx
theorem yI {len : Nat} {lo hi : Option AV} {R : Type} {k : Nat → Option Nat → Option R} {r : R} (h : Ir len lo hi k = some r) : ∃ a b, k a b = some r ∧ a ≤ b.getD len ∧ b.getD len ≤ len ∧
 ∀ (P : Program) (w : World) (g : Gh) (lov hiv : Option Value) (cap : Nat) (is : Bool), len ≤ cap → VRo g w lo lov → VRo g w hi hiv → (Instr.sliceBounds is len cap lov hiv none).run P w = .ok (a, b.getD len, cap) w := by
 unfold Ir at h
 cases hi with
 | some hv =>
  obtain ⟨kh, nh, rfl, h1, h2, h3⟩ := Iy h
  cases lo with
  | some lv =>
   obtain ⟨kl, nl, rfl, h4, h5, h6⟩ := Iy h3
   refine ⟨_, _, h6, by simp; omega, by simp; omega, ?_⟩
   intro P w g lov hiv cap is hle hl hh
   cases lov <;> cases hiv <;> simp only [VRo, VR] at hl hh
   subst hl; subst hh
   have e1 : (nh.toNat : Int) = nh := Int.toNat_of_nonneg h1
   have e2 : nh ≤ (cap : Int) := by omega
   have e3 : nl ≤ nh := by omega
   simp [Instr.sliceBounds, run_sliceBound, h1, h4, e2, e1, e3]
  | none =>
   refine ⟨_, _, h3, by simp, by simp; omega, ?_⟩
   intro P w g lov hiv cap is hle hl hh
   cases lov <;> cases hiv <;> simp only [VRo, VR] at hl hh
   subst hh
   have e2 : nh ≤ (cap : Int) := by omega
   simp [Instr.sliceBounds, run_sliceBound, h1, e2]
 | none =>
  cases lo with
  | some lv =>
   obtain ⟨kl, nl, rfl, h4, h5, h6⟩ := Iy h
   refine ⟨_, _, h6, by simp; omega, by simp, ?_⟩
   intro P w g lov hiv cap is hle hl hh
   cases lov <;> cases hiv <;> simp only [VRo, VR] at hl hh
   subst hl
   simp [Instr.sliceBounds, run_sliceBound, h4, h5]
  | none =>
   refine ⟨_, _, h, by simp, by simp, ?_⟩
   intro P w g lov hiv cap is hle hl hh
   cases lov <;> cases hiv <;> simp only [VRo, VR] at hl hh
   simp [Instr.sliceBounds]
theorem Mm {α : Type} (l : List α) (a : Nat) (b : Option Nat) (h : b.getD l.length ≤ l.length) : cut l a b = (l.take (b.getD l.length)).drop a := by
 cases b with
 | some b => rfl
 | none => simp [cut]
theorem Row.cut {g : Gh} {w : World} {own : Bool} {ao : Option Addr} {n c sz : Nat} {vs : List Value} (h : Row g w own ao n c sz vs) {a b : Nat} (h1 : a ≤ b) (h2 : b ≤ n) :
 Row g w false (if c = a then ao else ao.map (·.add (a * sz))) (b - a) (c - a) sz ((vs.take (b * sz)).drop (a * sz)) := by
 obtain ⟨e1, e2, e3, e4, e5, e6, e7⟩ := h
 have m1 : a * sz ≤ b * sz := Nat.mul_le_mul_right _ h1
 have m2 : b * sz ≤ n * sz := Nat.mul_le_mul_right _ h2
 refine ⟨by rw [List.length_drop, List.length_take, Nat.sub_mul]; omega, by omega, by omega, fun hp => ?_, fun hh => by simp at hh, fun hn => ?_, fun u hu => e7 u (List.mem_of_mem_take (List.mem_of_mem_drop hu))⟩
 ·rw [List.length_drop, List.length_take] at hp
  obtain ⟨ad, rfl, hr⟩ := e4 (by omega)
  have hne : c ≠ a := by
   intro e
   subst e
   have : b = n := by omega
   have : n = c := by omega
   subst this; subst b
   omega
  refine ⟨ad.add (a * sz), by simp [hne], ?_⟩
  have := hr.sub (a * sz) (b * sz - a * sz) (by omega)
  rwa [List.drop_take]
 ·by_cases e : c = a
  ·rw [if_pos e] at hn
   have := e6 hn
   omega
  ·rw [if_neg e] at hn
   have := e6 (by simpa using hn)
   omega
theorem ok_slice {x : AX} {lo hi : Option AX} {p : Operand} {l' h' : Option Operand} {t e : TypeId} {z : Nat} (h : o.op = .slice t p l' h' none) (ht : c.P.underlying t = some (.slice e)) (hz : (c.P.info? e).map (·.size) = some z) (h0 : 0 < z)
 (hx : bA x p = true) (hlo : TI lo l' = true) (hhi : TI hi h' = true) : bK c (.slice z x lo hi) o := by
 refine ek fun s R k r hr => ?_
 have run : ∀ (g : Gh) (a : Act) (w : World) (ao : Option Addr) (n cp m1 : Nat) (m2 : Option Nat), a.eval p = .slice ao n cp → n ≤ cp → VRo g w (lo.map (·.ev s)) (l'.map a.eval) → VRo g w (hi.map (·.ev s)) (h'.map a.eval) →
  (∀ (P : Program) (w : World) (g : Gh) (lov hiv : Option Value) (cap : Nat) (is : Bool), n ≤ cap → VRo g w (lo.map (·.ev s)) lov → VRo g w (hi.map (·.ev s)) hiv → (Instr.sliceBounds is n cap lov hiv none).run P w = .ok (m1, m2.getD n, cap) w) →
  (execOp a.eval o).run c.P w = .ok (.value (.slice (if cp = m1 then ao else ao.map (·.add (m1 * z))) (m2.getD n - m1) (cp - m1))) w := by
  intro g a w ao n cp m1 m2 hp hle hl hh hb
  simp only [execOp, h]
  refine aG ?_
  rw [run_sliceAt_slice w t _ _ _ _ (by rw [BI ht]; exact ht), hp]
  simp only [Option.map_none]
  rw [run_slice_any w t ao n cp (by rw [BI ht]; exact ht), hb c.P w g _ _ cp true hle hl hh, BI ht]
  simp [Result.andThen, iD hz, sliced]
 simp only [AOp.run] at hr
 split at hr
 ·rename_i own kd l hv
  obtain ⟨hc, hr2⟩ | ⟨_, hr2⟩ := ae hr
  case inr => exact absurd hr2 (by simp)
  simp only [beq_iff_eq] at hc
  subst hc
  obtain ⟨m1, m2, h3, h4, h5, h6⟩ := yI hr2
  refine ⟨_, h3, fun F g a w hs => ?_⟩
  have hp := aj hs hx
  rw [hv] at hp
  simp only [VR] at hp
  obtain ⟨ao, n, cp, hp, hrow⟩ := hp
  have hn : n = l.length := by have := hrow.1; simp at this; exact this.symm
  subst hn
  refine ⟨_, run g a w ao _ cp m1 m2 hp hrow.2.1 (qC hs hlo) (qC hs hhi) h6, ?_, rfl⟩
  simp only [VR]
  refine ⟨_, _, _, rfl, ?_⟩
  have := hrow.cut h4 h5
  simp only [Nat.mul_one] at this
  rw [Mm l m1 m2 h5, List.map_drop, List.map_take]
  simpa using this
 ·rename_i own l hv
  obtain ⟨hc, hr2⟩ | ⟨_, hr2⟩ := ae hr
  case inr => exact absurd hr2 (by simp)
  simp only [beq_iff_eq] at hc
  subst hc
  obtain ⟨m1, m2, h3, h4, h5, h6⟩ := yI hr2
  refine ⟨_, h3, fun F g a w hs => ?_⟩
  have hp := aj hs hx
  rw [hv] at hp
  simp only [VR] at hp
  obtain ⟨ao, n, cp, hp, hrow⟩ := hp
  have hn : n = l.length := by have := hrow.1; simp at this; exact this.symm
  subst hn
  refine ⟨_, run g a w ao _ cp m1 m2 hp hrow.2.1 (qC hs hlo) (qC hs hhi) h6, ?_, rfl⟩
  simp only [VR]
  refine ⟨_, _, _, rfl, ?_⟩
  have := hrow.cut h4 h5
  simp only [Nat.mul_one] at this
  rw [Mm l m1 m2 h5, List.map_drop, List.map_take]
  simpa using this
 ·rename_i own sz els hv
  obtain ⟨hc, hr2⟩ | ⟨_, hr2⟩ := ae hr
  case inr => exact absurd hr2 (by simp)
  simp only [beq_iff_eq] at hc
  subst hc
  obtain ⟨m1, m2, h3, h4, h5, h6⟩ := yI hr2
  refine ⟨_, h3, fun F g a w hs => ?_⟩
  have hp := aj hs hx
  rw [hv] at hp
  simp only [VR] at hp
  obtain ⟨ao, n, cp, vs, hp, hrow, hn, hsz, hvs⟩ := hp
  subst hn
  refine ⟨_, run g a w ao _ cp m1 m2 hp hrow.2.1 (qC hs hlo) (qC hs hhi) h6, ?_, rfl⟩
  simp only [VR]
  refine ⟨_, _, _, _, rfl, hrow.cut h4 h5, ?_, ?_, ?_⟩
  ·rw [Mm els m1 m2 h5, List.length_drop, List.length_take]; omega
  ·intro e he
   rw [Mm els m1 m2 h5] at he
   exact hsz e (List.mem_of_mem_take (List.mem_of_mem_drop he))
  ·rw [Mm els m1 m2 h5]
   exact (hvs.take _ (fun e he => (hsz e he).1)).drop _ (fun e he => (hsz e (List.mem_of_mem_take he)).1)
 ·rename_i id m tot sz hv
  obtain ⟨hc, hr2⟩ | ⟨_, hr2⟩ := ae hr
  case inr => exact absurd hr2 (by simp)
  simp only [beq_iff_eq] at hc
  subst hc
  obtain ⟨m1, m2, h3, h4, h5, h6⟩ := yI hr2
  cases lo with
  | none =>
   simp only at h3
   obtain ⟨h0', h3⟩ | ⟨_, h3⟩ := ae h3
   case inr => exact absurd h3 (by simp)
   have h0' := Nat.eq_of_beq_eq_true h0'
   subst h0'
   refine ⟨_, h3, fun F g a w hs => ?_⟩
   have hp := aj hs hx
   rw [hv] at hp
   simp only [VR] at hp
   obtain ⟨ao, b, cp, hp, hle, hmt, hb, hz0, hao⟩ := hp
   refine ⟨_, run g a w ao _ cp 0 m2 hp hle (qC hs hlo) (qC hs hhi) h6, ?_, rfl⟩
   simp only [VR]
   refine ⟨_, b, _, rfl, by omega, by omega, hb, fun h => by obtain ⟨rfl, rfl⟩ := hz0 h; simp, fun h => ?_⟩
   obtain ⟨rfl, h8⟩ := hao h
   refine ⟨?_, by simpa using h8⟩
   split
   ·rfl
   ·simp [zu]
  | some lo =>
   simp only at h3
   refine ⟨_, h3, fun F g a w hs => ?_⟩
   have hp := aj hs hx
   rw [hv] at hp
   simp only [VR] at hp
   obtain ⟨ao, b, cp, hp, hle, hmt, hb, hz0, hao⟩ := hp
   refine ⟨_, run g a w ao _ cp m1 m2 hp hle (qC hs hlo) (qC hs hhi) h6, ?_, rfl⟩
   simp only [VR]
   refine ⟨_, b, _, rfl, fun h => ?_, by omega, hb⟩
   obtain ⟨rfl, h8⟩ := hao (by omega)
   rw [if_neg (by omega)]
   simp [zu]
 ·rename_i id off m sz hv
  obtain ⟨hc, hr2⟩ | ⟨_, hr2⟩ := ae hr
  case inr => exact absurd hr2 (by simp)
  simp only [beq_iff_eq] at hc
  subst hc
  obtain ⟨m1, m2, h3, h4, h5, h6⟩ := yI hr2
  refine ⟨_, h3, fun F g a w hs => ?_⟩
  have hp := aj hs hx
  rw [hv] at hp
  simp only [VR] at hp
  obtain ⟨ao, b, cp, hp, hao, hle, hb⟩ := hp
  refine ⟨_, run g a w ao _ cp m1 m2 hp hle (qC hs hlo) (qC hs hhi) h6, ?_, rfl⟩
  simp only [VR]
  refine ⟨_, b, _, rfl, fun h => ?_, by omega, hb⟩
  obtain rfl := hao (by omega)
  rw [if_neg (by omega)]
  simp [zu]
 ·exact absurd hr (by simp)
theorem VE {x : AX} {lo hi : Option AX} {p : Operand} {l' h' : Option Operand} {t : TypeId} (h : o.op = .slice t p l' h' none) (ht : c.P.underlying t = some .string)
 (hx : bA x p = true) (hlo : TI lo l' = true) (hhi : TI hi h' = true) : bK c (.sliceS x lo hi) o := by
 refine ek fun s R k r hr => ?_
 simp only [AOp.run] at hr
 split at hr
 ·rename_i l hv
  obtain ⟨m1, m2, h3, h4, h5, h6⟩ := yI hr
  refine ⟨_, h3, fun F g a w hs => ?_⟩
  have hp := aj hs hx
  rw [hv] at hp
  have hp2 := hp
  obtain ⟨s1, hp, hl⟩ := hp.QP
  simp only [VR] at hp2
  obtain ⟨s2, hp2, hl2⟩ := hp2
  have e12 : s2 = s1 := by rw [hp] at hp2; injection hp2 with e; exact e.symm
  subst e12
  refine ⟨.string (s2.extract m1 (m2.getD l.length)), ?_, ?_, rfl⟩
  ·simp only [execOp, h]
   refine aG ?_
   rw [run_sliceAt_string w t _ _ _ _ ht, hp]
   have hb := h6 c.P w g _ _ l.length false (Nat.le_refl _) (qC hs hlo) (qC hs hhi)
   simp [Instr.slice, run_underlying ht, hl, hb, Result.andThen]
  ·simp only [VR]
   refine ⟨_, rfl, ?_⟩
   rw [Mm l m1 m2 h5, ByteArray.data_extract, Array.toList_extract, hl2, List.extract_eq_drop_take', ]
 ·exact absurd hr (by simp)
theorem VF (l : List Int) : ((l.foldl (fun r n => r.push (UInt8.ofNat n.toNat)) ByteArray.empty : ByteArray)).data.toList = aaa l := by
 rw [foldl_push_bytes]
 simp [aaa, ByteArray.empty, ByteArray.emptyWithCapacity]
 rfl
theorem Xd {x : AX} {p : Operand} {src dst e : TypeId} (h : o.op = .convert src dst p) (hs0 : c.P.underlying src = some (.slice e)) (he : c.P.underlying e = some (.int .u8)) (hd : c.P.underlying dst = some .string) (hx : bA x p = true) : bK c (.toStr x) o := by
 refine ek fun s R k r hr => ?_
 simp only [AOp.run] at hr
 split at hr
 ·rename_i own l hv
  refine ⟨_, hr, fun F g a w hs => ?_⟩
  have hp := aj hs hx
  rw [hv] at hp
  simp only [VR] at hp
  obtain ⟨ao, n, cp, hp, hrow⟩ := hp
  have hn : n = l.length := by have := hrow.1; simp at this; exact this.symm
  subst hn
  have run : ∀ v', (Conv.bytesToString (.slice ao l.length cp)).run c.P w = .ok v' w → (execOp a.eval o).run c.P w = .ok (.value v') w := by
   intro v' hv'
   simp only [execOp, h]
   refine aG ?_
   rw [hp, run_convert_bytes_string w src dst e ao _ cp hs0 he hd]
   exact hv'
  cases ao with
  | none =>
   have := (hrow.2.2.2.2.2.1 rfl).1
   have hl : l = [] := List.length_eq_zero_iff.1 this
   subst hl
   refine ⟨.string .empty, run _ (by simp [Conv.bytesToString]), ?_, rfl⟩
   simp only [VR]
   exact ⟨_, rfl, rfl⟩
  | some ad =>
   refine ⟨_, run _ (run_bytesToString w ad l.length cp l ?_), ?_, rfl⟩
   ·by_cases h0 : l = []
    ·subst h0
     rfl
    ·have hlen : 0 < (l.map (Value.int .u8)).length := by
      rw [List.length_map]; exact List.length_pos_iff.2 h0
     obtain ⟨ad', e1, hrd⟩ := hrow.2.2.2.1 hlen
     injection e1 with e1
     subst e1
     have := run_loadCells_list (P := c.P) w ad (l.map (Value.int .u8)) (fun j v hj => by
      have hlt : j < (l.map (Value.int .u8)).length := (List.getElem?_eq_some_iff.1 hj).1
      rw [zu _ hrd.1, hrd.2.2 j hlt, hj])
     rwa [List.length_map] at this
   ·simp only [VR]
    exact ⟨_, rfl, VF l⟩
 ·exact absurd hr (by simp)
theorem TJ {i : Nat} {x : AX} {p : Operand} (h : o.op = .extract p i) (hx : bA x p = true) : bK c (.extract i x) o := by
 intro s R k r hr
 simp only [AOp.run] at hr
 split at hr
 ·rename_i vs hv
  split at hr
  ·rename_i v hi
   refine ⟨_, _, hr, OpSem.run fun F g a w B _ hp hs => ?_⟩
   obtain ⟨h1, h2⟩ := AX.ok hs hx
   rw [hv] at h1 h2
   simp only [VR] at h1
   obtain ⟨us, h3, h4⟩ := h1
   obtain ⟨v', h5, h6⟩ := h4.get i v hi
   refine ⟨v', g, w, ?_, h6, hp, ?_, Step.refl _ _ _⟩
   ·simp only [execOp, h]
    refine aG ?_
    rw [h3]
    have h7 : us[i]? = some v' := by simpa using h5
    simp [Instr.extract, h7]
   ·rw [h3] at h2
    simp only [owns, List.append_nil] at h2
    have hm := VC hi h5
    exact h2.less hm.1 hm.2
  ·exact absurd hr (by simp)
 ·exact absurd hr (by simp)
theorem VG {fn : Fn} {fs xs : List AX} {qs ps : List Operand} (h : o.op = .makeFunc fn qs.toArray ps.toArray) (hf : wU fs qs = true) (hx : wU xs ps = true) : bK c (.mkFunc fn fs xs) o := by
 refine ek fun s R k r hr => ?_
 simp only [AOp.run] at hr
 refine ⟨_, hr, fun F g a w hs => ?_⟩
 refine ⟨.func fn (qs.map a.eval).toArray (ps.map a.eval).toArray, ?_, ?_, rfl⟩
 ·simp [execOp, h, Instr.makeFunc]
 ·simp only [VR]
  exact ⟨_, _, rfl, by simpa using VRs.disown _ _ (AX.oks hs hf).1, by simpa using VRs.disown _ _ (AX.oks hs hx).1⟩
end Go.Sh
namespace Go.Sh
open Go.RowKit
set_option linter.unusedSimpArgs false
set_option linter.unusedVariables false
theorem Fz (b : Nat) (r : Rec) (l : List Rec) : oc b (r :: l) = (if r.1 = b then 1 else 0) + oc b l := by
 unfold oc
 rw [List.countP_cons]
 by_cases h : r.1 = b <;> simp [h]; omega
theorem yw {o : AObj} {H : List AObj} {b : Nat} {bs : List Nat} {x : Nat} (h : x ∈ lives H bs) : x ∈ lives (o :: H) (b :: bs) := by
 rw [lives]
 cases o.dead with
 | true => exact h
 | false => exact List.mem_cons_of_mem _ h
theorem Ec {o : AObj} {H : List AObj} {b : Nat} {bs : List Nat} (h : o.dead = false) : b ∈ lives (o :: H) (b :: bs) := by
 rw [lives, h]
 exact List.mem_cons_self ..
theorem Iz {o : AObj} {H : List AObj} {b : Nat} {bs : List Nat} {x : Nat} (h : x ∈ lives (o :: H) (b :: bs)) : (o.dead = false ∧ x = b) ∨ x ∈ lives H bs := by
 rw [lives] at h
 cases ho : o.dead with
 | true => rw [ho] at h; exact .inr h
 | false =>
  rw [ho] at h
  rcases List.mem_cons.1 h with h | h
  ·exact .inl ⟨rfl, h⟩
  ·exact .inr h
theorem Mo : ∀ {H : List AObj} {bs : List Nat} {x : Nat}, x ∈ lives H bs → x ∈ bs
 | [], _, _, h => by simp [lives] at h
 | o :: H, [], _, h => by simp [lives] at h
 | o :: H, b :: bs, x, h => by
  rcases Iz h with ⟨_, rfl⟩ | h
  ·exact List.mem_cons_self ..
  ·exact List.mem_cons_of_mem _ (Mo h)
theorem oN {w : World} {b : Nat} {o : AObj} (h : o.dead = true) : jo w b o = [] := by
 cases o with
 | gone => rfl
 | rowC n els => rfl
 | rowN k xs => rfl
 | _ => simp [AObj.dead] at h
theorem DV {g : Gh} {w : World} {b : Nat} {o : AObj} (h : o.dead = true) : ObjR g w b o := by
 cases o with
 | gone => trivial
 | rowC n els =>
  cases els with
  | nil => exact .inl rfl
  | cons a b => simp [AObj.dead] at h
 | rowN k xs =>
  cases xs with
  | nil => exact .inl rfl
  | cons a b => simp [AObj.dead] at h
 | _ => simp [AObj.dead] at h
theorem jb : ∀ {H : List AObj} {bs : List Nat} {o : AObj} {b : Nat}, H.length = bs.length → lives (H ++ [o]) (bs ++ [b]) = lives H bs ++ (bif o.dead then [] else [b])
 | [], bs, o, b, h => by
  cases bs with
  | nil => simp only [List.nil_append, lives]
  | cons c cs => simp at h
 | x :: H, bs, o, b, h => by
  cases bs with
  | nil => simp at h
  | cons c cs =>
   rw [List.cons_append, List.cons_append, lives, lives, jb (H := H) (bs := cs) (by simpa using h)]
   cases x.dead <;> rfl
theorem mf : ∀ {H : List AObj} {bs : List Nat} {i b : Nat} {o : AObj}, H[i]? = some o → bs[i]? = some b → o.dead = false → b ∈ lives H bs
 | [], _, _, _, _, h, _, _ => by simp at h
 | x :: H, [], _, _, _, _, h, _ => by simp at h
 | x :: H, c :: cs, 0, b, o, h1, h2, hd => by
  simp at h1 h2
  subst h1 h2
  exact Ec hd
 | x :: H, c :: cs, i + 1, b, o, h1, h2, hd => by
  simp at h1 h2
  exact yw (mf h1 h2 hd)
theorem ObjsR.move {g g' : Gh} {w w' : World} (e : Ext g w g' w') : ∀ (H : List AObj) (bs : List Nat), ObjsR g w H bs → (∀ b ∈ lives H bs, w'.heap[b]? = w.heap[b]?) → ObjsR g' w' H bs ∧ aU w' H bs = aU w H bs
 | [], bs, h, _ => by simp only [ObjsR] at h ⊢; subst h; exact ⟨rfl, rfl⟩
 | o :: H, bs, h, hb => by
  simp only [ObjsR] at h
  obtain ⟨b, cs, rfl, h1, h2⟩ := h
  obtain ⟨h3, h4⟩ := ObjsR.move e H cs h2 (fun b hb' => hb b (yw hb'))
  cases hdead : o.dead with
  | true =>
   refine ⟨?_, by simp only [aU, h4]; rw [oN hdead, oN hdead]⟩
   simp only [ObjsR]
   exact ⟨b, cs, rfl, DV hdead, h3⟩
  | false =>
  have hbb := hb b (Ec hdead)
  refine ⟨?_, ?_⟩
  ·simp only [ObjsR]
   refine ⟨b, cs, rfl, ?_, h3⟩
   cases o with
   | cells t xs =>
    simp only [ObjR] at h1 ⊢
    obtain ⟨arr, h5, h6⟩ := h1
    exact ⟨arr, by rw [hbb]; exact h5, VRs.ext e _ _ h6⟩
   | map es =>
    simp only [ObjR] at h1 ⊢
    obtain ⟨en, cl, h5, h6⟩ := h1
    exact ⟨en, cl, by rw [hbb]; exact h5, h6.ext e⟩
   | rowS t xs =>
    simp only [ObjR] at h1 ⊢
    obtain ⟨arr, rest, h5, h6⟩ := h1
    exact ⟨arr, rest, by rw [hbb]; exact h5, h6⟩
   | rowI t k xs =>
    simp only [ObjR] at h1 ⊢
    obtain ⟨arr, rest, h5, h6⟩ := h1
    exact ⟨arr, rest, by rw [hbb]; exact h5, h6⟩
   | loop key cs' =>
    simp only [ObjR] at h1 ⊢
    obtain ⟨r, h5, h6, h7, h8, h9, h10, h11, h12⟩ := h1
    exact ⟨r, by rw [hbb]; exact h5, h6, h7, h8, h9, h10, h11, VRs.ext e _ _ h12⟩
   | buf kd t l =>
    match kd, h1 with
    | 0, h1 =>
     simp only [ObjR] at h1 ⊢
     obtain ⟨x, u, h5, h6, h7, h0, h8⟩ := h1
     refine ⟨x, u, by rw [hbb]; exact h5, h6, VR.ext e _ _ h7, h0, fun a n c hu hl => ?_⟩
     rw [← h8 a n c hu hl]
     refine e.ty _ ?_
     subst hu
     simp only [VR] at h7
     obtain ⟨a', n', c', he, hr⟩ := h7
     injection he with he _ _
     subst he
     obtain ⟨ad, hd, hrd⟩ := hr.2.2.2.1 (by simpa using List.length_pos_iff.2 hl)
     injection hd with hd
     subst hd
     have := hrd.2.1
     have hl' := List.length_pos_iff.2 hl
     simp at this
     omega
    | 1, h1 =>
     simp only [ObjR] at h1 ⊢
     obtain ⟨x, u, h5, h7, h8, h9⟩ := h1
     exact ⟨x, u, by rw [hbb]; exact h5, VR.ext e _ _ h7, h8, h9⟩
    | n + 2, h1 => exact absurd h1 (by simp [ObjR])
   | rowC n els =>
    simp only [ObjR] at h1 ⊢
    rcases h1 with h1 | ⟨h1, arr, t, vs, rest, h5, h6, h7⟩
    ·exact .inl h1
    ·exact .inr ⟨h1, arr, t, vs, rest, h5.of_heap hbb, h6, VRss.ext e _ _ h7⟩
   | mapI es =>
    simp only [ObjR] at h1 ⊢
    rw [hbb]; exact h1
   | rowN k xs =>
    simp only [ObjR] at h1 ⊢
    rcases h1 with h1 | ⟨arr, t, rest, h5, h6⟩
    ·exact .inl h1
    ·exact .inr ⟨arr, t, rest, h5.of_heap hbb, h6⟩
   | gone => trivial
  ·simp only [aU, h4]
   congr 1
   cases o with
   | buf kd t l => match kd with
    | 0 | 1 | n + 2 => simp only [jo, hbb]
   | _ => simp only [jo, hbb]
theorem ObjsR.lt {g : Gh} {w : World} : ∀ {H : List AObj} {bs : List Nat}, ObjsR g w H bs → ∀ b ∈ lives H bs, b < w.heap.size
 | [], bs, h, b, hb => by simp [lives] at hb
 | o :: H, bs, h, b, hb => by
  simp only [ObjsR] at h
  obtain ⟨b', cs, rfl, h1, h2⟩ := h
  rcases Iz hb with ⟨hdead, rfl⟩ | hb
  ·cases o with
   | cells t xs =>
    simp only [ObjR] at h1
    obtain ⟨arr, h5, _⟩ := h1
    exact (Array.getElem?_eq_some_iff.1 h5).1
   | map es =>
    simp only [ObjR] at h1
    obtain ⟨en, cl, h5, _⟩ := h1
    exact (Array.getElem?_eq_some_iff.1 h5).1
   | rowS t xs =>
    simp only [ObjR] at h1
    obtain ⟨arr, rest, h5, _⟩ := h1
    exact (Array.getElem?_eq_some_iff.1 h5).1
   | rowI t k xs =>
    simp only [ObjR] at h1
    obtain ⟨arr, rest, h5, _⟩ := h1
    exact (Array.getElem?_eq_some_iff.1 h5).1
   | loop key cs' =>
    simp only [ObjR] at h1
    obtain ⟨r, h5, _⟩ := h1
    exact (Array.getElem?_eq_some_iff.1 h5).1
   | buf kd t l =>
    match kd, h1 with
    | 0, h1 | 1, h1 =>
     simp only [ObjR] at h1
     obtain ⟨x, u, h5, _⟩ := h1
     exact (Array.getElem?_eq_some_iff.1 h5).1
    | n + 2, h1 => exact absurd h1 (by simp [ObjR])
   | rowC n els =>
    simp only [ObjR] at h1
    rcases h1 with h1 | ⟨h1, arr, t, vs, rest, h5, h6, h7⟩
    ·subst h1; simp [AObj.dead] at hdead
    ·exact h5.lt
   | mapI es =>
    simp only [ObjR] at h1
    obtain ⟨en, cl, h5, _⟩ := h1
    exact (Array.getElem?_eq_some_iff.1 h5).1
   | rowN k xs =>
    simp only [ObjR] at h1
    rcases h1 with h1 | ⟨arr, t, rest, h5, h6⟩
    ·subst h1; simp [AObj.dead] at hdead
    ·exact h5.lt
   | gone => simp [AObj.dead] at hdead
  ·exact ObjsR.lt h2 b hb
theorem ObjsR.length {g : Gh} {w : World} : ∀ {H : List AObj} {bs : List Nat}, ObjsR g w H bs → H.length = bs.length
 | [], bs, h => by simp only [ObjsR] at h; subst h; rfl
 | o :: H, bs, h => by
  simp only [ObjsR] at h
  obtain ⟨b', cs, rfl, h1, h2⟩ := h
  simp [ObjsR.length h2]
theorem OwnOK.lt {g : Gh} {w : World} {r : Rec} (h : OwnOK g w r) : r.1 < w.heap.size := by
 obtain ⟨_, _, arr, t, h1, _⟩ := h
 exact h1.lt
def Gh.set (g : Gh) (b n : Nat) : Gh := ⟨g.obj, fun k => if k = b then n else g.len k⟩
theorem cell_of {w w' : World} {b : Nat} (h : w'.heap[b]? = w.heap[b]?) (j : Nat) : w'.cell? ⟨b, j, none⟩ = w.cell? ⟨b, j, none⟩ := World.cell?_of_block (a := ⟨b, j, none⟩) h
theorem Core.grow {F : Nat → Prop} {g : Gh} {H : List AObj} {os : List Rec} {w w' : World} (h : Core F g H os w) (hb : ∀ k, k < w.heap.size → w'.heap[k]? = w.heap[k]?) (hs : w.heap.size < w'.heap.size) (ho : w'.os = w.os) (ht : w'.tape = w.tape) (hout : w'.output = w.output) (n : Nat) :
 Ext g w (g.set w.heap.size n) w' ∧ Step F g w (g.set w.heap.size n) w' ∧ Core F (g.set w.heap.size n) H os w' := by
 have hl : ∀ k, 0 < g.len k → k ≠ w.heap.size := fun k hk e => by have := h.lenlt k hk; omega
 have h0 : g.len w.heap.size = 0 := by
  rcases Nat.eq_zero_or_pos (g.len w.heap.size) with e | e
  ·exact e
  ·exact absurd rfl (hl _ e)
 have ext : Ext g w (g.set w.heap.size n) w' := ⟨fun b j hj => cell_of (hb b (h.lenlt b (by omega))) j, fun b hb' => qY (hb b (h.lenlt b hb')), UL hb, fun b => by
  by_cases e : b = w.heap.size
  ·subst e; rw [h0]; exact Nat.zero_le _
  ·simp [Gh.set, e], fun i b hb => hb⟩
 have hobj := ObjsR.move ext H g.obj h.heap (fun b hb' => hb b (h.heap.lt b hb'))
 refine ⟨ext, ⟨ext.cell, ext.ty, ext.bsz, ext.len, fun b hF => ⟨hb b (h.flt b hF), ?_⟩, Nat.le_of_lt hs, ho, ht, hout⟩, ?_⟩
 ·have := h.flt b hF
  simp [Gh.set, show b ≠ w.heap.size by omega]
 ·refine ⟨hobj.1, fun r hr => ?_, fun b => ?_, fun b hF => ?_, fun b hb' => ?_, fun b hb' => ?_, fun b hF => Nat.lt_trans (h.flt b hF) hs, h.good.step (fun _ h => h) fun b hF => hb b (h.flt b hF)⟩
  ·rw [show (g.set w.heap.size n).obj = g.obj from rfl, hobj.2] at hr
   have h1 := h.own r hr
   have h2 := h1.lt
   obtain ⟨h3, h4, arr, t, h5, h6⟩ := h1
   exact ⟨by simp [Gh.set, show r.1 ≠ w.heap.size by omega, h3], h4, arr, t, h5.of_heap (hb _ h2), h6⟩
  ·rw [show (g.set w.heap.size n).obj = g.obj from rfl, hobj.2]; exact h.dist b
  ·rw [show (g.set w.heap.size n).obj = g.obj from rfl, hobj.2]; exact h.notF b hF
  ·have := h.heap.lt b hb'
   simp [Gh.set, show b ≠ w.heap.size by omega]
   exact h.objlen b hb'
  ·by_cases e : b = w.heap.size
   ·omega
   ·simp [Gh.set, e] at hb'
    exact Nat.lt_trans (h.lenlt b hb') hs
theorem Core.QQ {F : Nat → Prop} {g : Gh} {H : List AObj} {os : List Rec} {w w' : World} (h : Core F g H os w) (hb : ∀ k, k < w.heap.size → w'.heap[k]? = w.heap[k]?) (hs : w.heap.size < w'.heap.size) (ho : w'.os = w.os) (ht : w'.tape = w.tape) (hout : w'.output = w.output) (n cp : Nat)
 {arr : Array Value} {t : TypeId} (hnew : CellsAt w' w.heap.size arr t) (hn : n ≤ cp) (hc : cp ≤ arr.size) :
 Ext g w (g.set w.heap.size n) w' ∧ Step F g w (g.set w.heap.size n) w' ∧ Core F (g.set w.heap.size n) H ((w.heap.size, n, cp) :: os) w' := by
 obtain ⟨h1, h2, h3⟩ := h.grow hb hs ho ht hout n
 have hz : oc w.heap.size os + oc w.heap.size (aU w' H (g.set w.heap.size n).obj) + (lives H (g.set w.heap.size n).obj).count w.heap.size = 0 := by
  have e1 : oc w.heap.size os = 0 := by
   rcases Nat.eq_zero_or_pos (oc w.heap.size os) with e | e
   ·exact e
   ·obtain ⟨r, hr, hr2⟩ := List.countP_pos_iff.1 e
    have := (h.own r (.inl hr)).lt
    simp at hr2
    omega
  have e2 : oc w.heap.size (aU w H g.obj) = 0 := by
   rcases Nat.eq_zero_or_pos (oc w.heap.size (aU w H g.obj)) with e | e
   ·exact e
   ·obtain ⟨r, hr, hr2⟩ := List.countP_pos_iff.1 e
    have := (h.own r (.inr hr)).lt
    simp at hr2
    omega
  have e3 : (lives H g.obj).count w.heap.size = 0 := List.count_eq_zero.2 (fun hm => by have := h.heap.lt _ hm; omega)
  have e4 := (ObjsR.move h1 H g.obj h.heap (fun b hb' => hb b (h.heap.lt b hb'))).2
  rw [show (g.set w.heap.size n).obj = g.obj from rfl, e1, e4, e2, e3]
 refine ⟨h1, h2, h3.heap, fun r hr => ?_, fun b => ?_, fun b hF => ?_, h3.objlen, h3.lenlt, h3.flt, h3.good⟩
 ·rcases hr with hr | hr
  ·rcases List.mem_cons.1 hr with rfl | hr
   ·exact ⟨by simp [Gh.set], hn, arr, t, hnew, hc⟩
   ·exact h3.own r (.inl hr)
  ·exact h3.own r (.inr hr)
 ·rw [Fz]
  by_cases e : w.heap.size = b
  ·subst e; simp; omega
  ·simp only [e, if_false]; have := h3.dist b; omega
 ·rw [Fz]
  have := h.flt b hF
  have h5 := h3.notF b hF
  simp only [show w.heap.size ≠ b by omega, if_false]
  omega
theorem Core.write {F : Nat → Prop} {g : Gh} {H : List AObj} {os : List Rec} {w w' : World} {b n cp n' : Nat} {arr arr' : Array Value} {t : TypeId} (h : Core F g H ((b, n, cp) :: os) w) (hw : CellsAt w b arr t)
 (hw' : CellsAt w' b arr' t) (hb : ∀ k, k ≠ b → w'.heap[k]? = w.heap[k]?) (hs : w'.heap.size = w.heap.size) (ho : w'.os = w.os) (ht : w'.tape = w.tape) (hout : w'.output = w.output)
 (hsz : arr'.size = arr.size) (hsame : ∀ j, j < n → arr'[j]? = arr[j]?) (hn : n ≤ n') (hn' : n' ≤ cp) :
 Ext g w (g.set b n') w' ∧ Step F g w (g.set b n') w' ∧ Core F (g.set b n') H ((b, n', cp) :: os) w' := by
 obtain ⟨o1, o2, arr0, t0, o3, o4⟩ := h.own (b, n, cp) (.inl (by simp))
 simp only at o1 o2 o3 o4
 have e0 : arr0 = arr := (hw.uniq o3).1
 subst e0
 have hd := h.dist b
 rw [Fz] at hd
 simp only [if_true] at hd
 have hob : ∀ k, k ∈ lives H g.obj → k ≠ b := fun k hk e => by
  subst e
  have := List.count_pos_iff.2 hk
  omega
 have ext : Ext g w (g.set b n') w' := ⟨fun k j hj => by
  by_cases e : k = b
  ·subst e
   rw [o1] at hj
   rw [hw.cell, hw'.cell]
   exact hsame j hj
  ·exact cell_of (hb k e) j, fun k _ => by
  by_cases e : k = b
  ·subst e; rw [hw.ty, hw'.ty]
  ·exact qY (hb k e), GN hb (by rw [hw.bsz, hw'.bsz, hsz]; exact Nat.le_refl _), fun k => by
  by_cases e : k = b
  ·subst e; simp [Gh.set, o1]; exact hn
  ·simp [Gh.set, e], fun i b hb => hb⟩
 have hobj := ObjsR.move ext H g.obj h.heap (fun k hk => hb k (hob k hk))
 have hFb : ¬ F b := fun hF => by have := h.notF b hF; rw [Fz] at this; simp only [if_true] at this; omega
 refine ⟨ext, ⟨ext.cell, ext.ty, ext.bsz, ext.len, fun k hF => ?_, by omega, ho, ht, hout⟩, hobj.1, fun r hr => ?_, fun k => ?_, fun k hF => ?_, fun k hk => ?_, fun k hk => ?_, fun k hF => by have := h.flt k hF; omega, h.good.step (fun _ h => h) fun k hF => hb k fun e => hFb (e ▸ hF)⟩
 ·have : k ≠ b := fun e => hFb (e ▸ hF)
  exact ⟨hb k this, by simp [Gh.set, this]⟩
 ·rw [show (g.set b n').obj = g.obj from rfl, hobj.2] at hr
  have other : r ∈ os ∨ r ∈ aU w H g.obj → OwnOK (g.set b n') w' r := by
   intro hr
   have hne : r.1 ≠ b := fun e => by
    rcases hr with hr | hr
    ·have := yt hr; rw [e] at this; omega
    ·have := yt hr; rw [e] at this; omega
   obtain ⟨h3, h4, arr, t, h5, h6⟩ := h.own r (hr.imp (fun hr => by simp [hr]) id)
   exact ⟨by simp [Gh.set, hne, h3], h4, arr, t, h5.of_heap (hb _ hne), h6⟩
  rcases hr with hr | hr
  ·rcases List.mem_cons.1 hr with rfl | hr
   ·exact ⟨by simp [Gh.set], hn', arr', t, hw', by simp only; omega⟩
   ·exact other (.inl hr)
  ·exact other (.inr hr)
 ·rw [show (g.set b n').obj = g.obj from rfl, hobj.2]
  have := h.dist k
  rw [Fz] at this ⊢
  exact this
 ·rw [show (g.set b n').obj = g.obj from rfl, hobj.2]
  have := h.notF k hF
  rw [Fz] at this ⊢
  exact this
 ·simp [Gh.set, hob k hk]
  exact h.objlen k hk
 ·by_cases e : k = b
  ·subst e
   have := hw.lt
   omega
  ·simp [Gh.set, e] at hk
   have := h.lenlt k hk
   omega
theorem SimX.move {F : Nat → Prop} {nt : Nat} {g g' : Gh} {s : St} {a : Act} {w w' : World} {os os' : List Rec} (h : SimX F nt g s a w os) (e : Ext g w g' w') (hc : Core F g' s.heap (os' ++ af s 0 a.tmps.toList) w') : SimX F nt g' s a w' os' :=
 ⟨h.size, fun t => VR.ext e _ _ (h.slots t), hc⟩
end Go.Sh
namespace Go.Sh
open Go.RowKit
set_option linter.unusedSimpArgs false
set_option linter.unusedVariables false
variable {c : Cx} {o : Oper}
def recs (ao : Option Addr) (k cp : Nat) : List Rec := match ao with
 | some a => [(a.block, k, cp)]
 | none => []
structure Src (P : Program) (w : World) (z : Nat) (x : Value) (m : Nat) (us : List Value) : Prop where
 len : (Builtin.lenOf x).run P w = .ok m w
 cells : (Builtin.firstCells z m x).run P w = .ok us.toArray w
 cells2 : (Builtin.firstCells z m x).run P w.drew = .ok us.toArray w.drew
 size : us.length = m * z
 one : ∀ u ∈ us, u.oneCell' = true
theorem Row.src {P : Program} {g : Gh} {w : World} {own : Bool} {ao : Option Addr} {m cq z : Nat} {us : List Value} (h : Row g w own ao m cq z us) : Src P w z (.slice ao m cq) m us := by
 have hc : ∀ w1 : World, (∀ b j, w1.cell? ⟨b, j, none⟩ = w.cell? ⟨b, j, none⟩) → (Builtin.firstCells z m (.slice ao m cq)).run P w1 = .ok us.toArray w1 := by
  intro w1 hw1
  by_cases h0 : us = []
  ·subst h0
   have hm : m * z = 0 := by have := h.1; simp only [List.length_nil] at this; exact this.symm
   cases ao with
   | none => simp [Builtin.firstCells]
   | some a => simp [Builtin.firstCells, hm, loadCells, loadCellsFrom]
  ·obtain ⟨ad, rfl, hr⟩ := h.2.2.2.1 (List.length_pos_iff.2 h0)
   exact run_firstCells_some w1 z m ad m cq us h.1 (fun j v hj => by
    have hlt : j < us.length := (List.getElem?_eq_some_iff.1 hj).1
    rw [zu _ hr.1, hw1, hr.2.2 j hlt, hj])
 exact ⟨by simp [Builtin.lenOf], hc w (fun _ _ => rfl), hc w.drew (fun _ _ => rfl), h.1, h.2.2.2.2.2.2⟩
theorem NU {P : Program} (w : World) (s : ByteArray) : Src P w 1 (.string s) s.size (Lib.strCells s) :=
 ⟨by simp [Builtin.lenOf], Lib.run_firstCells_string w 1 s, Lib.run_firstCells_string w.drew 1 s, by simp [Lib.strCells_length], Lib.strCells_oneCell s⟩
theorem CellsAt.setRow {w : World} {b : Nat} {arr new : Array Value} {t : TypeId} (h : CellsAt w b arr t) (hs : new.size = arr.size) : CellsAt (w.setRow b new) b new t := by
 obtain ⟨fz, h1, h2⟩ := h
 exact ⟨fz, setRow_heap w b arr new t fz h1, by rw [hs]; exact h2⟩
theorem Bc (P : Program) (g o : Nat) (t : TypeId) : ∀ (vs : List Value) (i : Nat) (cur : Array Value) (w : World), CellsAt w g cur t → o + i + vs.length ≤ cur.size → (∀ v ∈ vs, v.oneCell' = true) →
 (storeCells ⟨g, o, none⟩ vs i).run P w = .ok () (w.setRow g (cur.toList.take (o + i) ++ vs ++ cur.toList.drop (o + i + vs.length)).toArray)
 | [], i, cur, w, hg, _, _ => by
  obtain ⟨fz, hg, _⟩ := hg
  simp only [storeCells, List.append_nil, List.length_nil, Nat.add_zero, List.take_append_drop, Array.toArray_toList]
  rw [setRow_self w g cur t fz hg]
  rfl
 | v :: rest, i, cur, w, hg, hl, h1 => by
  have hi : o + i < cur.size := by simp at hl; omega
  have hadd : (⟨g, o, none⟩ : Addr).add i = ⟨g, o + i, none⟩ := by rw [zu _ rfl]
  have hst : (store ((⟨g, o, none⟩ : Addr).add i) v).run P w = .ok () (w.setRow g (cur.setIfInBounds (o + i) v)) := by
   obtain ⟨fz, hg, hz⟩ := hg
   have hcell : w.cell? ⟨g, o + i, none⟩ = some cur[o + i] := by simp [World.cell?, hg, hi]
   have hfro : w.frozen? ⟨g, o + i, none⟩ = false := by
    obtain ⟨lo, hi'⟩ := fz
    simp only at hz
    simp only [World.frozen?, hg, Bool.and_eq_false_iff, decide_eq_false_iff_not]
    omega
   rw [hadd, run_store P w _ v _ (h1 v (by simp)), hcell]
   simp [hfro, setCell_eq_setRow w g (o + i) cur t fz v hg]
  have ih := Bc P g o t rest (i + 1) (cur.setIfInBounds (o + i) v) (w.setRow g (cur.setIfInBounds (o + i) v)) (hg.setRow (by simp)) (by simp at hl ⊢; omega) (fun x hx => h1 x (by simp [hx]))
  simp only [storeCells, Sem.run_bind, hst, Result.andThen_ok, ih, setRow_setRow]
  congr 3
  have e := list_seg_step cur.toList (o + i) v rest (by simp at hl ⊢; omega)
  simpa [Array.toList_setIfInBounds, Nat.add_assoc] using e
theorem FB {F : Nat → Prop} {g : Gh} {H : List AObj} {os : List Rec} {w : World} {ao : Option Addr} {n cp z m bytes : Nat} {vs us : List Value} {P : Program} {x : Value} {t u ty e : TypeId} {i : TypeInfo} {zr : Value} {du : TypeDesc}
 (ht : P.underlying t = some (.slice e)) (hu : P.underlying u = some du) (hdu : du = .string ∨ ∃ e', du = .slice e') (hi : P.info? e = some i) (hz : i.zero = some zr) (hsz : i.size = z) (hby : i.bytes = bytes) (hzs : zr.cells.size = z) (h0 : 0 < z) (hb0 : 0 < bytes)
 (hcr : Core F g H (recs ao (n * z) (cp * z) ++ os) w) (hrow : Row g w true ao n cp z vs) (hsrc : Src P w z x m us) (hroom : (n + m) * bytes ≤ 140737488355328) :
 ∃ ao' cp' g' w', (Builtin.append_ #[t, u] ty #[.slice ao n cp, x]).run P w = .ok (.slice ao' (n + m) cp') w' ∧ Row g' w' true ao' (n + m) cp' z (vs ++ us) ∧ Ext g w g' w' ∧ Step F g w g' w' ∧ g'.obj = g.obj ∧ Core F g' H (recs ao' ((n + m) * z) (cp' * z) ++ os) w' ∧
  (∀ ad', ao' = some ad' → Fg w' ad'.block = some e ∨ ∃ ad, ao = some ad ∧ Fg w' ad'.block = Fg w ad.block) ∧ (∀ k, k < w.heap.size → (∀ ad, ao = some ad → k ≠ ad.block) → w'.heap[k]? = w.heap[k]?) ∧ (ao = none → n + m = 0 → ao' = none ∧ cp' = 0) ∧ (ao' = ao ∨ ∃ ad', ao' = some ad' ∧ w.heap.size ≤ ad'.block) := by
 subst hsz
 subst hby
 have hnm : n + m ≤ 140737488355328 := Nat.le_trans (Nat.le_mul_of_pos_right _ hb0) hroom
 have hlen : (vs ++ us).length = (n + m) * i.size := by rw [List.length_append, hrow.1, hsrc.size, Nat.add_mul]
 have hone : ∀ v ∈ vs ++ us, v.oneCell' = true := fun v hv => by
  rcases List.mem_append.1 hv with h | h
  ·exact hrow.2.2.2.2.2.2 v h
  ·exact hsrc.one v h
 by_cases hcase : n + m ≤ cp
 ·cases ao with
  | none =>
   obtain ⟨e1, e2⟩ := hrow.2.2.2.2.2.1 rfl
   have em : m = 0 := by omega
   subst e1; subst e2; subst em
   have ev : vs = [] := by have := hrow.1; simpa using this
   have eu : us = [] := by have := hsrc.size; simpa using this
   subst ev; subst eu
   refine ⟨none, 0, g, w, ?_, BH _ _ _ _, Ext.refl _ _, Step.refl _ _ _, rfl, by simpa [recs] using hcr, fun ad h => (by cases h), fun _ _ _ => rfl, fun _ _ => ⟨rfl, rfl⟩, .inl rfl⟩
   have h1 := hsrc.len
   have h2 := hsrc.cells
   rcases hdu with rfl | ⟨e', rfl⟩ <;> simp [Builtin.append_, run_underlying ht, run_underlying hu, sizeOf, typeInfo, hi, h1, h2]
  | some ad =>
   obtain ⟨e1, e2⟩ := hrow.2.2.2.2.1 rfl ad rfl
   obtain ⟨b, off, sp⟩ := ad
   simp only at e1 e2
   subst e1; subst e2
   have hcore := hcr
   simp only [recs, List.cons_append, List.nil_append] at hcore
   obtain ⟨o1, o2, arr, t0, o3, o4⟩ := hcore.own _ (.inl (List.mem_cons_self ..))
   simp only at o1 o2 o3 o4
   have hle : (n + m) * i.size ≤ cp * i.size := Nat.mul_le_mul_right _ hcase
   rw [Nat.add_mul] at hle
   have hfit : n * i.size + 0 + us.length ≤ arr.size := by rw [hsrc.size]; omega
   have hst := Bc P b (n * i.size) t0 us 0 arr w o3 hfit hsrc.one
   simp only [Nat.add_zero] at hst
   have hw' := o3.setRow (new := (arr.toList.take (n * i.size) ++ us ++ arr.toList.drop (n * i.size + us.length)).toArray) (by
    simp only [List.size_toArray, List.length_append, List.length_take, List.length_drop, Array.length_toList]; omega)
   have hlt : n * i.size ≤ arr.toList.length := by simp; omega
   have hwr := hcore.write (n' := (n + m) * i.size) o3 hw' (fun k hk => setRow_other w b k _ hk) (by simp) rfl rfl rfl (by
    simp only [List.size_toArray, List.length_append, List.length_take, List.length_drop, Array.length_toList]; omega) (fun j hj => by
    simp only [List.getElem?_toArray]
    rw [List.append_assoc, List.getElem?_append_left (by simp; omega), List.getElem?_take, if_pos hj]
    simp) (by rw [Nat.add_mul]; omega) (by rw [Nat.add_mul]; exact hle)
   refine ⟨some ⟨b, 0, none⟩, cp, g.set b ((n + m) * i.size), _, ?_, ?_, hwr.1, hwr.2.1, rfl, by simpa [recs] using hwr.2.2, fun ad h => (by injection h with h; subst h; exact .inr ⟨_, rfl, by rw [hw'.ty, o3.ty]⟩), fun k hk hne => setRow_other w b k _ (hne _ rfl), fun h => (by cases h), .inl rfl⟩
   ·have h1 := hsrc.len
    have h2 := hsrc.cells
    have hadd : (⟨b, 0, none⟩ : Addr).add (n * i.size) = ⟨b, n * i.size, none⟩ := by rw [zu _ rfl]; simp
    rcases hdu with rfl | ⟨e', rfl⟩ <;> simp [Builtin.append_, run_underlying ht, run_underlying hu, sizeOf, typeInfo, hi, h1, h2, hcase, hadd, hst]
   ·refine ⟨hlen, hcase, by omega, fun hp => ⟨_, rfl, rfl, ?_, fun j hj => ?_⟩, fun _ ad h => by injection h with h; subst h; exact ⟨rfl, rfl⟩, fun h => by simp at h, hone⟩
    ·simp only [Gh.set, if_true, hlen]; omega
    ·simp only [Nat.zero_add]
     rw [hw'.cell]
     rw [hlen, Nat.add_mul] at hj
     have hvs : vs = arr.toList.take (n * i.size) := by
      apply List.ext_getElem?
      intro q
      by_cases hq : q < n * i.size
      ·rw [List.getElem?_take, if_pos hq]
       have hp0 : 0 < vs.length := by rw [hrow.1]; omega
       obtain ⟨ad', e3, hr⟩ := hrow.2.2.2.1 hp0
       injection e3 with e3
       subst e3
       have := hr.2.2 q (by rw [hrow.1]; exact hq)
       rw [← this]
       rw [o3.cell]; simp
      ·rw [List.getElem?_eq_none (by rw [hrow.1]; omega), List.getElem?_eq_none (by simp; omega)]
     rw [hvs]
     simp only [List.getElem?_toArray]
     rw [List.getElem?_append_left]
     rw [List.length_append, List.length_take, hsrc.size]
     omega
 ·have holds : (Builtin.firstCells i.size n (.slice ao n cp)).run P w.drew = .ok vs.toArray w.drew := (Row.src (P := P) hrow).cells2
  have h1 := hsrc.len
  have h2 := hsrc.cells2
  have h63' : ¬ (9223372036854775807 < ((n : Int) + (m : Int))) := by omega
  have hfit := growslice_fits (need := n + m) (old := cp) (bytes := i.bytes) (by omega) hroom
  have h48' : ¬ (281474976710656 < Builtin.nextslicecap (n + m) cp * i.bytes) := by omega
  have hge := grownCap_ge w (n + m) cp e
  have hnew : (w.drew.alloc (.cells (vs.toArray ++ us.toArray ++ Builtin.zeroCells zr.cells (grownCap w (n + m) cp e - (n + m))) e)).heap[w.heap.size]? = some (.cells (vs.toArray ++ us.toArray ++ Builtin.zeroCells zr.cells (grownCap w (n + m) cp e - (n + m))) e (0, 0)) := heap_alloc_new w.drew _
  have hsize : (vs.toArray ++ us.toArray ++ Builtin.zeroCells zr.cells (grownCap w (n + m) cp e - (n + m))).size = grownCap w (n + m) cp e * i.size := by
   simp only [Array.size_append, List.size_toArray, size_zeroCells, hzs, hrow.1, hsrc.size, ← Nat.add_mul]
   congr 1
   omega
  have hgr := (hcr.weaken (os' := os) (fun r hr => List.mem_append_right _ hr) (fun b => by rw [ax]; omega)).QQ (w' := w.drew.alloc (.cells (vs.toArray ++ us.toArray ++ Builtin.zeroCells zr.cells (grownCap w (n + m) cp e - (n + m))) e))
   (fun k hk => heap_alloc_old w.drew _ (h := hk)) (by simp) rfl rfl rfl ((n + m) * i.size) (grownCap w (n + m) cp e * i.size) (.plain hnew) (Nat.mul_le_mul_right _ hge) (by omega)
  refine ⟨some ⟨w.heap.size, 0, none⟩, grownCap w (n + m) cp e, _, _, ?_, ?_, hgr.1, hgr.2.1, rfl, by simpa [recs] using hgr.2.2, fun ad h => (by injection h with h; subst h; exact .inl (GQ hnew)), fun k hk _ => heap_alloc_old w.drew _ (h := hk), fun _ h => absurd (by omega : n + m ≤ cp) hcase, .inr ⟨_, rfl, Nat.le_refl _⟩⟩
  ·rcases hdu with rfl | ⟨e', rfl⟩ <;> simp [Builtin.append_, run_underlying ht, run_underlying hu, sizeOf, typeInfo, zeroValue, hi, hz, h1, hcase, h63', h48', Question.forced, h2, holds, newRow, grownCap] <;> (congr 2; apply Array.ext'; simp [List.append_assoc])
  ·refine ⟨hlen, hge, by omega, fun hp => ⟨_, rfl, rfl, ?_, fun j hj => ?_⟩, fun _ ad h => by injection h with h; subst h; exact ⟨rfl, rfl⟩, fun h => by simp at h, hone⟩
   ·simp only [Gh.set, if_true, hlen]; omega
   ·simp only [Nat.zero_add]
    rw [cell_of_row _ w.heap.size j _ e (0, 0) hnew, Array.getElem?_append_left (by simpa using hj)]
    simp
theorem BJ {F : Nat → Prop} {nt : Nat} {g : Gh} {s : St} {a : Act} {w : World} {ao : Option Addr} {n cp z m bytes : Nat} {vs us : List Value} {P : Program} {x : Value} {t u ty e : TypeId} {i : TypeInfo} {zr : Value} {du : TypeDesc}
 (ht : P.underlying t = some (.slice e)) (hu : P.underlying u = some du) (hdu : du = .string ∨ ∃ e', du = .slice e') (hi : P.info? e = some i) (hz : i.zero = some zr) (hsz : i.size = z) (hby : i.bytes = bytes) (hzs : zr.cells.size = z) (h0 : 0 < z) (hb0 : 0 < bytes)
 (hs : SimX F nt g s a w (recs ao (n * z) (cp * z))) (hrow : Row g w true ao n cp z vs) (hsrc : Src P w z x m us) (hroom : (n + m) * bytes ≤ 140737488355328) :
 ∃ ao' cp' g' w', (Builtin.append_ #[t, u] ty #[.slice ao n cp, x]).run P w = .ok (.slice ao' (n + m) cp') w' ∧ Row g' w' true ao' (n + m) cp' z (vs ++ us) ∧ Ext g w g' w' ∧ Step F g w g' w' ∧ g'.obj = g.obj ∧ SimX F nt g' s a w' (recs ao' ((n + m) * z) (cp' * z)) := by
 obtain ⟨ao', cp', g', w', h1, h2, h3, h4, h5, h6, _⟩ := FB (ty := ty) ht hu hdu hi hz hsz hby hzs h0 hb0 hs.core hrow hsrc hroom
 exact ⟨ao', cp', g', w', h1, h2, h3, h4, h5, hs.move h3 h6⟩
theorem VRss.append {g : Gh} {w : World} : ∀ {els : List (List AV)} {vs : List Value} {els' : List (List AV)} {us : List Value}, VRss g w els vs → VRss g w els' us → VRss g w (els ++ els') (vs ++ us)
 | [], vs, _, us, h, k => by simp only [VRss] at h; subst h; simpa using k
 | e :: els, vs, _, us, h, k => by
  simp only [VRss] at h
  obtain ⟨p, q, rfl, h1, h2⟩ := h
  simp only [List.cons_append, VRss]
  exact ⟨p, q ++ _, by simp, h1, VRss.append h2 k⟩
theorem qz {kd : IntKind} {l : List Int} {ao : Option Addr} {n cp : Nat} : owns (.ints true kd l) (.slice ao n cp) = recs ao l.length cp := by cases ao <;> rfl
theorem Mq {l : List Str} {ao : Option Addr} {n cp : Nat} : owns (.strs true l) (.slice ao n cp) = recs ao l.length cp := by cases ao <;> rfl
theorem GU {sz : Nat} {l : List (List AV)} {ao : Option Addr} {n cp : Nat} : owns (.sl true sz l) (.slice ao n cp) = recs ao (l.length * sz) (cp * sz) := by cases ao <;> rfl
theorem VH {z bytes : Nat} {x y : AX} {p q : Operand} {t u e : TypeId} {zr : Value} {cl : Call} {e' : TypeId} (h : o.op = .call cl) (hc : cl.callee = .builtin .append) (hargs : cl.args = #[p, q]) (hts : cl.argTypes = #[t, u]) (ht : c.P.underlying t = some (.slice e)) (hu : c.P.underlying u = some (.slice e'))
 (hi : (c.P.info? e).map (fun i => (i.size, i.bytes, i.zero)) = some (z, bytes, some zr)) (hzs : zr.cells.size = z) (h0 : 0 < z) (hb0 : 0 < bytes) (hx : bA x p = true) (hy : bA y q = true) (hfr : y.free = true) : bK c (.append z bytes x y) o := by
 obtain ⟨i, hi1, hi2⟩ := Option.map_eq_some_iff.1 hi
 injection hi2 with hi2 hi3
 injection hi3 with hi3 hi4
 intro s R k r hr
 have key : ∀ (F : Nat → Prop) (g : Gh) (a : Act) (w : World) (B : List Nat) (v : AV) (ao bo : Option Addr) (n m cp cq : Nat) (vs us : List Value) (own2 : Bool), B.length = B.length → B <+: g.obj → SimX F c.nt g (x.st s) a w (recs ao (n * z) (cp * z)) →
  a.eval p = .slice ao n cp → a.eval q = .slice bo m cq → Row g w true ao n cp z vs → Row g w own2 bo m cq z us → (n + m) * bytes ≤ 140737488355328 →
  (∀ (g' : Gh) (w' : World) (ao' : Option Addr) (cp' : Nat), Ext g w g' w' → Row g' w' true ao' (n + m) cp' z (vs ++ us) → VR g' w' v (.slice ao' (n + m) cp') ∧ owns v (.slice ao' (n + m) cp') = recs ao' ((n + m) * z) (cp' * z)) →
  ∃ v' g' w', (execOp a.eval o).run c.P w = .ok (.value v') w' ∧ VR g' w' v v' ∧ B <+: g'.obj ∧ SimX F c.nt g' (x.st s) a w' (owns v v') ∧ Step F g w g' w' := by
  intro F g a w B v ao bo n m cp cq vs us own2 hB hpre hs hp hq hr1 hr2 hroom hv
  obtain ⟨ao', cp', g', w', h1, h2, h3, h4, h5, h6⟩ := BJ (ty := o.type) ht hu (.inr ⟨e', rfl⟩) hi1 hi4 hi2 hi3 hzs h0 hb0 hs hr1 (hr2.src) hroom
  obtain ⟨h7, h8⟩ := hv g' w' ao' cp' h3 h2
  refine ⟨_, g', w', ?_, h7, by rw [h5]; exact hpre, by rw [h8]; exact h6, h4⟩
  refine dC h hc ?_
  rw [hargs, hts]
  simp only [builtin, List.map_toArray, List.map_cons, List.map_nil, hp, hq, Sem.run_bind, h1, Result.andThen]
  rfl
 simp only [AOp.run] at hr
 split at hr
 ·rename_i kd l own2 km l2 hv hw
  obtain ⟨h1, hr2⟩ | ⟨_, hr2⟩ := ae hr
  case inr => exact absurd hr2 (by simp)
  obtain ⟨h2, hr3⟩ | ⟨_, hr3⟩ := ae hr2
  case inr => exact absurd hr3 (by simp)
  simp only [Bool.and_eq_true, beq_iff_eq, decide_eq_true_eq] at h1 h2
  obtain ⟨rfl, rfl⟩ := h1
  refine ⟨_, _, hr3, OpSem.run fun F g a w B hB hpre hs => ?_⟩
  obtain ⟨h3, h4⟩ := AX.ok hs hx
  have h5 := aj h4 hy
  rw [hv] at h3 h4
  rw [hw] at h5
  simp only [VR] at h3 h5
  obtain ⟨ao, n, cp, e1, hr1⟩ := h3
  obtain ⟨bo, m, cq, e2, hr2⟩ := h5
  have hn : n = l.length := by have := hr1.1; simp at this; exact this.symm
  have hm : m = l2.length := by have := hr2.1; simp at this; exact this.symm
  subst hn; subst hm
  rw [e1, qz, List.append_nil] at h4
  refine key F g a w B _ ao bo _ _ cp cq _ _ own2 hB hpre (by simpa using h4) e1 e2 hr1 hr2 h2 (fun g' w' ao' cp' he hrow => ⟨?_, ?_⟩)
  ·simp only [VR]
   exact ⟨_, _, _, rfl, by rw [List.map_append]; exact hrow⟩
  ·rw [qz]; simp
 ·rename_i l own2 l2 hv hw
  obtain ⟨h1, hr2⟩ | ⟨_, hr2⟩ := ae hr
  case inr => exact absurd hr2 (by simp)
  obtain ⟨h2, hr3⟩ | ⟨_, hr3⟩ := ae hr2
  case inr => exact absurd hr3 (by simp)
  simp only [beq_iff_eq, decide_eq_true_eq] at h1 h2
  subst h1
  refine ⟨_, _, hr3, OpSem.run fun F g a w B hB hpre hs => ?_⟩
  obtain ⟨h3, h4⟩ := AX.ok hs hx
  have h5 := aj h4 hy
  rw [hv] at h3 h4
  rw [hw] at h5
  simp only [VR] at h3 h5
  obtain ⟨ao, n, cp, e1, hr1⟩ := h3
  obtain ⟨bo, m, cq, e2, hr2⟩ := h5
  have hn : n = l.length := by have := hr1.1; simp at this; exact this.symm
  have hm : m = l2.length := by have := hr2.1; simp at this; exact this.symm
  subst hn; subst hm
  rw [e1, Mq, List.append_nil] at h4
  refine key F g a w B _ ao bo _ _ cp cq _ _ own2 hB hpre (by simpa using h4) e1 e2 hr1 hr2 h2 (fun g' w' ao' cp' he hrow => ⟨?_, ?_⟩)
  ·simp only [VR]
   exact ⟨_, _, _, rfl, by rw [List.map_append]; exact hrow⟩
  ·rw [Mq]; simp
 ·rename_i sz l own2 sm l2 hv hw
  obtain ⟨h1, hr2⟩ | ⟨_, hr2⟩ := ae hr
  case inr => exact absurd hr2 (by simp)
  obtain ⟨h2, hr3⟩ | ⟨_, hr3⟩ := ae hr2
  case inr => exact absurd hr3 (by simp)
  simp only [Bool.and_eq_true, beq_iff_eq, decide_eq_true_eq] at h1 h2
  obtain ⟨h1a, h1b⟩ := h1
  rw [← h1a] at hv hr3
  rw [← h1b] at hw
  refine ⟨_, _, hr3, OpSem.run fun F g a w B hB hpre hs => ?_⟩
  obtain ⟨h3, h4⟩ := AX.ok hs hx
  have h5 := aj h4 hy
  rw [hv] at h3 h4
  rw [hw] at h5
  simp only [VR] at h3 h5
  obtain ⟨ao, n, cp, vs, e1, hr1, hn, hsz1, hvs⟩ := h3
  obtain ⟨bo, m, cq, us, e2, hr2, hm, hsz2, hus⟩ := h5
  subst hn; subst hm
  rw [e1, GU, List.append_nil] at h4
  refine key F g a w B _ ao bo _ _ cp cq _ _ own2 hB hpre h4 e1 e2 hr1 hr2 h2 (fun g' w' ao' cp' he hrow => ⟨?_, ?_⟩)
  ·simp only [VR]
   refine ⟨_, _, _, _, rfl, hrow, by simp, ?_, (VRss.ext he _ _ hvs).append (VRss.ext he _ _ hus)⟩
   intro e he
   rcases List.mem_append.1 he with h | h
   ·exact hsz1 e h
   ·exact hsz2 e h
  ·rw [GU]; simp
 ·exact absurd hr (by simp)
theorem strCells_eq (s : ByteArray) : Lib.strCells s = (nD s.data.toList).map (Value.int .u8) := by
 simp [Lib.strCells, nD]
theorem TK {bytes : Nat} {x y : AX} {p q : Operand} {t u e : TypeId} {zr : Value} {cl : Call} (h : o.op = .call cl) (hc : cl.callee = .builtin .append) (hargs : cl.args = #[p, q]) (hts : cl.argTypes = #[t, u]) (ht : c.P.underlying t = some (.slice e)) (hu : c.P.underlying u = some .string)
 (hi : (c.P.info? e).map (fun i => (i.size, i.bytes, i.zero)) = some (1, bytes, some zr)) (hzs : zr.cells.size = 1) (hb0 : 0 < bytes) (hx : bA x p = true) (hy : bA y q = true) : bK c (.appendS bytes x y) o := by
 obtain ⟨i, hi1, hi2⟩ := Option.map_eq_some_iff.1 hi
 injection hi2 with hi2 hi3
 injection hi3 with hi3 hi4
 intro s R k r hr
 simp only [AOp.run] at hr
 split at hr
 ·rename_i l l2 hv hw
  obtain ⟨h2, hr3⟩ | ⟨_, hr3⟩ := ae hr
  case inr => exact absurd hr3 (by simp)
  simp only [decide_eq_true_eq] at h2
  refine ⟨_, _, hr3, OpSem.run fun F g a w B hB hpre hs => ?_⟩
  obtain ⟨h3, h4⟩ := AX.ok hs hx
  have h5 := aj h4 hy
  rw [hv] at h3 h4
  rw [hw] at h5
  have h6 := h5.QP
  simp only [VR] at h3 h5
  obtain ⟨ao, n, cp, e1, hr1⟩ := h3
  obtain ⟨s1, e2, e3⟩ := h5
  obtain ⟨s2, e4, e5⟩ := h6
  have : s2 = s1 := by rw [e2] at e4; injection e4 with e; exact e.symm
  subst this
  have hn : n = l.length := by have := hr1.1; simp at this; exact this.symm
  subst hn
  rw [e1, qz, List.append_nil] at h4
  obtain ⟨ao', cp', g', w', h1, h7, h8, h9, h10, h11⟩ := BJ (ty := o.type) ht hu (.inl rfl) hi1 hi4 hi2 hi3 hzs (by omega) hb0 (by simpa using h4) hr1 (NU w s2) (by rw [e5]; exact h2)
  refine ⟨.slice ao' (l.length + s2.size) cp', g', w', ?_, ?_, by rw [h10]; exact hpre, ?_, h9⟩
  ·refine dC h hc ?_
   rw [hargs, hts]
   simp only [builtin, List.map_toArray, List.map_cons, List.map_nil, e1, e2, Sem.run_bind, h1, Result.andThen]
   rfl
  ·simp only [VR]
   refine ⟨_, _, _, rfl, ?_⟩
   rw [List.map_append, ← e3, ← strCells_eq]
   exact h7
  ·rw [qz]
   simpa [nD, e5] using h11
 ·exact absurd hr (by simp)
theorem PH (m : Nat) : (⟨Array.replicate m 0⟩ : ByteArray).size = m := by
 show (Array.replicate m (0 : UInt8)).size = m
 simp
theorem NV (m : Nat) : ((⟨Array.replicate m 0⟩ : ByteArray).extract 0 m).data.map (fun b => Value.int .u8 b.toNat) = Builtin.zeroCells #[.int .u8 0] m := by
 have e : ((⟨Array.replicate m 0⟩ : ByteArray).extract 0 m).data = Array.replicate m 0 := by
  rw [ByteArray.data_extract]
  apply Array.ext
  ·simp
  ·intro i h1 h2; simp
 rw [e]
 apply Array.ext
 ·simp [Builtin.zeroCells]
 ·intro i h1 h2
  simp [Builtin.zeroCells, Nat.mod_one]
theorem NW {P : Program} {w : World} {t u v ty e : TypeId} {i : TypeInfo} {n cp m : Nat} {ao : Option Addr} {k k' : IntKind} (ht : P.underlying t = some (.slice e)) (hu : P.underlying u = some (.int k)) (hv : P.underlying v = some .string) (hi : P.info? e = some i) (hz : i.zero = some (.int .u8 0)) (hsz : i.size = 1) (hb0 : 0 < i.bytes) (hroom : (n + m) * i.bytes ≤ 140737488355328) :
 (Builtin.append_ #[t, u] ty #[.slice ao n cp, .int k' (m : Int)]).run P w = (Builtin.append_ #[t, v] ty #[.slice ao n cp, .string ⟨Array.replicate m 0⟩]).run P w := by
 have hnm : n + m ≤ 140737488355328 := Nat.le_trans (Nat.le_mul_of_pos_right _ hb0) hroom
 have hw : IntKind.i64.wrap (m : Int) = m := by rw [IntWalk.i64_in _ (by omega)]
 have h0 : ¬ (m : Int) < 0 := by omega
 have h2 : m * i.bytes ≤ 140737488355328 := Nat.le_trans (Nat.mul_le_mul_right _ (by omega)) hroom
 have h1 : ¬ (281474976710656 < (m : Int) * (i.bytes : Int)) := by
  have h9 := Int.ofNat_le.2 h2
  rw [Int.natCast_mul] at h9
  omega
 have h3 : ¬ (9223372036854775807 < ((n : Int) + (m : Int))) := by omega
 have hz0 : Builtin.zeroCells #[.int .u8 0] 0 = #[] := by simp [Builtin.zeroCells]
 have hF : ∀ w, (Builtin.firstCells 1 m (.string ⟨Array.replicate m 0⟩)).run P w = .ok (Builtin.zeroCells #[.int .u8 0] m) w := fun w => by
  simp only [Builtin.firstCells, NV]; rfl
 have hL : ∀ w, (Builtin.lenOf (.string ⟨Array.replicate m 0⟩)).run P w = .ok m w := fun w => by
  simp only [Builtin.lenOf, PH]; rfl
 have hw0 : IntKind.i64.wrap 0 = 0 := by decide
 have hL0 : ∀ w, (Builtin.lenOf (.string ⟨#[]⟩)).run P w = .ok 0 w := fun w => rfl
 have hF0 : ∀ w, (Builtin.firstCells 1 0 (.string ⟨#[]⟩)).run P w = .ok #[] w := fun w => by have := NV 0; simp only [Array.replicate_zero, hz0] at this; simp only [Builtin.firstCells, this]; rfl
 by_cases hc : n + m ≤ cp <;> by_cases hm : m = 0
 ·subst hm
  have hc' := hc
  rw [Nat.add_zero] at hc'
  simp [Builtin.append_, run_underlying ht, run_underlying hu, run_underlying hv, sizeOf, typeInfo, zeroValue, asInt, asIntOf, hi, hz, hsz, hw0, hL0, hF0, hc', hz0]
 ·simp [Builtin.append_, run_underlying ht, run_underlying hu, run_underlying hv, sizeOf, typeInfo, zeroValue, asInt, asIntOf, hi, hz, hsz, hw, h0, h1, hc, hm, hL, hF, Value.cells]
 ·subst hm
  have hc' := hc
  rw [Nat.add_zero] at hc'
  have hfit := growslice_fits (need := n) (old := cp) (bytes := i.bytes) (by omega) (by simpa using hroom)
  have h48 : ¬ (281474976710656 < Builtin.nextslicecap n cp * i.bytes) := by omega
  have h63 : ¬ (9223372036854775807 < (n : Int)) := by omega
  simp [Builtin.append_, run_underlying ht, run_underlying hu, run_underlying hv, sizeOf, typeInfo, zeroValue, asInt, asIntOf, hi, hz, hsz, hw0, hL0, hF0, hc', hz0, h48, h63]
 ·have hfit := growslice_fits (need := n + m) (old := cp) (bytes := i.bytes) (by omega) hroom
  have h48 : ¬ (281474976710656 < Builtin.nextslicecap (n + m) cp * i.bytes) := by omega
  simp [Builtin.append_, run_underlying ht, run_underlying hu, run_underlying hv, sizeOf, typeInfo, zeroValue, asInt, asIntOf, hi, hz, hsz, hw, h0, h1, h3, h48, hc, hm, hL, hF, Value.cells]
theorem TL {bytes : Nat} {x y : AX} {p q : Operand} {t u v e : TypeId} {k' : IntKind} {cl : Call} (h : o.op = .call cl) (hc : cl.callee = .builtin .append) (hargs : cl.args = #[p, q]) (hts : cl.argTypes = #[t, u]) (ht : c.P.underlying t = some (.slice e)) (hu : c.P.underlying u = some (.int k')) (hv : c.P.underlying v = some .string)
 (hi : (c.P.info? e).map (fun i => (i.size, i.bytes, i.zero)) = some (1, bytes, some (.int .u8 0))) (hb0 : 0 < bytes) (hx : bA x p = true) (hy : bA y q = true) : bK c (.appendZ bytes x y) o := by
 obtain ⟨i, hi1, hi2⟩ := Option.map_eq_some_iff.1 hi
 injection hi2 with hi2 hi3
 injection hi3 with hi3 hi4
 intro s R k r hr
 simp only [AOp.run] at hr
 split at hr
 ·rename_i l kk m hv1 hw
  obtain ⟨h2, hr2⟩ | ⟨_, hr2⟩ := ae hr
  case inr => exact absurd hr2 (by simp)
  obtain ⟨h3, hr3⟩ | ⟨_, hr3⟩ := ae hr2
  case inr => exact absurd hr3 (by simp)
  simp only [decide_eq_true_eq] at h2 h3
  obtain ⟨m, rfl⟩ := Int.eq_ofNat_of_zero_le h2
  simp only [Int.toNat_natCast] at h3 hr3
  refine ⟨_, _, hr3, OpSem.run fun F g a w B hB hpre hs => ?_⟩
  obtain ⟨h5, h4⟩ := AX.ok hs hx
  have h6 := aj h4 hy
  rw [hv1] at h5 h4
  rw [hw] at h6
  simp only [VR] at h5 h6
  obtain ⟨ao, n, cp, e1, hr1⟩ := h5
  have hn : n = l.length := by have := hr1.1; simp at this; exact this.symm
  subst hn
  rw [e1, qz, List.append_nil] at h4
  have hsz := PH m
  obtain ⟨ao', cp', g', w', h1, h7, h8, h9, h10, h11⟩ := BJ (ty := o.type) ht hv (.inl rfl) hi1 hi4 hi2 hi3 rfl (by omega) hb0 (by simpa using h4) hr1 (NU w ⟨Array.replicate m 0⟩) (by rw [hsz]; exact h3)
  rw [hsz] at h1 h7 h11
  refine ⟨.slice ao' (l.length + m) cp', g', w', ?_, ?_, by rw [h10]; exact hpre, ?_, h9⟩
  ·refine dC h hc ?_
   rw [hargs, hts]
   simp only [builtin, List.map_toArray, List.map_cons, List.map_nil, e1, h6, Sem.run_bind]
   rw [NW ht hu hv hi1 hi4 hi2 (by rw [hi3]; exact hb0) (by rw [hi3]; exact h3), h1]
   rfl
  ·simp only [VR]
   refine ⟨_, _, _, rfl, ?_⟩
   rw [List.map_append]
   rw [strCells_eq] at h7
   have : nD (List.replicate m (0 : UInt8)) = List.replicate m (0 : Int) := by simp [nD]
   simpa [this] using h7
  ·rw [qz]
   simpa using h11
 ·exact absurd hr (by simp)
end Go.Sh
namespace Go.Sh
open Go.RowKit
set_option linter.unusedSimpArgs false
set_option linter.unusedVariables false
theorem DW (n b : Nat) (o : AObj) : (bif o.dead then [] else [n]).count b ≤ 1 ∧ (b ≠ n → (bif o.dead then [] else [n]).count b = 0) := by
 cases o.dead with
 | true => exact ⟨by simp, fun _ => by simp⟩
 | false =>
  refine ⟨?_, fun h => List.count_eq_zero.2 (by simpa using h)⟩
  rw [cond_false]
  have := List.count_le_length (a := b) (l := [n])
  simpa using this
theorem IA (o : AObj) (H : List AObj) (b : Nat) (bs : List Nat) (x : Nat) : (lives H bs).count x ≤ (lives (o :: H) (b :: bs)).count x := by
 rw [lives]
 cases o.dead with
 | true => exact Nat.le_refl _
 | false => rw [cond_false]; exact List.count_le_count_cons
theorem K7 {o : AObj} {H : List AObj} {b : Nat} {bs : List Nat} {x : Nat} (h : (lives (o :: H) (b :: bs)).count x ≤ 1) (hm : x ∈ lives H bs) (hd : o.dead = false) : b ≠ x := fun e => by
 subst e
 rw [lives, hd, cond_false, List.count_cons_self] at h
 have := List.count_pos_iff.2 hm
 omega
theorem DX {o o' : AObj} (hd : o.dead = false) : ∀ {H : List AObj} {bs : List Nat} {id : Nat}, H[id]? = some o → ∀ x, (lives (H.set id o') bs).count x ≤ (lives H bs).count x
 | [], _, _, h, _ => by simp at h
 | y :: H, [], _, _, x => by cases ‹Nat› <;> simp [lives]
 | y :: H, b :: bs, 0, h, x => by
  simp at h
  subst h
  rw [List.set_cons_zero, lives, lives, hd]
  cases o'.dead with
  | true => exact List.count_le_count_cons
  | false => exact Nat.le_refl _
 | y :: H, b :: bs, id + 1, h, x => by
  simp at h
  have := DX (o' := o') hd (bs := bs) h x
  rw [List.set_cons_succ, lives, lives]
  cases y.dead with
  | true => exact this
  | false => rw [cond_false, cond_false, List.count_cons, List.count_cons]; omega
theorem JX {o o' : AObj} (hd : o.dead = false) {H : List AObj} {bs : List Nat} {id : Nat} (h : H[id]? = some o) {x : Nat} (hx : x ∈ lives (H.set id o') bs) : x ∈ lives H bs := by
 have h1 := List.count_pos_iff.2 hx
 have h2 := DX (o' := o') hd (bs := bs) h x
 exact List.count_pos_iff.1 (by omega)
theorem ObjsR.append {g : Gh} {w : World} : ∀ {H : List AObj} {bs : List Nat} {o : AObj} {b : Nat}, ObjsR g w H bs → ObjR g w b o → ObjsR g w (H ++ [o]) (bs ++ [b])
 | [], bs, o, b, h, k => by simp only [ObjsR] at h; subst h; simp only [List.nil_append, ObjsR]; exact ⟨b, [], rfl, k, rfl⟩
 | x :: H, bs, o, b, h, k => by
  simp only [ObjsR] at h
  obtain ⟨b', cs, rfl, h1, h2⟩ := h
  simp only [List.cons_append, ObjsR]
  exact ⟨b', _, rfl, h1, ObjsR.append h2 k⟩
theorem wL {g : Gh} {w : World} : ∀ {H : List AObj} {bs : List Nat} {o : AObj} {b : Nat}, H.length = bs.length → aU w (H ++ [o]) (bs ++ [b]) = aU w H bs ++ jo w b o
 | [], bs, o, b, h => by cases bs <;> simp at h; simp [aU]
 | x :: H, bs, o, b, h => by
  cases bs with
  | nil => simp at h
  | cons b' bs => simp [aU, wL (g := g) (w := w) (H := H) (bs := bs) (o := o) (b := b) (by simpa using h)]
theorem Core.newObj {F : Nat → Prop} {g : Gh} {H : List AObj} {os : List Rec} {w w' : World} {cs : List AV} {arr : Array Value} {t : TypeId} (h : Core F g H (aC cs arr.toList ++ os) w) (hb : ∀ k, k < w.heap.size → w'.heap[k]? = w.heap[k]?) (hs : w.heap.size < w'.heap.size) (ho : w'.os = w.os) (ht : w'.tape = w.tape) (hout : w'.output = w.output)
 (hnew : w'.heap[w.heap.size]? = some (.cells arr t (0, 0))) (hv : VRs g w cs arr.toList) :
 ∃ g', g'.obj = g.obj ++ [w.heap.size] ∧ Ext g w g' w' ∧ Step F g w g' w' ∧ Core F g' (H ++ [.cells t cs]) os w' := by
 have hlt : ∀ b, b ∈ lives H g.obj → b < w.heap.size := fun b hb => h.heap.lt b hb
 have hz : oc w.heap.size (aC cs arr.toList ++ os) + oc w.heap.size (aU w H g.obj) + (lives H g.obj).count w.heap.size = 0 := by
  have e1 : oc w.heap.size (aC cs arr.toList ++ os) = 0 := by
   rcases Nat.eq_zero_or_pos (oc w.heap.size (aC cs arr.toList ++ os)) with e | e
   ·exact e
   ·obtain ⟨r, hr, hr2⟩ := List.countP_pos_iff.1 e
    have := (h.own r (.inl hr)).lt
    simp at hr2
    omega
  have e2 : oc w.heap.size (aU w H g.obj) = 0 := by
   rcases Nat.eq_zero_or_pos (oc w.heap.size (aU w H g.obj)) with e | e
   ·exact e
   ·obtain ⟨r, hr, hr2⟩ := List.countP_pos_iff.1 e
    have := (h.own r (.inr hr)).lt
    simp at hr2
    omega
  have e3 : (lives H g.obj).count w.heap.size = 0 := List.count_eq_zero.2 (fun hm => by have := hlt _ hm; omega)
  omega
 obtain ⟨e1, e2, e3⟩ := h.grow hb hs ho ht hout 0
 have ext : Ext g w ⟨g.obj ++ [w.heap.size], (g.set w.heap.size 0).len⟩ w' := ⟨e1.cell, e1.ty, e1.bsz, e1.len, fun i b hi => by
  have hl := (List.getElem?_eq_some_iff.1 hi).1
  simp only
  rw [List.getElem?_append_left hl]; exact hi⟩
 have ext2 : Ext (g.set w.heap.size 0) w' ⟨g.obj ++ [w.heap.size], (g.set w.heap.size 0).len⟩ w' := ⟨fun _ _ _ => rfl, fun _ _ => rfl, fun _ => Nat.le_refl _, fun _ => Nat.le_refl _, ext.obj⟩
 have hobj := ObjsR.move ext2 H g.obj e3.heap (fun _ _ => rfl)
 have hO : jo w' w.heap.size (.cells t cs) = aC cs arr.toList := by simp only [jo, hnew]
 have hH : aU w' (H ++ [.cells t cs]) (g.obj ++ [w.heap.size]) = aU w' H g.obj ++ aC cs arr.toList := by
  rw [wL (g := g) h.heap.length, hO]
 have hHw : aU w' H (g.set w.heap.size 0).obj = aU w H g.obj := (ObjsR.move e1 H g.obj h.heap (fun b hb' => hb b (hlt b hb'))).2
 refine ⟨_, rfl, ext, ⟨e2.cell, e2.ty, e2.bsz, e2.len, e2.frame, e2.size, e2.os, e2.tape, e2.output⟩, hobj.1.append ?_, fun r hr => ?_, fun b => ?_, fun b hF => ?_, fun b hb' => ?_, e3.lenlt, e3.flt, e3.good⟩
 ·simp only [ObjR]
  exact ⟨arr, hnew, VRs.ext ext _ _ hv⟩
 ·rw [hH] at hr
  have : OwnOK (g.set w.heap.size 0) w' r := by
   rcases hr with hr | hr
   ·exact e3.own r (.inl (List.mem_append_right _ hr))
   ·rcases List.mem_append.1 hr with hr | hr
    ·exact e3.own r (.inr hr)
    ·exact e3.own r (.inl (List.mem_append_left _ hr))
  exact this
 ·simp only
  rw [hH, jb h.heap.length]
  have h1 := e3.dist b
  rw [show (g.set w.heap.size 0).obj = g.obj from rfl] at h1 hHw
  simp only [ax, List.count_append] at h1 hz ⊢
  have h9 := DW w.heap.size b (AObj.cells t cs)
  by_cases e : b = w.heap.size
  ·subst e
   rw [hHw]
   omega
  ·have := h9.2 e
   omega
 ·simp only
  rw [hH, jb h.heap.length]
  have h1 := e3.notF b hF
  have h2 := h.flt b hF
  rw [show (g.set w.heap.size 0).obj = g.obj from rfl] at h1
  simp only [ax, List.count_append] at h1 ⊢
  have := (DW w.heap.size b (AObj.cells t cs)).2 (by omega)
  omega
 ·simp only at hb' ⊢
  rw [jb h.heap.length] at hb'
  rcases List.mem_append.1 hb' with hb' | hb'
  ·exact e3.objlen b hb'
  ·have : b = w.heap.size := by
    revert hb'
    cases (AObj.cells t cs).dead <;> simp
   subst this
   simp [Gh.set]
theorem ObjsR.setObj {g g' : Gh} {w w' : World} (e : Ext g w g' w') {o' : AObj} : ∀ {H : List AObj} {bs : List Nat} {id : Nat} {b : Nat} {o : AObj}, ObjsR g w H bs → H[id]? = some o → bs[id]? = some b → o.dead = false → (lives H bs).count b ≤ 1 → (∀ k, k ∈ lives H bs → k ≠ b → w'.heap[k]? = w.heap[k]?) → ObjR g' w' b o' → ObjsR g' w' (H.set id o') bs
 | [], _, _, _, _, _, h, _, _, _, _, _ => by simp at h
 | x :: H, bs, id, b, o, h, hid, hbi, hd, hc, hk, ho => by
  simp only [ObjsR] at h
  obtain ⟨b', cs, rfl, h1, h2⟩ := h
  cases id with
  | zero =>
   simp at hbi hid
   subst hbi hid
   have hn : b' ∉ lives H cs := fun hm => K7 hc hm hd rfl
   simp only [List.set_cons_zero, ObjsR]
   exact ⟨b', cs, rfl, ho, (ObjsR.move e H cs h2 (fun k hm => hk k (yw hm) (fun e => hn (e ▸ hm)))).1⟩
  | succ id =>
   simp at hbi hid
   have hmem : b ∈ lives H cs := mf hid hbi hd
   have hc' : (lives H cs).count b ≤ 1 := Nat.le_trans (IA ..) hc
   simp only [List.set_cons_succ, ObjsR]
   refine ⟨b', cs, rfl, ?_, ObjsR.setObj e h2 hid hbi hd hc' (fun k hm hne => hk k (yw hm) hne) ho⟩
   cases hx : x.dead with
   | true => exact DV hx
   | false =>
    have hne := K7 hc hmem hx
    have := (ObjsR.move (g := g) (g' := g') (w := w) (w' := w') e [x] [b'] (by simp only [ObjsR]; exact ⟨b', [], rfl, h1, rfl⟩) (fun k hm => by
     rcases Iz hm with ⟨_, rfl⟩ | hm
     ·exact hk _ (Ec hx) hne
     ·simp [lives] at hm)).1
    simp only [ObjsR] at this
    obtain ⟨b2, _, e2, h3, _⟩ := this
    injection e2 with e2 _
    subst e2
    exact h3
theorem FC {w w' : World} {b : Nat} {x : AObj} (h : w'.heap[b]? = w.heap[b]?) : jo w' b x = jo w b x := by
 cases x with
 | buf kd t l => match kd with
  | 0 | 1 | n + 2 => simp only [jo, h]
 | _ => simp only [jo, h]
theorem MZ {w w' : World} : ∀ {H : List AObj} {bs : List Nat}, (∀ k, k ∈ lives H bs → w'.heap[k]? = w.heap[k]?) → aU w' H bs = aU w H bs
 | [], bs, _ => by cases bs <;> rfl
 | x :: H, [], _ => rfl
 | x :: H, b :: bs, h => by
  simp only [aU]
  rw [MZ (H := H) (fun k hk => h k (yw hk))]
  congr 1
  cases hx : x.dead with
  | true => rw [oN hx, oN hx]
  | false => exact FC (h b (Ec hx))
theorem Mr {w w' : World} {o' : AObj} : ∀ {H : List AObj} {bs : List Nat} {id : Nat} {b : Nat} {o : AObj}, H[id]? = some o → bs[id]? = some b → o.dead = false → (lives H bs).count b ≤ 1 → (∀ k, k ∈ lives H bs → k ≠ b → w'.heap[k]? = w.heap[k]?) →
 (∀ x, oc x (aU w' (H.set id o') bs) + oc x (jo w b o) = oc x (aU w H bs) + oc x (jo w' b o')) ∧ (∀ r, r ∈ aU w' (H.set id o') bs → r ∈ aU w H bs ∨ r ∈ jo w' b o') ∧ (∀ r, r ∈ jo w b o → r ∈ aU w H bs)
 | [], _, _, _, _, h, _, _, _, _ => by simp at h
 | x :: H, [], _, _, _, _, h, _, _, _ => by simp at h
 | x :: H, b' :: cs, id, b, o, hid, hbi, hd, hc, hk => by
  cases id with
  | zero =>
   simp at hbi hid
   subst hbi
   subst hid
   have hn : b' ∉ lives H cs := fun hm => K7 hc hm hd rfl
   have := MZ (w := w) (w' := w') (H := H) (bs := cs) (fun k hm => hk k (yw hm) (fun e => hn (e ▸ hm)))
   simp only [List.set_cons_zero, aU, this]
   exact ⟨fun x => by simp only [ax]; omega, fun r hr => by simp only [List.mem_append] at hr ⊢; rcases hr with h | h <;> simp [h], fun r hr => by simp [hr]⟩
  | succ id =>
   simp at hbi hid
   have hmem : b ∈ lives H cs := mf hid hbi hd
   have hc' : (lives H cs).count b ≤ 1 := Nat.le_trans (IA ..) hc
   obtain ⟨h1, h2, h3⟩ := Mr (w := w) (w' := w') (o' := o') hid hbi hd hc' (fun k hm hne => hk k (yw hm) hne)
   have h4 : jo w' b' x = jo w b' x := by
    cases hx : x.dead with
    | true => rw [oN hx, oN hx]
    | false => exact FC (hk b' (Ec hx) (K7 hc hmem hx))
   simp only [List.set_cons_succ, aU, h4]
   exact ⟨fun y => by have := h1 y; simp only [ax]; omega, fun r hr => by
    simp only [List.mem_append] at hr ⊢
    rcases hr with hr | hr
    ·simp [hr]
    ·rcases h2 r hr with h | h <;> simp [h], fun r hr => by simp [h3 r hr]⟩
theorem Core.setObj {F : Nat → Prop} {g : Gh} {H : List AObj} {os os' : List Rec} {w w' : World} {id b : Nat} {t : TypeId} {cs cs' : List AV} {arr arr' : Array Value} (h : Core F g H os w) (hid : H[id]? = some (.cells t cs)) (hbi : g.obj[id]? = some b)
 (hw : w.heap[b]? = some (.cells arr t (0, 0))) (hw' : w'.heap[b]? = some (.cells arr' t (0, 0))) (hsz : arr'.size = arr.size) (hb : ∀ k, k ≠ b → w'.heap[k]? = w.heap[k]?) (hs : w'.heap.size = w.heap.size) (ho : w'.os = w.os) (ht : w'.tape = w.tape) (hout : w'.output = w.output)
 (hv : VRs g w cs' arr'.toList) (hcount : ∀ x, oc x os' + oc x (aC cs' arr'.toList) ≤ oc x os + oc x (aC cs arr.toList)) (hmem : ∀ r, r ∈ os' ∨ r ∈ aC cs' arr'.toList → r ∈ os ∨ r ∈ aC cs arr.toList) :
 Ext g w g w' ∧ Step F g w g w' ∧ Core F g (H.set id (.cells t cs')) os' w' := by
 have hmb : b ∈ lives H g.obj := mf hid hbi rfl
 have hl0 := h.objlen b hmb
 have hd := h.dist b
 have hcb := List.count_pos_iff.2 hmb
 have ext : Ext g w g w' := ⟨fun k j hj => cell_of (hb k (fun e => by rw [e, hl0] at hj; omega)) j, fun k hk => qY (hb k (fun e => by rw [e, hl0] at hk; omega)), GN hb (by rw [Gf hw, Gf hw', hsz]; exact Nat.le_refl _), fun _ => Nat.le_refl _, fun _ _ h => h⟩
 have hFb : ¬ F b := fun hF => by have := h.notF b hF; omega
 have hO : jo w b (.cells t cs) = aC cs arr.toList := by simp only [jo, hw]
 have hO' : jo w' b (.cells t cs') = aC cs' arr'.toList := by simp only [jo, hw']
 obtain ⟨h1, h2, h3⟩ := Mr (w := w) (w' := w') (o' := .cells t cs') hid hbi rfl (by omega) (fun k _ hne => hb k hne)
 rw [hO'] at h1 h2
 rw [hO] at h1 h3
 refine ⟨ext, ⟨ext.cell, ext.ty, ext.bsz, ext.len, fun k hF => ⟨hb k (fun e => hFb (e ▸ hF)), rfl⟩, by omega, ho, ht, hout⟩, ?_, fun r hr => ?_, fun x => ?_, fun x hF => ?_, fun x hx => h.objlen x (JX rfl hid hx), fun x hx => by have := h.lenlt x hx; omega, fun x hF => by have := h.flt x hF; omega, h.good.step (fun _ h => h) fun k hF => hb k fun e => hFb (e ▸ hF)⟩
 ·exact ObjsR.setObj ext h.heap hid hbi rfl (by omega) (fun k _ hne => hb k hne) (by simp only [ObjR]; exact ⟨arr', hw', VRs.ext ext _ _ hv⟩)
 ·have hin : r ∈ os ∨ r ∈ aU w H g.obj := by
   rcases hr with hr | hr
   ·rcases hmem r (.inl hr) with h4 | h4
    ·exact .inl h4
    ·exact .inr (h3 r h4)
   ·rcases h2 r hr with h4 | h4
    ·exact .inr h4
    ·rcases hmem r (.inr h4) with h5 | h5
     ·exact .inl h5
     ·exact .inr (h3 r h5)
  have hne : r.1 ≠ b := fun e => by
   rcases hin with h4 | h4
   ·have := yt h4; rw [e] at this; omega
   ·have := yt h4; rw [e] at this; omega
  obtain ⟨o1, o2, arr0, t0, o3, o4⟩ := h.own r hin
  exact ⟨o1, o2, arr0, t0, o3.of_heap (hb _ hne), o4⟩
 ·have := h1 x; have := h.dist x; have := hcount x; have := DX (o' := AObj.cells t cs') rfl (bs := g.obj) hid x; omega
 ·have := h1 x; have := h.notF x hF; have := hcount x; have := DX (o' := AObj.cells t cs') rfl (bs := g.obj) hid x; omega
theorem Core.ND {F : Nat → Prop} {g : Gh} {H : List AObj} {os os0 : List Rec} {w w' : World} {ob : AObj} (h : Core F g H (os0 ++ os) w) (hb : ∀ k, k < w.heap.size → w'.heap[k]? = w.heap[k]?) (hs : w.heap.size < w'.heap.size) (ho : w'.os = w.os) (ht : w'.tape = w.tape) (hout : w'.output = w.output)
 (hO : jo w' w.heap.size ob = os0) (hR : ∀ g', Ext g w g' w' → ObjR g' w' w.heap.size ob) :
 ∃ g', g'.obj = g.obj ++ [w.heap.size] ∧ Ext g w g' w' ∧ Step F g w g' w' ∧ Core F g' (H ++ [ob]) os w' := by
 have hlt : ∀ b, b ∈ lives H g.obj → b < w.heap.size := fun b hb => h.heap.lt b hb
 have hz : oc w.heap.size (os0 ++ os) + oc w.heap.size (aU w H g.obj) + (lives H g.obj).count w.heap.size = 0 := by
  have e1 : oc w.heap.size (os0 ++ os) = 0 := by
   rcases Nat.eq_zero_or_pos (oc w.heap.size (os0 ++ os)) with e | e
   ·exact e
   ·obtain ⟨r, hr, hr2⟩ := List.countP_pos_iff.1 e
    have := (h.own r (.inl hr)).lt
    simp at hr2
    omega
  have e2 : oc w.heap.size (aU w H g.obj) = 0 := by
   rcases Nat.eq_zero_or_pos (oc w.heap.size (aU w H g.obj)) with e | e
   ·exact e
   ·obtain ⟨r, hr, hr2⟩ := List.countP_pos_iff.1 e
    have := (h.own r (.inr hr)).lt
    simp at hr2
    omega
  have e3 : (lives H g.obj).count w.heap.size = 0 := List.count_eq_zero.2 (fun hm => by have := hlt _ hm; omega)
  omega
 obtain ⟨e1, e2, e3⟩ := h.grow hb hs ho ht hout 0
 have ext : Ext g w ⟨g.obj ++ [w.heap.size], (g.set w.heap.size 0).len⟩ w' := ⟨e1.cell, e1.ty, e1.bsz, e1.len, fun i b hi => by
  have hl := (List.getElem?_eq_some_iff.1 hi).1
  simp only
  rw [List.getElem?_append_left hl]; exact hi⟩
 have ext2 : Ext (g.set w.heap.size 0) w' ⟨g.obj ++ [w.heap.size], (g.set w.heap.size 0).len⟩ w' := ⟨fun _ _ _ => rfl, fun _ _ => rfl, fun _ => Nat.le_refl _, fun _ => Nat.le_refl _, ext.obj⟩
 have hobj := ObjsR.move ext2 H g.obj e3.heap (fun _ _ => rfl)
 have hH : aU w' (H ++ [ob]) (g.obj ++ [w.heap.size]) = aU w' H g.obj ++ os0 := by
  rw [wL (g := g) h.heap.length, hO]
 have hHw : aU w' H (g.set w.heap.size 0).obj = aU w H g.obj := (ObjsR.move e1 H g.obj h.heap (fun b hb' => hb b (hlt b hb'))).2
 refine ⟨_, rfl, ext, ⟨e2.cell, e2.ty, e2.bsz, e2.len, e2.frame, e2.size, e2.os, e2.tape, e2.output⟩, hobj.1.append ?_, fun r hr => ?_, fun b => ?_, fun b hF => ?_, fun b hb' => ?_, e3.lenlt, e3.flt, e3.good⟩
 ·exact hR _ ext
 ·rw [hH] at hr
  have : OwnOK (g.set w.heap.size 0) w' r := by
   rcases hr with hr | hr
   ·exact e3.own r (.inl (List.mem_append_right _ hr))
   ·rcases List.mem_append.1 hr with hr | hr
    ·exact e3.own r (.inr hr)
    ·exact e3.own r (.inl (List.mem_append_left _ hr))
  exact this
 ·simp only
  rw [hH, jb h.heap.length]
  have h1 := e3.dist b
  rw [show (g.set w.heap.size 0).obj = g.obj from rfl] at h1 hHw
  simp only [ax, List.count_append] at h1 hz ⊢
  have h9 := DW w.heap.size b ob
  by_cases e : b = w.heap.size
  ·subst e
   rw [hHw]
   omega
  ·have := h9.2 e
   omega
 ·simp only
  rw [hH, jb h.heap.length]
  have h1 := e3.notF b hF
  have h2 := h.flt b hF
  rw [show (g.set w.heap.size 0).obj = g.obj from rfl] at h1
  simp only [ax, List.count_append] at h1 ⊢
  have := (DW w.heap.size b ob).2 (by omega)
  omega
 ·simp only at hb' ⊢
  rw [jb h.heap.length] at hb'
  rcases List.mem_append.1 hb' with hb' | hb'
  ·exact e3.objlen b hb'
  ·have : b = w.heap.size := by
    revert hb'
    cases ob.dead <;> simp
   subst this
   simp [Gh.set]
theorem Core.NE {F : Nat → Prop} {g : Gh} {H : List AObj} {os os' os0 os1 : List Rec} {w w' : World} {id b : Nat} {ob ob' : AObj} (h : Core F g H os w) (hid : H[id]? = some ob) (hbi : g.obj[id]? = some b) (hdd : ob.dead = false)
 (hb : ∀ k, k ≠ b → w'.heap[k]? = w.heap[k]?) (hbz : mQ w b ≤ mQ w' b) (hs : w'.heap.size = w.heap.size) (ho : w'.os = w.os) (ht : w'.tape = w.tape) (hout : w'.output = w.output)
 (hO : jo w b ob = os0) (hO' : jo w' b ob' = os1) (hR : Ext g w g w' → ObjR g w' b ob') (hcount : ∀ x, oc x os' + oc x (os1) ≤ oc x os + oc x (os0)) (hmem : ∀ r, r ∈ os' ∨ r ∈ os1 → r ∈ os ∨ r ∈ os0) :
 Ext g w g w' ∧ Step F g w g w' ∧ Core F g (H.set id ob') os' w' := by
 have hmb : b ∈ lives H g.obj := mf hid hbi hdd
 have hl0 := h.objlen b hmb
 have hd := h.dist b
 have hcb := List.count_pos_iff.2 hmb
 have ext : Ext g w g w' := ⟨fun k j hj => cell_of (hb k (fun e => by rw [e, hl0] at hj; omega)) j, fun k hk => qY (hb k (fun e => by rw [e, hl0] at hk; omega)), GN hb hbz, fun _ => Nat.le_refl _, fun _ _ h => h⟩
 have hFb : ¬ F b := fun hF => by have := h.notF b hF; omega
 obtain ⟨h1, h2, h3⟩ := Mr (w := w) (w' := w') (o' := ob') hid hbi hdd (by omega) (fun k _ hne => hb k hne)
 rw [hO'] at h1 h2
 rw [hO] at h1 h3
 refine ⟨ext, ⟨ext.cell, ext.ty, ext.bsz, ext.len, fun k hF => ⟨hb k (fun e => hFb (e ▸ hF)), rfl⟩, by omega, ho, ht, hout⟩, ?_, fun r hr => ?_, fun x => ?_, fun x hF => ?_, fun x hx => h.objlen x (JX hdd hid hx), fun x hx => by have := h.lenlt x hx; omega, fun x hF => by have := h.flt x hF; omega, h.good.step (fun _ h => h) fun k hF => hb k fun e => hFb (e ▸ hF)⟩
 ·exact ObjsR.setObj ext h.heap hid hbi hdd (by omega) (fun k _ hne => hb k hne) (hR ext)
 ·have hin : r ∈ os ∨ r ∈ aU w H g.obj := by
   rcases hr with hr | hr
   ·rcases hmem r (.inl hr) with h4 | h4
    ·exact .inl h4
    ·exact .inr (h3 r h4)
   ·rcases h2 r hr with h4 | h4
    ·exact .inr h4
    ·rcases hmem r (.inr h4) with h5 | h5
     ·exact .inl h5
     ·exact .inr (h3 r h5)
  have hne : r.1 ≠ b := fun e => by
   rcases hin with h4 | h4
   ·have := yt h4; rw [e] at this; omega
   ·have := yt h4; rw [e] at this; omega
  obtain ⟨o1, o2, arr0, t0, o3, o4⟩ := h.own r hin
  exact ⟨o1, o2, arr0, t0, o3.of_heap (hb _ hne), o4⟩
 ·have := h1 x; have := h.dist x; have := hcount x; have := DX (o' := ob') hdd (bs := g.obj) hid x; omega
 ·have := h1 x; have := h.notF x hF; have := hcount x; have := DX (o' := ob') hdd (bs := g.obj) hid x; omega
end Go.Sh
namespace Go.Sh
open Go.RowKit
set_option linter.unusedSimpArgs false
set_option linter.unusedVariables false
variable {c : Cx} {o : Oper}
theorem one_cell {g : Gh} {w : World} {a : AV} {v : Value} (h1 : one a = true) (h : VR g w a v) : v.oneCell' = true := by
 cases a with
 | undef => simp [one] at h1
 | agg cs => simp [one] at h1
 | tuple cs => simp [one] at h1
 | int k n => simp only [VR] at h; subst h; rfl
 | bool b => simp only [VR] at h; subst h; rfl
 | str l => simp only [VR] at h; obtain ⟨s, rfl, _⟩ := h; rfl
 | ints o k l => simp only [VR] at h; obtain ⟨_, _, _, rfl, _⟩ := h; rfl
 | strs o l => simp only [VR] at h; obtain ⟨_, _, _, rfl, _⟩ := h; rfl
 | sl o sz els => simp only [VR] at h; obtain ⟨_, _, _, _, rfl, _⟩ := h; rfl
 | eptr cs => simp only [VR] at h; obtain ⟨_, _, rfl, _⟩ := h; rfl
 | ptr r =>
  cases r with
  | none => simp only [VR] at h; subst h; rfl
  | some p => obtain ⟨id, off⟩ := p; simp only [VR] at h; obtain ⟨_, rfl, _⟩ := h; rfl
 | «mut» id off m sz => simp only [VR] at h; obtain ⟨_, _, _, rfl, _⟩ := h; rfl
 | yld id => simp only [VR] at h; obtain ⟨_, rfl, _⟩ := h; rfl
 | mo id m tot sz => simp only [VR] at h; obtain ⟨_, _, _, rfl, _⟩ := h; rfl
 | map r =>
  cases r with
  | none => simp only [VR] at h; subst h; rfl
  | some id => simp only [VR] at h; obtain ⟨_, rfl, _⟩ := h; rfl
 | func fn f1 c1 => simp only [VR] at h; obtain ⟨_, _, rfl, _⟩ := h; rfl
 | nilFunc => simp only [VR] at h; subst h; rfl
 | nilIface => simp only [VR] at h; subst h; rfl
 | iface t x => simp only [VR] at h; obtain ⟨_, rfl, _⟩ := h; rfl
theorem cells_one {v : Value} (h : v.oneCell' = true) : v.cells = #[v] := by cases v <;> first | rfl | simp [Value.oneCell'] at h
theorem UN {g : Gh} {w : World} : ∀ {cs : List AV} {vs : List Value}, VRs g w cs vs → cs.all one = true → ∀ u ∈ vs, u.oneCell' = true
 | [], vs, h, _, u, hu => by simp only [VRs] at h; subst h; simp at hu
 | c :: cs, vs, h, h1, u, hu => by
  simp only [VRs] at h
  obtain ⟨v, us, rfl, h2, h3⟩ := h
  simp only [List.all_cons, Bool.and_eq_true] at h1
  rcases List.mem_cons.1 hu with rfl | hu
  ·exact one_cell h1.1 h2
  ·exact UN h3 h1.2 u hu
theorem Ed {g : Gh} {w : World} {a : AV} {v : Value} (h : VR g w a v) (h1 : (cellsOf a).all one = true) : VRs g w (cellsOf a) v.cells.toList ∧ (∀ u ∈ v.cells.toList, u.oneCell' = true) ∧ aC (cellsOf a) v.cells.toList = owns a v := by
 have plain : cellsOf a = [a] → VRs g w (cellsOf a) v.cells.toList ∧ (∀ u ∈ v.cells.toList, u.oneCell' = true) ∧ aC (cellsOf a) v.cells.toList = owns a v := by
  intro e
  rw [e] at h1 ⊢
  simp only [List.all_cons, List.all_nil, Bool.and_true] at h1
  have h2 := one_cell h1 h
  rw [cells_one h2]
  exact ⟨by simp only [VRs]; exact ⟨v, [], rfl, h, rfl⟩, by simp [h2], by simp [aC]⟩
 cases a with
 | agg cs =>
  simp only [VR] at h
  obtain ⟨vs, rfl, h2⟩ := h
  exact ⟨h2, UN h2 h1, by simp [owns, cellsOf, Value.cells]⟩
 | _ => exact plain rfl
theorem QR {F : Nat → Prop} {nt : Nat} {g : Gh} {s : St} {a : Act} {w w' : World} (hs : SimX F nt g s a w []) (hb : ∀ k, k < w.heap.size → w'.heap[k]? = w.heap[k]?) (hsz : w.heap.size < w'.heap.size) (ho : w'.os = w.os) (ht : w'.tape = w.tape) (hout : w'.output = w.output)
 {arr : Array Value} {t : TypeId} (hnew : CellsAt w' w.heap.size arr t) {n cp z : Nat} {vs : List Value} (hvs : vs.length = n * z) (hn : n ≤ cp) (hc : cp * z ≤ arr.size) (hcells : ∀ j, j < vs.length → arr[j]? = vs[j]?) (hone : ∀ u ∈ vs, u.oneCell' = true) :
 ∃ g', g'.obj = g.obj ∧ Row g' w' true (some ⟨w.heap.size, 0, none⟩) n cp z vs ∧ Ext g w g' w' ∧ Step F g w g' w' ∧ SimX F nt g' s a w' (recs (some ⟨w.heap.size, 0, none⟩) (n * z) (cp * z)) := by
 have hgr := hs.core.QQ hb hsz ho ht hout (n * z) (cp * z) hnew (Nat.mul_le_mul_right _ hn) hc
 refine ⟨g.set w.heap.size (n * z), rfl, ⟨hvs, hn, Nat.zero_le _, fun hp => ⟨_, rfl, rfl, ?_, fun j hj => ?_⟩, fun _ ad h => by injection h with h; subst h; exact ⟨rfl, rfl⟩, fun h => by simp at h, hone⟩, hgr.1, hgr.2.1, hs.move hgr.1 (by simpa [recs] using hgr.2.2)⟩
 ·simp only [Gh.set, if_true, hvs]; omega
 ·simp only [Nat.zero_add]
  rw [hnew.cell]
  exact hcells j hj
theorem TM {x : AX} {p : Operand} {src dst e : TypeId} {d : TypeDesc} (h : o.op = .convert src dst p) (hs0 : c.P.underlying src = some d) (hd : c.P.underlying dst = some (.slice e)) (he : c.P.underlying e = some (.int .u8)) (hx : bA x p = true) : bK c (.toBytes x) o := by
 intro s R k r hr
 simp only [AOp.run] at hr
 split at hr
 ·rename_i l hv
  refine ⟨_, _, hr, OpSem.run fun F g a w B hB hpre hs => ?_⟩
  have hp := aj hs hx
  rw [hv] at hp
  simp only [VR] at hp
  obtain ⟨s1, hp, hl⟩ := hp
  have hsz : s1.size = l.length := by rw [← hl]; exact (Array.length_toList (xs := s1.data)).symm
  have hge := grownCap_ge w s1.size 0 e
  obtain ⟨g', k1, k2, k3, k4, k5⟩ := QR (w' := Lib.bytesWorld w e s1) hs (fun k hk => Lib.bytesWorld_at_old w e s1 k hk) (by rw [Lib.bytesWorld_size]; omega) rfl rfl rfl ⟨_, Lib.bytesWorld_at_new w e s1, .inr (Nat.le_refl _)⟩ (n := l.length) (cp := grownCap w s1.size 0 e) (z := 1) (vs := (nD l).map (Value.int .u8)) (by simp [nD]) (by omega) (by simp [Lib.bytesCells]; omega) (fun j hj => by
   simp only [nD, List.length_map] at hj
   have h5 := Lib.bytesWorld_cell w e s1 j (by omega)
   simp only [World.cell?, Lib.bytesWorld_at_new] at h5
   have h6 : (Lib.bytesCells w e s1)[j]? = some (.int .u8 (s1.data.toList.getD j 0).toNat) := by simpa using h5
   rw [h6, hl]
   simp [nD, hj, List.getD]) (fun u hu => by
    obtain ⟨n, _, rfl⟩ := List.mem_map.1 hu
    rfl)
  refine ⟨.slice (some ⟨w.heap.size, 0, none⟩) s1.size (grownCap w s1.size 0 e), g', _, ?_, ?_, by rw [k1]; exact hpre, ?_, k4⟩
  ·simp only [execOp, h]
   refine aG ?_
   rw [hp]
   exact Lib.run_convert_string_bytes w src dst e s1 hs0 hd he
  ·simp only [VR]
   exact ⟨_, _, _, rfl, by rw [hsz] at k2 ⊢; exact k2⟩
  ·simpa [owns, recs, nD, hsz] using k5
 ·exact absurd hr (by simp)
def Fh {α : Type} (ps : List α) : List (Nat × α) := (ps.zipIdx 0).map fun x => (x.2, x.1)
theorem K8 {α β : Type} (f : α → β) (ps : List α) : (Fh ps).map (fun x => (x.1, f x.2)) = Fh (ps.map f) := by
 simp [Fh, List.zipIdx_map, Function.comp_def]
theorem Y1 {w : World} {P : Program} {t e : TypeId} {ie : TypeInfo} {zr : Value} {z : Nat} (hu : P.underlying t = some (.slice e)) (hie : P.info? e = some ie) (hz : ie.zero = some zr) (hsz : ie.size = z) (h0 : 0 < z)
 (us : List Value) (hcs : ∀ u ∈ us, u.cells.size = z ∧ ∀ v ∈ u.cells.toList, v.oneCell' = true) (hsmall : us.length * z ≤ 16777216) :
 (Instr.buildSlice t us.length (Fh us).toArray).run P w = .ok (.slice (some ⟨w.heap.size, 0, none⟩) us.length us.length) (w.alloc (.cells (us.flatMap fun u => u.cells.toList).toArray e)) := by
 subst hsz
 by_cases hn : us = []
 ·subst hn
  simp [Instr.buildSlice, run_underlying hu, sizeOf, typeInfo, hie, Fh, Instr.fill, newRow]
  congr 2
  apply Array.ext'
  simp
 ·have hpos : 0 < us.length * ie.size := Nat.mul_pos (List.length_pos_iff.2 hn) h0
  exact run_buildSlice w t e us.length _ _ ie zr hu hie hz (by omega) (by omega) (Great.fill_whole h0 us _ (fun v hv => (hcs v hv).1) (by simp))
theorem Kk {F : Nat → Prop} {nt : Nat} {g : Gh} {s : St} {a : Act} {w : World} {P : Program} {t e : TypeId} {ie : TypeInfo} {zr : Value} {z : Nat} (hs : SimX F nt g s a w []) (hu : P.underlying t = some (.slice e)) (hie : P.info? e = some ie) (hz : ie.zero = some zr) (hsz : ie.size = z) (h0 : 0 < z)
 (us : List Value) (hcs : ∀ u ∈ us, u.cells.size = z ∧ ∀ v ∈ u.cells.toList, v.oneCell' = true) (hsmall : us.length * z ≤ 16777216) :
 ∃ g' w', (Instr.buildSlice t us.length (Fh us).toArray).run P w = .ok (.slice (some ⟨w.heap.size, 0, none⟩) us.length us.length) w' ∧ g'.obj = g.obj ∧ Row g' w' true (some ⟨w.heap.size, 0, none⟩) us.length us.length z (us.flatMap fun u => u.cells.toList) ∧ Ext g w g' w' ∧ Step F g w g' w' ∧ SimX F nt g' s a w' (recs (some ⟨w.heap.size, 0, none⟩) (us.length * z) (us.length * z)) := by
 subst hsz
 have hlen : ∀ us : List Value, (∀ u ∈ us, u.cells.size = ie.size ∧ ∀ v ∈ u.cells.toList, v.oneCell' = true) → (us.flatMap fun u => u.cells.toList).length = us.length * ie.size := by
  intro us
  induction us with
  | nil => intro _; simp
  | cons u us ih =>
   intro h
   rw [List.flatMap_cons, List.length_append, ih (fun v hv => h v (by simp [hv])), List.length_cons, Nat.add_mul]
   have := (h u (by simp)).1
   simp only [Array.length_toList]
   omega
 have hl := hlen us hcs
 have hrun : (Instr.buildSlice t us.length (Fh us).toArray).run P w = .ok (.slice (some ⟨w.heap.size, 0, none⟩) us.length us.length) (w.alloc (.cells (us.flatMap fun u => u.cells.toList).toArray e)) := by
  by_cases hn : us = []
  ·subst hn
   simp [Instr.buildSlice, run_underlying hu, sizeOf, typeInfo, hie, Fh, Instr.fill, newRow]
   congr 2
   apply Array.ext'
   simp
  ·have hpos : 0 < us.length * ie.size := Nat.mul_pos (List.length_pos_iff.2 hn) h0
   exact run_buildSlice w t e us.length _ _ ie zr hu hie hz (by omega) (by omega) (Great.fill_whole h0 us _ (fun v hv => (hcs v hv).1) (by simp))
 obtain ⟨g', h1, h2, h3, h4, h5⟩ := QR (w' := w.alloc (.cells (us.flatMap fun u => u.cells.toList).toArray e)) hs (fun k hk => heap_alloc_old w _ (h := hk)) (by simp) rfl rfl rfl (.plain (heap_alloc_new w _)) (n := us.length) (cp := us.length) hl (Nat.le_refl _) (by rw [List.size_toArray, hl]; exact Nat.le_refl _)
  (fun j _ => by simp) (fun u hu => by
   obtain ⟨v, hv, hu⟩ := List.mem_flatMap.1 hu
   exact (hcs v hv).2 u hu)
 exact ⟨g', _, hrun, h1, h2, h3, h4, h5⟩
theorem Kl {kd : IntKind} {R : Type} : ∀ {vs : List AV} {k : List Int → Option R} {r : R}, Px kd vs k = some r → ∃ l, vs = l.map (AV.int kd) ∧ k l = some r
 | [], k, r, h => ⟨[], rfl, h⟩
 | v :: vs, k, r, h => by
  cases v with
  | int k' n =>
   simp only [Px] at h
   obtain ⟨h1, h2⟩ | ⟨_, h2⟩ := ae h
   case inr => exact absurd h2 (by simp)
   simp only [decide_eq_true_eq] at h1
   subst h1
   obtain ⟨l, rfl, h3⟩ := Kl h2
   exact ⟨n :: l, rfl, h3⟩
  | _ => exact absurd h (by simp [Px])
theorem NY {R : Type} : ∀ {vs : List AV} {k : List Str → Option R} {r : R}, Rx vs k = some r → ∃ l, vs = l.map AV.str ∧ k l = some r
 | [], k, r, h => ⟨[], rfl, h⟩
 | v :: vs, k, r, h => by
  cases v with
  | str x =>
   simp only [Rx] at h
   obtain ⟨l, rfl, h3⟩ := NY h
   exact ⟨x :: l, rfl, h3⟩
  | _ => exact absurd h (by simp [Rx])
theorem NZ {g : Gh} {w : World} {kd : IntKind} : ∀ {l : List Int} {us : List Value}, VRs g w (l.map (AV.int kd)) us → us = l.map (Value.int kd)
 | [], us, h => by simp only [List.map_nil, VRs] at h; exact h
 | n :: l, us, h => by
  simp only [List.map_cons, VRs, VR] at h
  obtain ⟨v, us', rfl, rfl, h3⟩ := h
  rw [NZ h3]; rfl
theorem RF {g : Gh} {w : World} : ∀ {l : List Str} {us : List Value}, VRs g w (l.map AV.str) us → us = l.map fun s => Value.string ⟨s.toArray⟩
 | [], us, h => by simp only [List.map_nil, VRs] at h; exact h
 | n :: l, us, h => by
  simp only [List.map_cons, VRs, VR] at h
  obtain ⟨v, us', rfl, ⟨s, rfl, h2⟩, h3⟩ := h
  rw [RF h3]
  simp only [List.map_cons]
  congr 2
  cases s
  subst h2
  simp
theorem Km {P : Program} {w : World} (mx : Bool) (kd : IntKind) : ∀ (l : List Int) (a : Int), ((l.map (Value.int kd)).foldlM (if mx then Builtin.max2 else Builtin.min2) (Value.int kd a)).run P w = .ok (.int kd (FU mx a l)) w
 | [], a => by simp [FU]
 | b :: l, a => by
  cases mx with
  | true =>
   have h := Km (P := P) (w := w) true kd l (if a < b then b else a)
   simp only [if_true] at h
   simp only [List.map_cons, List.foldlM_cons, if_true, Builtin.max2, Sem.run_bind, Sem.run_pure, Result.andThen, FU]
   exact h
  | false =>
   have h := Km (P := P) (w := w) false kd l (if b < a then b else a)
   simp only [Bool.false_eq_true, if_false] at h
   simp only [List.map_cons, List.foldlM_cons, Bool.false_eq_true, if_false, Builtin.min2, Sem.run_bind, Sem.run_pure, Result.andThen, FU]
   exact h
theorem N7 {mx : Bool} {kd : IntKind} {xs : List AX} {ps : List Operand} {cl : Call} (h : o.op = .call cl) (hc : cl.callee = .builtin (if mx then .max else .min)) (hargs : cl.args = ps.toArray) (hx : wU xs ps = true) : bK c (.minmaxs mx kd xs) o := by
 refine ek fun s R k r hr => ?_
 simp only [AOp.run] at hr
 obtain ⟨l, h1, h2⟩ := Kl hr
 cases l with
 | nil => exact absurd h2 (by simp)
 | cons a1 l =>
  refine ⟨_, h2, fun F g a w hs => ?_⟩
  have h3 := (AX.oks hs hx).1
  rw [h1] at h3
  have h4 := NZ h3
  refine ⟨.int kd (FU mx a1 l), ?_, by simp [VR], rfl⟩
  refine dC h hc ?_
  rw [hargs]
  have h5 := Km (P := c.P) (w := w) mx kd l a1
  cases mx with
  | true =>
   simp only [if_true] at h5
   simp only [builtin, if_true, List.map_toArray, h4, List.map_cons]
   exact aG (by simpa [Builtin.max_] using h5)
  | false =>
   simp only [Bool.false_eq_true, if_false] at h5
   simp only [builtin, Bool.false_eq_true, if_false, List.map_toArray, h4, List.map_cons]
   exact aG (by simpa [Builtin.min_] using h5)
theorem Y2 {kd : IntKind} {xs : List AX} {ps : List Operand} {t e : TypeId} {zr : Value} (h : o.op = .buildSlice t ps.length (Fh ps).toArray) (hu : c.P.underlying t = some (.slice e)) (hi : (c.P.info? e).map (fun i => (i.size, i.zero)) = some (1, some zr)) (hsmall : ps.length ≤ 16777216) (hx : wU xs ps = true) : bK c (.litI kd xs) o := by
 obtain ⟨i, hi1, hi2⟩ := Option.map_eq_some_iff.1 hi
 injection hi2 with hi2 hi3
 intro s R k r hr
 simp only [AOp.run] at hr
 obtain ⟨l, h1, h2⟩ := Kl hr
 refine ⟨_, _, h2, OpSem.run fun F g a w B hB hpre hs => ?_⟩
 have h3 := (AX.oks hs hx).1
 rw [h1] at h3
 have h4 := NZ h3
 have hlen : ps.length = (ps.map a.eval).length := by simp
 obtain ⟨g', w', h5, h6, h7, h8, h9, h10⟩ := Kk hs hu hi1 hi3 hi2 (by omega) (ps.map a.eval) (by
  rw [h4]
  intro u hu
  obtain ⟨n, _, rfl⟩ := List.mem_map.1 hu
  exact ⟨rfl, by simp [Value.cells, Value.oneCell']⟩) (by rw [← hlen]; omega)
 refine ⟨.slice (some ⟨w.heap.size, 0, none⟩) (ps.map a.eval).length (ps.map a.eval).length, g', w', ?_, ?_, by rw [h6]; exact hpre, ?_, h9⟩
 ·simp only [execOp, h]
  refine aG ?_
  rw [hlen]
  have : ((Fh ps).toArray.map fun x => (x.1, a.eval x.2)) = (Fh (ps.map a.eval)).toArray := by
   rw [← K8]; simp
  exact (congrArg (fun q => (Instr.buildSlice t (ps.map a.eval).length q).run c.P w) this).trans h5
 ·simp only [VR]
  refine ⟨_, _, _, rfl, ?_⟩
  have e1 : ((ps.map a.eval).flatMap fun u => u.cells.toList) = l.map (Value.int kd) := by
   rw [h4]; simp only [List.flatMap_map, Value.cells]; rw [List.map_eq_flatMap]
  rw [e1] at h7
  exact h7
 ·have e2 : (ps.map a.eval).length = l.length := by rw [h4]; simp
  rw [qz, ← e2]
  simpa using h10
theorem Y3 {xs : List AX} {ps : List Operand} {t e : TypeId} {zr : Value} (h : o.op = .buildSlice t ps.length (Fh ps).toArray) (hu : c.P.underlying t = some (.slice e)) (hi : (c.P.info? e).map (fun i => (i.size, i.zero)) = some (1, some zr)) (hsmall : ps.length ≤ 16777216) (hx : wU xs ps = true) : bK c (.litS xs) o := by
 obtain ⟨i, hi1, hi2⟩ := Option.map_eq_some_iff.1 hi
 injection hi2 with hi2 hi3
 intro s R k r hr
 simp only [AOp.run] at hr
 obtain ⟨l, h1, h2⟩ := NY hr
 refine ⟨_, _, h2, OpSem.run fun F g a w B hB hpre hs => ?_⟩
 have h3 := (AX.oks hs hx).1
 rw [h1] at h3
 have h4 := RF h3
 have hlen : ps.length = (ps.map a.eval).length := by simp
 obtain ⟨g', w', h5, h6, h7, h8, h9, h10⟩ := Kk hs hu hi1 hi3 hi2 (by omega) (ps.map a.eval) (by
  rw [h4]
  intro u hu
  obtain ⟨n, _, rfl⟩ := List.mem_map.1 hu
  exact ⟨rfl, by simp [Value.cells, Value.oneCell']⟩) (by rw [← hlen]; omega)
 refine ⟨.slice (some ⟨w.heap.size, 0, none⟩) (ps.map a.eval).length (ps.map a.eval).length, g', w', ?_, ?_, by rw [h6]; exact hpre, ?_, h9⟩
 ·simp only [execOp, h]
  refine aG ?_
  rw [hlen]
  have : ((Fh ps).toArray.map fun x => (x.1, a.eval x.2)) = (Fh (ps.map a.eval)).toArray := by
   rw [← K8]; simp
  exact (congrArg (fun q => (Instr.buildSlice t (ps.map a.eval).length q).run c.P w) this).trans h5
 ·simp only [VR]
  refine ⟨_, _, _, rfl, ?_⟩
  have e1 : ((ps.map a.eval).flatMap fun u => u.cells.toList) = l.map fun s => Value.string ⟨s.toArray⟩ := by
   rw [h4]; simp only [List.flatMap_map, Value.cells]; rw [List.map_eq_flatMap]
  rw [e1] at h7
  exact h7
 ·have e2 : (ps.map a.eval).length = l.length := by rw [h4]; simp
  rw [Mq, ← e2]
  simpa using h10
theorem Xe {kd : IntKind} {bytes : Nat} {x : AX} {p : Operand} {t e : TypeId} (h : o.op = .makeSlice t p p) (hu : c.P.underlying t = some (.slice e)) (hi : (c.P.info? e).map (fun i => (i.size, i.bytes, i.zero)) = some (1, bytes, some (.int kd 0))) (hb0 : 0 < bytes) (hx : bA x p = true) : bK c (.makeI kd bytes x) o := by
 obtain ⟨i, hi1, hi2⟩ := Option.map_eq_some_iff.1 hi
 injection hi2 with hi2 hi3
 injection hi3 with hi3 hi4
 intro s R k r hr
 simp only [AOp.run] at hr
 split at hr
 ·rename_i km m hv
  obtain ⟨h1, hr2⟩ | ⟨_, hr2⟩ := ae hr
  case inr => exact absurd hr2 (by simp)
  obtain ⟨h2, hr3⟩ | ⟨_, hr3⟩ := ae hr2
  case inr => exact absurd hr3 (by simp)
  simp only [decide_eq_true_eq] at h1 h2
  refine ⟨_, _, hr3, OpSem.run fun F g a w B hB hpre hs => ?_⟩
  have hp := aj hs hx
  rw [hv] at hp
  simp only [VR] at hp
  have hm : m ≤ 140737488355328 := by
   have h5 : m * 1 ≤ m * (bytes : Int) := Int.mul_le_mul_of_nonneg_left (by omega) h1
   omega
  have hrun := run_make (P := c.P) w t e i _ hu hi1 hi4 km km m m h1 (Int.le_refl _) (by rw [hi3, Int.mul_comm]; omega) (by omega)
  obtain ⟨g', h3, h4, h5, h6, h7⟩ := QR (w' := w.alloc (.cells (madeCells (Value.int kd 0).cells (m.toNat * i.size)) e)) hs (fun k hk => heap_alloc_old w _ (h := hk)) (by simp) rfl rfl rfl (.plain (heap_alloc_new w _)) (n := m.toNat) (cp := m.toNat) (z := 1) (vs := (List.replicate m.toNat (0 : Int)).map (Value.int kd)) (by simp) (Nat.le_refl _) (by rw [size_madeCells, hi2]; omega)
   (fun j hj => by
    simp only [List.length_map, List.length_replicate] at hj
    have h8 : j < m.toNat * i.size := by rw [hi2]; omega
    simp [madeCells, Value.cells, hj, h8]
    simp [Nat.mod_one]) (fun u hu => by
    obtain ⟨n, _, rfl⟩ := List.mem_map.1 hu
    rfl)
  refine ⟨.slice (some ⟨w.heap.size, 0, none⟩) m.toNat m.toNat, g', _, ?_, ?_, by rw [h3]; exact hpre, ?_, h6⟩
  ·simp only [execOp, h]
   refine aG ?_
   rw [hp]
   exact hrun
  ·simp only [VR]
   exact ⟨_, _, _, rfl, h4⟩
  ·rw [qz]
   simpa using h7
 ·exact absurd hr (by simp)
theorem Xf {vs : List AV} {n : Nat} (h : (vs.all fun v => Nat.beq (cellsOf v).length n && (cellsOf v).all one && lq (cellsOf v)) = true) : ∀ v ∈ vs, (cellsOf v).length = n ∧ (cellsOf v).all one = true ∧ lq (cellsOf v) = true := by
 intro v hv
 have := List.all_eq_true.1 h v hv
 simp only [Bool.and_eq_true] at this
 exact ⟨Nat.eq_of_beq_eq_true this.1.1, this.1.2, this.2⟩
theorem IB {v : AV} : cellsOf (disown v) = disownL (cellsOf v) := by cases v <;> rfl
theorem PI {g : Gh} {w : World} : ∀ {vs : List AV} {us : List Value}, VRs g w vs us → (∀ v ∈ vs, (cellsOf v).all one = true) → VRss g w (vs.map fun v => cellsOf (disown v)) (us.flatMap fun u => u.cells.toList)
 | [], us, h, _ => by simp only [VRs] at h; subst h; simp [VRss]
 | v :: vs, us, h, h1 => by
  simp only [VRs] at h
  obtain ⟨u, us', rfl, h2, h3⟩ := h
  simp only [List.map_cons, List.flatMap_cons, VRss]
  refine ⟨_, _, rfl, ?_, PI h3 (fun v hv => h1 v (by simp [hv]))⟩
  rw [IB]
  exact VRs.disown _ _ (Ed h2 (h1 v (by simp))).1
mutual
theorem K9 : ∀ (c : AV), vG (disown c) = vG c
 | .undef | .int .. | .bool .. | .str .. | .ints .. | .strs .. | .sl .. | .eptr .. | .mut .. | .mo .. | .yld _ | .nilFunc | .nilIface => rfl
 | .ptr none | .ptr (some _) | .map none | .map (some _) => rfl
 | .agg cs | .tuple cs => by simp only [disown, vG]; exact xq cs
 | .func f a b => by simp only [disown, vG, xq a, xq b]
 | .iface t v => by simp only [disown, vG]; exact K9 v
theorem xq : ∀ (cs : List AV), lq (disownL cs) = lq cs
 | [] => rfl
 | c :: cs => by simp only [disownL, lq, K9 c, xq cs]
end
theorem sN : ∀ (cs : List AV), (disownL cs).length = cs.length
 | [] => rfl
 | c :: cs => by simp [disownL, sN cs]
theorem Y4 {n : Nat} {xs : List AX} {ps : List Operand} {t e : TypeId} {zr : Value} (h : o.op = .buildSlice t ps.length (Fh ps).toArray) (hu : c.P.underlying t = some (.slice e)) (hi : (c.P.info? e).map (fun i => (i.size, i.zero)) = some (n, some zr)) (h0 : 0 < n) (hsmall : ps.length * n ≤ 16777216) (hx : wU xs ps = true) : bK c (.litC n xs) o := by
 obtain ⟨i, hi1, hi2⟩ := Option.map_eq_some_iff.1 hi
 injection hi2 with hi2 hi3
 intro s R k r hr
 simp only [AOp.run] at hr
 obtain ⟨h1, h2⟩ | ⟨_, h2⟩ := ae hr
 case inr => exact absurd h2 (by simp)
 refine ⟨_, _, h2, OpSem.run fun F g a w B hB hpre hs => ?_⟩
 have h3 := (AX.oks hs hx).1
 have h4 := Xf h1
 have hlen : ps.length = (ps.map a.eval).length := by simp
 have hvl := h3.length
 obtain ⟨g', w', h5, h6, h7, h8, h9, h10⟩ := Kk hs hu hi1 hi3 hi2 h0 (ps.map a.eval) (by
  intro u hu
  obtain ⟨j, hj, rfl⟩ := List.mem_iff_getElem.1 hu
  obtain ⟨v', h11, h12⟩ := h3.get j ((evs s xs)[j]'(by omega)) (List.getElem?_eq_getElem _)
  rw [List.getElem?_eq_getElem hj] at h11
  injection h11 with h11
  rw [h11]
  have h13 := h4 _ (List.getElem_mem (by omega : j < (evs s xs).length))
  obtain ⟨h14, h15, _⟩ := Ed h12 h13.2.1
  exact ⟨by have := h14.length; rw [h13.1] at this; simpa using this.symm, h15⟩) (by rw [← hlen]; omega)
 refine ⟨.slice (some ⟨w.heap.size, 0, none⟩) (ps.map a.eval).length (ps.map a.eval).length, g', w', ?_, ?_, by rw [h6]; exact hpre, ?_, h9⟩
 ·simp only [execOp, h]
  refine aG ?_
  rw [hlen]
  have : ((Fh ps).toArray.map fun x => (x.1, a.eval x.2)) = (Fh (ps.map a.eval)).toArray := by
   rw [← K8]; simp
  exact (congrArg (fun q => (Instr.buildSlice t (ps.map a.eval).length q).run c.P w) this).trans h5
 ·simp only [VR]
  refine ⟨_, _, _, _, rfl, h7, by rw [List.length_map]; exact hvl, ?_, VRss.ext h8 _ _ (PI h3 (fun v hv => (h4 v hv).2.1))⟩
  intro e he
  obtain ⟨v, hv, rfl⟩ := List.mem_map.1 he
  rw [IB, sN, xq]
  exact ⟨(h4 v hv).1, (h4 v hv).2.2⟩
 ·rw [GU, List.length_map, hvl]
  exact h10
theorem bC {s : St} {H : List AObj} {a : Act} : af ⟨s.slots, H⟩ 0 a.tmps.toList = af s 0 a.tmps.toList := vH _ _ (fun _ _ => rfl)
theorem N8 (s : St) : ∀ xs : List AX, (evs s xs).length = xs.length
 | [] => rfl
 | x :: xs => by rw [evs, List.length_cons, N8 (x.st s) xs, List.length_cons]
theorem Y5 {xs : List AX} {ps : List Operand} {t e : TypeId} {zr : Value} (h : o.op = .buildSlice t ps.length (Fh ps).toArray) (hu : c.P.underlying t = some (.slice e)) (hi : (c.P.info? e).map (fun i => (i.size, i.zero)) = some (1, some zr)) (hsmall : ps.length * 1 ≤ 16777216) (hx : wU xs ps = true) : bK c (.litP e xs) o := by
 obtain ⟨i, hi1, hi2⟩ := Option.map_eq_some_iff.1 hi
 injection hi2 with hi2 hi3
 intro s R k r hr
 simp only [AOp.run] at hr
 obtain ⟨h1, h2⟩ | ⟨_, h2⟩ := ae hr
 case inr => exact absurd h2 (by simp)
 refine ⟨_, _, h2, OpSem.run fun F g a w B hB hpre hs => ?_⟩
 have h3 := (AX.oks hs hx).1
 have hlen : ps.length = (ps.map a.eval).length := by simp
 have hvl := h3.length
 have hones : ∀ u ∈ ps.map a.eval, u.oneCell' = true := by
  intro u hu
  obtain ⟨j, hj, rfl⟩ := List.mem_iff_getElem.1 hu
  obtain ⟨v', h11, h12⟩ := h3.get j ((evs s xs)[j]'(by omega)) (List.getElem?_eq_getElem _)
  rw [List.getElem?_eq_getElem hj] at h11
  injection h11 with h11
  rw [h11]
  exact one_cell (List.all_eq_true.1 h1 _ (List.getElem_mem _)) h12
 have hcs : ∀ u ∈ ps.map a.eval, u.cells.size = 1 ∧ ∀ v ∈ u.cells.toList, v.oneCell' = true := fun u hu => by
  rw [cells_one (hones u hu)]
  exact ⟨rfl, fun v hv => by simp at hv; rw [hv]; exact hones u hu⟩
 have hflat : ∀ l : List Value, (∀ u ∈ l, u.oneCell' = true) → (l.flatMap fun u => u.cells.toList) = l := by
  intro l
  induction l with
  | nil => intro _; rfl
  | cons u l ih =>
   intro h
   rw [List.flatMap_cons, cells_one (h u (by simp)), ih (fun v hv => h v (by simp [hv]))]
   rfl
 have hrun := Y1 (w := w) (P := c.P) hu hi1 hi3 hi2 (by omega) (ps.map a.eval) hcs (by rw [← hlen]; omega)
 rw [hflat _ hones] at hrun
 have hc := hs.core
 rw [List.nil_append] at hc
 obtain ⟨g', e1, e2, e3, e4⟩ := Core.newObj (cs := disownL (evs s xs)) (arr := (ps.map a.eval).toArray) (t := e) (w' := w.alloc (.cells (ps.map a.eval).toArray e)) (os := af s 0 a.tmps.toList) (by rw [tY, List.nil_append]; exact hc) (fun k hk => heap_alloc_old w _ (h := hk)) (by simp) rfl rfl rfl (heap_alloc_new w _) (by simpa using VRs.disown _ _ h3)
 have hgl : g.obj.length = s.heap.length := hs.core.heap.length.symm
 refine ⟨.slice (some ⟨w.heap.size, 0, none⟩) (ps.map a.eval).length (ps.map a.eval).length, g', _, ?_, ?_, by rw [e1]; exact hpre.trans (List.prefix_append _ _), ?_, e3⟩
 ·simp only [execOp, h]
  refine aG ?_
  rw [hlen]
  have : ((Fh ps).toArray.map fun x => (x.1, a.eval x.2)) = (Fh (ps.map a.eval)).toArray := by
   rw [← K8]; simp
  exact (congrArg (fun q => (Instr.buildSlice t (ps.map a.eval).length q).run c.P w) this).trans hrun
 ·simp only [VR]
  have hxl : xs.length = (ps.map a.eval).length := by rw [← hvl, N8]
  exact ⟨_, w.heap.size, _, by rw [hxl], fun _ => rfl, by rw [hxl]; exact Nat.le_refl _, by rw [e1, ← hgl, List.getElem?_append_right (Nat.le_refl _), Nat.sub_self]; rfl⟩
 ·refine ⟨hs.size, fun t' => VR.ext e2 _ _ (hs.slots t'), ?_⟩
  rw [bC]
  have : owns (.mut s.heap.length 0 xs.length 1) (.slice (some ⟨w.heap.size, 0, none⟩) (ps.map a.eval).length (ps.map a.eval).length) = [] := rfl
  rw [this, List.nil_append]
  exact e4
theorem aag {t : TypeId} {n : Nat} {x : AX} {p : Operand} (h : o.op = .box t p) (hx : bA x p = true) : bK c (.box t n x) o := by
 intro s R k r hr
 simp only [AOp.run] at hr
 obtain ⟨h1, h2⟩ | ⟨_, h2⟩ := ae hr
 case inr => exact absurd h2 (by simp)
 simp only [Bool.and_eq_true, decide_eq_true_eq] at h1
 refine ⟨_, _, h2, OpSem.run fun F g a w B hB hpre hs => ?_⟩
 obtain ⟨h3, h4⟩ := AX.ok hs hx
 obtain ⟨h5, h6, h7⟩ := Ed h3 h1.2
 have hc := h4.core
 rw [← h7, List.append_nil] at hc
 obtain ⟨g', e1, e2, e3, e4⟩ := hc.newObj (w' := w.alloc (.cells (a.eval p).cells t)) (t := t) (fun k hk => heap_alloc_old w _ (h := hk)) (by simp) rfl rfl rfl (heap_alloc_new w _) h5
 have hst : (x.st s).heap = s.heap := by cases x <;> rfl
 refine ⟨.pointer (some ⟨w.heap.size, 0, none⟩), g', w.alloc (.cells (a.eval p).cells t), ?_, ?_, by rw [e1]; exact hpre.trans (List.prefix_append _ _), ?_, e3⟩
 ·simp [execOp, h, Instr.box, newVar, newRow]
 ·simp only [VR]
  refine ⟨_, rfl, ?_⟩
  rw [e1, ← hst, h4.core.heap.length]
  simp
 ·refine ⟨h4.size, fun t' => VR.ext e2 _ _ (h4.slots t'), ?_⟩
  rw [show ((⟨(x.st s).slots, s.heap ++ [.cells t (cellsOf (x.ev s))]⟩ : St)).heap = (x.st s).heap ++ [.cells t (cellsOf (x.ev s))] by rw [hst]]
  rw [bC]
  exact e4
theorem Xg {t : TypeId} {zero : List AV} {zr : Value} (h : o.op = .alloc t) (hz : (c.P.info? t).bind (·.zero) = some zr) (hf : K3 zero zr.cells.toList = true) : bK c (.alloc t zero) o := by
 intro s R k r hr
 simp only [AOp.run] at hr
 obtain ⟨i, hi1, hi2⟩ := Option.bind_eq_some_iff.1 hz
 refine ⟨_, _, hr, OpSem.run fun F g a w B hB hpre hs => ?_⟩
 obtain ⟨h5, h7⟩ := Iw g w zero zr.cells.toList hf
 have hc := hs.core
 have hc' : Core F g s.heap (aC zero zr.cells.toList ++ af s 0 a.tmps.toList) w := by rw [h7]; exact hc
 obtain ⟨g', e1, e2, e3, e4⟩ := hc'.newObj (w' := w.alloc (.cells zr.cells t)) (t := t) (fun k hk => heap_alloc_old w _ (h := hk)) (by simp) rfl rfl rfl (heap_alloc_new w _) h5
 refine ⟨.pointer (some ⟨w.heap.size, 0, none⟩), g', w.alloc (.cells zr.cells t), ?_, ?_, by rw [e1]; exact hpre.trans (List.prefix_append _ _), ?_, e3⟩
 ·simp [execOp, h, Instr.alloc, zeroValue, typeInfo, hi1, hi2, newVar, newRow]
 ·simp only [VR]
  refine ⟨_, rfl, ?_⟩
  rw [e1, hs.core.heap.length]
  simp
 ·exact ⟨hs.size, fun t' => VR.ext e2 _ _ (hs.slots t'), by rw [bC]; exact e4⟩
def putCells (cs : List Value) (off : Nat) : List Value → List Value
 | [] => cs
 | v :: vs => putCells (cs.set off v) (off + 1) vs
theorem IC : ∀ (us : List Value) (cs : List Value) (off : Nat), off + us.length ≤ cs.length → putCells cs off us = cs.take off ++ us ++ cs.drop (off + us.length)
 | [], cs, off, _ => by simp [putCells]
 | u :: us, cs, off, h => by
  simp only [List.length_cons] at h
  rw [putCells, IC us (cs.set off u) (off + 1) (by simp; omega)]
  have := list_seg_step cs off u us (by omega)
  simp only [List.length_cons]
  rw [show off + (us.length + 1) = off + 1 + us.length by omega]
  rw [this]
  congr 2
  omega
theorem VRs.set {g : Gh} {w : World} {u : AV} {v : Value} (hv : VR g w u v) : ∀ {cs : List AV} {vs : List Value} (i : Nat), VRs g w cs vs → VRs g w (cs.set i u) (vs.set i v)
 | [], vs, i, h => by simp only [VRs] at h; subst h; simp [VRs]
 | c :: cs, vs, i, h => by
  simp only [VRs] at h
  obtain ⟨v', us, rfl, h2, h3⟩ := h
  cases i with
  | zero => simp only [List.set_cons_zero, VRs]; exact ⟨v, us, rfl, hv, h3⟩
  | succ i => simp only [List.set_cons_succ, VRs]; exact ⟨v', _, rfl, h2, VRs.set hv i h3⟩
theorem VRs.setCells {g : Gh} {w : World} : ∀ {us : List AV} {vs : List Value} {cs : List AV} {ws : List Value} (off : Nat), VRs g w us vs → VRs g w cs ws → VRs g w (setCells cs off us) (putCells ws off vs)
 | [], vs, cs, ws, off, h, k => by simp only [VRs] at h; subst h; exact k
 | u :: us, vs, cs, ws, off, h, k => by
  simp only [VRs] at h
  obtain ⟨v, vs', rfl, h2, h3⟩ := h
  exact VRs.setCells (off + 1) h3 (k.set h2 off)
theorem PK {u : AV} {v : Value} : ∀ {cs : List AV} {vs : List Value} (i : Nat), (∀ b, oc b (aC (cs.set i u) (vs.set i v)) ≤ oc b (owns u v) + oc b (aC cs vs)) ∧ ∀ r, r ∈ aC (cs.set i u) (vs.set i v) → r ∈ owns u v ∨ r ∈ aC cs vs
 | [], vs, i => by simp [aC, nO]
 | c :: cs, [], i => by cases i <;> simp [aC, nO]
 | c :: cs, v' :: vs, i => by
  cases i with
  | zero =>
   simp only [List.set_cons_zero, aC]
   exact ⟨fun b => by simp only [ax]; omega, fun r hr => by simp only [List.mem_append] at hr ⊢; rcases hr with h | h <;> simp [h]⟩
  | succ i =>
   obtain ⟨h1, h2⟩ := PK (u := u) (v := v) (cs := cs) (vs := vs) i
   simp only [List.set_cons_succ, aC]
   exact ⟨fun b => by have := h1 b; simp only [ax]; omega, fun r hr => by
    simp only [List.mem_append] at hr ⊢
    rcases hr with h | h
    ·simp [h]
    ·rcases h2 r h with h | h <;> simp [h]⟩
theorem Ee : ∀ {us : List AV} {vs : List Value} {cs : List AV} {ws : List Value} (off : Nat), us.length = vs.length → (∀ b, oc b (aC (setCells cs off us) (putCells ws off vs)) ≤ oc b (aC us vs) + oc b (aC cs ws)) ∧ ∀ r, r ∈ aC (setCells cs off us) (putCells ws off vs) → r ∈ aC us vs ∨ r ∈ aC cs ws
 | [], vs, cs, ws, off, h => by
  have : vs = [] := List.length_eq_zero_iff.1 (by simpa using h.symm)
  subst this
  exact ⟨fun b => by simp only [Sh.setCells, putCells]; omega, fun r hr => .inr hr⟩
 | u :: us, [], cs, ws, off, h => by simp at h
 | u :: us, v :: vs, cs, ws, off, h => by
  obtain ⟨h1, h2⟩ := Ee (us := us) (vs := vs) (cs := cs.set off u) (ws := ws.set off v) (off + 1) (by simpa using h)
  obtain ⟨h3, h4⟩ := PK (u := u) (v := v) (cs := cs) (vs := ws) off
  simp only [Sh.setCells, putCells, aC]
  exact ⟨fun b => by have := h1 b; have := h3 b; simp only [ax]; omega, fun r hr => by
   simp only [List.mem_append]
   rcases h2 r hr with h | h
   ·simp [h]
   ·rcases h4 r h with h | h <;> simp [h]⟩
theorem VR.GV {g g1 : Gh} {w w1 : World} : ∀ {a : AV} {v : Value}, a.plain = true → VR g w a v → VR g1 w1 a v
 | .int _ _, _, _, h => h
 | .bool _, _, _, h => h
 | .str _, _, _, h => h
theorem VRs.GV {g g1 : Gh} {w w1 : World} : ∀ {l : List AV} (vs : List Value), l.all AV.plain = true → VRs g w l vs → VRs g1 w1 l vs
 | [], _, _, h => h
 | a :: l, vs, hp, h => by
  simp only [List.all_cons, Bool.and_eq_true] at hp
  simp only [VRs] at h ⊢
  obtain ⟨v, us, rfl, h1, h2⟩ := h
  exact ⟨v, us, rfl, VR.GV hp.1 h1, VRs.GV us hp.2 h2⟩
theorem VRss.GV {g g1 : Gh} {w w1 : World} : ∀ {l : List (List AV)}, (∀ e ∈ l, e.all AV.plain = true) → ∀ (vs : List Value), VRss g w l vs → VRss g1 w1 l vs
 | [], _, _, h => h
 | a :: l, hp, vs, h => by
  simp only [VRss] at h ⊢
  obtain ⟨p, q, rfl, h1, h2⟩ := h
  exact ⟨p, q, rfl, VRs.GV p (hp a (by simp)) h1, VRss.GV (fun e he => hp e (by simp [he])) q h2⟩
theorem VRs.len' {g : Gh} {w : World} : ∀ {l : List AV} {vs : List Value}, VRs g w l vs → vs.length = l.length
 | [], vs, h => by simp only [VRs] at h; subst h; rfl
 | a :: l, vs, h => by
  simp only [VRs] at h
  obtain ⟨v, us, rfl, _, h2⟩ := h
  simp [VRs.len' h2]
theorem VRs.setAt {g : Gh} {w : World} {a : AV} {v : Value} (ha : VR g w a v) : ∀ {l : List AV} {vs : List Value} (j : Nat), VRs g w l vs → VRs g w (l.set j a) (vs.set j v)
 | [], vs, j, h => by simp only [VRs] at h; subst h; simp [VRs]
 | b :: l, vs, 0, h => by
  simp only [VRs] at h
  obtain ⟨u, us, rfl, h1, h2⟩ := h
  simp only [List.set_cons_zero, VRs]
  exact ⟨_, _, rfl, ha, h2⟩
 | b :: l, vs, j + 1, h => by
  simp only [VRs] at h
  obtain ⟨u, us, rfl, h1, h2⟩ := h
  simp only [List.set_cons_succ, VRs]
  exact ⟨_, _, rfl, h1, VRs.setAt ha j h2⟩
theorem VRss.setCell {g : Gh} {w : World} {sz : Nat} {a : AV} {v : Value} : ∀ {els : List (List AV)} {vs : List Value} {off : Nat} {e : List AV}, (∀ e ∈ els, e.length = sz) → VRss g w els vs → els[off / sz]? = some e → off % sz < e.length → VR g w a v → VRss g w (els.set (off / sz) (e.set (off % sz) a)) (vs.set off v)
 | [], _, _, _, _, _, h, _, _ => by simp at h
 | b :: els, vs, off, e, hl, h, he, hj, ha => by
  simp only [VRss] at h
  obtain ⟨p, q, rfl, h1, h2⟩ := h
  have hb := hl b (by simp)
  have hp := VRs.len' h1
  have h0 : 0 < sz := by
   have := hl e (List.mem_of_getElem? he)
   omega
  by_cases hlt : off < sz
  ·have e1 : off / sz = 0 := Nat.div_eq_of_lt hlt
   have e2 : off % sz = off := Nat.mod_eq_of_lt hlt
   rw [e1] at he ⊢
   rw [e2] at hj ⊢
   simp at he
   subst he
   rw [List.set_cons_zero, List.set_append_left _ _ (by omega)]
   simp only [VRss]
   exact ⟨_, _, rfl, VRs.setAt ha off h1, h2⟩
  ·have e1 : off / sz = (off - sz) / sz + 1 := by
    rw [Nat.div_eq_sub_div h0 (by omega)]
   have e2 : off % sz = (off - sz) % sz := by rw [Nat.mod_eq_sub_mod (by omega)]
   rw [e1] at he ⊢
   rw [e2] at hj ⊢
   simp at he
   have ih := VRss.setCell (fun e he => hl e (by simp [he])) h2 he hj ha
   rw [List.set_cons_succ, List.set_append_right _ _ (by omega), hp, hb]
   simp only [VRss]
   exact ⟨_, _, rfl, h1, ih⟩
theorem Jq {s : St} {x : AX} {p q : Operand} {t : TypeId} {id off : Nat} {ob ob' : AObj} {v : Value} (h : o.op = .store t p q) (hn : (c.P.info? t).map (·.size) = some 1) (hx : bA x p = true) (hv : x.ev s = .ptr (some (id, off))) (hob : s.heap[id]? = some ob) (hdd : ob.dead = false)
 (hfit : ∀ (g : Gh) (w : World) (b : Nat), ObjR g w b ob → ∃ arr tt, CellsAt w b arr tt ∧ off < arr.size ∧ True)
 (hset : ∀ (g : Gh) (w w' : World) (b : Nat) (arr arr' : Array Value) (tt : TypeId), ObjR g w b ob → CellsAt w b arr tt → CellsAt w' b arr' tt → arr'.toList = arr.toList.set off v → (∀ fz, w.heap[b]? = some (.cells arr tt fz) → w'.heap[b]? = some (.cells arr' tt fz)) → ObjR g w' b ob')
 (hO : ∀ w b, jo w b ob = []) (hO' : ∀ w b, jo w b ob' = []) (hone : v.oneCell' = true) (F : Nat → Prop) (g : Gh) (a : Act) (w : World) (B : List Nat) (hpre : B <+: g.obj) (hs : SimX F c.nt g s a w []) (hval : a.eval q = v) (ro : Option Nat) (dn : Nat) (next : Act → World → Prop) (Q : Exit → Act → World → Prop)
 (hnext : ∀ v' g' w', VR g' w' .undef v' → B <+: g'.obj → SimX F c.nt g' ⟨s.slots, s.heap.set id ob'⟩ a w' (owns .undef v') → Step F g w g' w' → next (a.put o.dst v') w') : o.wpIn (fw ro) dn c.P a w next Q := by
 have hp := aj hs hx
 rw [hv] at hp
 simp only [VR] at hp
 obtain ⟨b, hp, hb⟩ := hp
 have hobj := aY hs.core.heap id b _ hob hb
 obtain ⟨arr, tt, hw, hlt, _⟩ := hfit g w b hobj
 have hst := Bc c.P b off tt [v] 0 arr w hw (by simp; omega) (by simpa using hone)
 simp only [Nat.add_zero] at hst
 have hrun : (execOp a.eval o).run c.P w = .ok .skip (w.setRow b (arr.toList.take off ++ [v] ++ arr.toList.drop (off + 1)).toArray) := by
  have hcs : v.cells = #[v] := cells_one hone
  simp only [execOp, h, Instr.storeAt, hp, hval, Instr.sureAddr, Sem.run_bind, Sem.run_pure, Result.andThen, storeVar, hcs, iD hn]
  rw [if_neg (by simp)]
  simp only [Sem.run_bind, hst, Sem.run_pure, Result.andThen]
  rfl
 have hw' := hw.setRow (new := (arr.toList.take off ++ [v] ++ arr.toList.drop (off + 1)).toArray) (by simp; omega)
 have heq : (arr.toList.take off ++ [v] ++ arr.toList.drop (off + 1)).toArray.toList = arr.toList.set off v := by
  simp only [List.append_assoc, List.singleton_append]
  rw [List.set_eq_take_append_cons_drop, if_pos (by simpa using hlt)]
 have hc := hs.core
 rw [List.nil_append] at hc
 obtain ⟨e1, e2, e3⟩ := hc.NE (ob' := ob') (os0 := []) (os1 := []) (os' := af s 0 a.tmps.toList) hob hb hdd (fun k hk => setRow_other w b k _ hk) (by rw [hw.bsz, hw'.bsz]; simp; omega) (by simp) rfl rfl rfl (hO _ _) (hO' _ _)
  (fun _ => hset g w _ b arr _ tt hobj hw hw' heq (fun fz hf => setRow_heap w b arr _ tt fz hf)) (fun x => Nat.le_refl _) (fun r hr => hr)
 refine K5 hrun (hnext undef g _ (by simp [VR]) hpre ?_ e2)
 refine ⟨hs.size, fun t' => VR.ext e1 _ _ (hs.slots t'), ?_⟩
 rw [bC, yu]
 exact e3
theorem Xh {n : Nat} {x y : AX} {p q : Operand} {t : TypeId} (h : o.op = .store t p q) (hn : (c.P.info? t).map (·.size) = some n) (hx : bA x p = true) (hy : bA y q = true) : bK c (.store n x y) o := by
 intro s R k r hr
 simp only [AOp.run] at hr
 split at hr
 ·rename_i id off hv
  split at hr
  ·rename_i ot cs hob
   obtain ⟨h1, h2⟩ | ⟨_, h2⟩ := ae hr
   case inr => exact absurd h2 (by simp)
   simp only [Bool.and_eq_true, decide_eq_true_eq] at h1
   obtain ⟨⟨h1, h1b⟩, h1c⟩ := h1
   refine ⟨_, _, h2, fun F g a w B hB hpre hs ro dn next Q hnext => ?_⟩
   have hp := aj hs hx
   rw [hv] at hp
   simp only [VR] at hp
   obtain ⟨b, hp, hbi⟩ := hp
   obtain ⟨h3, h4⟩ := AX.ok hs hy
   obtain ⟨h5, h6, h7⟩ := Ed h3 h1c
   have hst : (y.st s).heap = s.heap := by cases y <;> rfl
   have hobj := aY hs.core.heap id b _ hob hbi
   simp only [ObjR] at hobj
   obtain ⟨arr, hw, hvs⟩ := hobj
   have hul := h5.length
   have hvl := hvs.length
   simp only [Array.length_toList] at hul hvl
   have hrun : (execOp a.eval o).run c.P w = .ok .skip (w.setRow b (putCells arr.toList off (a.eval q).cells.toList).toArray) := by
    have hst := run_storeCells_at c.P b off ot (a.eval q).cells.toList 0 arr w hw (by simp; omega) h6
    simp only [Nat.add_zero] at hst
    rw [IC _ _ _ (by simp; omega)]
    have hne : ¬ (a.eval q).cells.size ≠ n := by omega
    simp only [execOp, h, Instr.storeAt, hp, Instr.sureAddr, Sem.run_bind, Sem.run_pure, Result.andThen, storeVar, iD hn, if_neg hne, hst]
   have hw' := setRow_heap w b arr (putCells arr.toList off (a.eval q).cells.toList).toArray ot _ hw
   have hc := h4.core
   rw [hst] at hc
   obtain ⟨k1, k2⟩ := Ee (us := cellsOf (y.ev s)) (vs := (a.eval q).cells.toList) (cs := cs) (ws := arr.toList) off (by simpa using hul)
   obtain ⟨e1, e2, e3⟩ := hc.setObj (os' := af (y.st s) 0 a.tmps.toList) (cs' := setCells cs off (cellsOf (y.ev s))) hob hbi hw hw' (by simp; rw [IC _ _ _ (by simp; omega)]; simp; omega) (fun k hk => setRow_other w b k _ hk) (by simp) rfl rfl rfl (by simpa using h5.setCells off hvs)
    (fun x => by have := k1 x; rw [h7] at this; simp only [ax, nO, List.toList_toArray] at this ⊢; omega) (fun r hr => by
     rcases hr with hr | hr
     ·exact .inl (List.mem_append_right _ hr)
     ·rcases k2 r hr with h | h
      ·rw [h7] at h; exact .inl (List.mem_append_left _ (List.mem_append_left _ h))
      ·exact .inr h)
   refine K5 hrun (hnext undef g _ (by simp [VR]) hpre ?_ e2)
   refine ⟨h4.size, fun t' => VR.ext e1 _ _ (h4.slots t'), ?_⟩
   rw [bC]
   rw [yu]
   exact e3
  ·rename_i ot xs hob
   split at hr
   ·rename_i y0 hy0
    obtain ⟨hn1, hr2⟩ | ⟨_, hr2⟩ := ae hr
    case inr => exact absurd hr2 (by simp)
    obtain ⟨hlt, hr3⟩ | ⟨_, hr3⟩ := ae hr2
    case inr => exact absurd hr3 (by simp)
    have hn1 := Nat.eq_of_beq_eq_true hn1
    simp only [decide_eq_true_eq] at hlt
    subst hn1
    refine ⟨_, _, hr3, fun F g a w B hB hpre hs ro dn next Q hnext => ?_⟩
    have hq := aj hs hy
    rw [hy0] at hq
    simp only [VR] at hq
    obtain ⟨s1, hq, hs1⟩ := hq
    have hval : a.eval q = .string ⟨y0.toArray⟩ := by rw [hq, ← hs1]
    exact Jq (ob' := .rowS ot (xs.set off y0)) h hn hx hv hob rfl (fun g w b hob' => by
     simp only [ObjR] at hob'
     obtain ⟨arr0, rest, h1, h2⟩ := hob'
     exact ⟨arr0, ot, .plain h1, by have := congrArg List.length h2; simp at this; omega, trivial⟩) (fun g w w' b arr arr' tt hob' hw hw' heq hfz => by
     simp only [ObjR] at hob' ⊢
     obtain ⟨arr0, rest, h1, h2⟩ := hob'
     obtain ⟨rfl, rfl⟩ := hw.uniq (.plain h1)
     exact ⟨arr', rest, hfz _ h1, by rw [heq, h2, List.set_append_left _ _ (by simpa using hlt), List.map_set]⟩) (fun _ _ => rfl) (fun _ _ => rfl) rfl F g a w B hpre hs hval ro dn next Q hnext
   ·exact absurd hr (by simp)
  ·rename_i ot kd xs hob
   split at hr
   ·rename_i kv y0 hy0
    obtain ⟨hn1, hr2⟩ | ⟨_, hr2⟩ := ae hr
    case inr => exact absurd hr2 (by simp)
    obtain ⟨hlt, hr3⟩ | ⟨_, hr3⟩ := ae hr2
    case inr => exact absurd hr3 (by simp)
    simp only [Bool.and_eq_true, decide_eq_true_eq] at hn1 hlt
    obtain ⟨hn1, rfl⟩ := hn1
    have hn1 := Nat.eq_of_beq_eq_true hn1
    subst hn1
    refine ⟨_, _, hr3, fun F g a w B hB hpre hs ro dn next Q hnext => ?_⟩
    have hval := aj hs hy
    rw [hy0] at hval
    simp only [VR] at hval
    exact Jq (ob' := .rowI ot kv (xs.set off y0)) h hn hx hv hob rfl (fun g w b hob' => by
     simp only [ObjR] at hob'
     obtain ⟨arr0, rest, h1, h2⟩ := hob'
     exact ⟨arr0, ot, .plain h1, by have := congrArg List.length h2; simp at this; omega, trivial⟩) (fun g w w' b arr arr' tt hob' hw hw' heq hfz => by
     simp only [ObjR] at hob' ⊢
     obtain ⟨arr0, rest, h1, h2⟩ := hob'
     obtain ⟨rfl, rfl⟩ := hw.uniq (.plain h1)
     exact ⟨arr', rest, hfz _ h1, by rw [heq, h2, List.set_append_left _ _ (by simpa using hlt), List.map_set]⟩) (fun _ _ => rfl) (fun _ _ => rfl) rfl F g a w B hpre hs hval ro dn next Q hnext
   ·exact absurd hr (by simp)
  ·rename_i kd xs hob
   split at hr
   ·rename_i kv y0 hy0
    obtain ⟨hn1, hr2⟩ | ⟨_, hr2⟩ := ae hr
    case inr => exact absurd hr2 (by simp)
    obtain ⟨hlt, hr3⟩ | ⟨_, hr3⟩ := ae hr2
    case inr => exact absurd hr3 (by simp)
    simp only [Bool.and_eq_true, decide_eq_true_eq] at hn1 hlt
    obtain ⟨hn1, rfl⟩ := hn1
    have hn1 := Nat.eq_of_beq_eq_true hn1
    subst hn1
    have hne : xs ≠ [] := by intro e0; subst e0; simp at hlt
    have hdd : (AObj.rowN kv xs).dead = false := by cases xs with | nil => exact absurd rfl hne | cons a b => rfl
    refine ⟨_, _, hr3, fun F g a w B hB hpre hs ro dn next Q hnext => ?_⟩
    have hval := aj hs hy
    rw [hy0] at hval
    simp only [VR] at hval
    exact Jq (ob' := .rowN kv (xs.set off y0)) h hn hx hv hob hdd (fun g w b hob' => by
     simp only [ObjR] at hob'
     obtain ⟨arr0, ot, rest, h1, h2⟩ := hob'.resolve_left hne
     exact ⟨arr0, ot, h1, by have := congrArg List.length h2; simp at this; omega, trivial⟩) (fun g w w' b arr arr' tt hob' hw hw' heq hfz => by
     simp only [ObjR] at hob' ⊢
     obtain ⟨arr0, ot, rest, h1, h2⟩ := hob'.resolve_left hne
     obtain ⟨rfl, rfl⟩ := hw.uniq h1
     exact .inr ⟨arr', _, rest, hw', by rw [heq, h2, List.set_append_left _ _ (by simpa using hlt), List.map_set]⟩) (fun _ _ => rfl) (fun _ _ => rfl) rfl F g a w B hpre hs hval ro dn next Q hnext
   ·exact absurd hr (by simp)
  ·rename_i sz els hob
   obtain ⟨hn1, hr2⟩ | ⟨_, hr2⟩ := ae hr
   case inr => exact absurd hr2 (by simp)
   obtain ⟨e, he, hr3⟩ := Option.bind_eq_some_iff.1 hr2
   obtain ⟨hlt, hr4⟩ | ⟨_, hr4⟩ := ae hr3
   case inr => exact absurd hr4 (by simp)
   simp only [Bool.and_eq_true, decide_eq_true_eq] at hn1 hlt
   obtain ⟨hn1, hpl⟩ := hn1
   have hn1 := Nat.eq_of_beq_eq_true hn1
   subst hn1
   have hne : els ≠ [] := by intro e0; subst e0; simp at he
   refine ⟨_, _, hr4, fun F g a w B hB hpre hs ro dn next Q hnext => ?_⟩
   have hval := aj hs hy
   have hdd : (AObj.rowC sz els).dead = false := by cases els with | nil => exact absurd rfl hne | cons a b => rfl
   have hilt := (List.getElem?_eq_some_iff.1 he).1
   have fit : ∀ (g : Gh) (w : World) (b : Nat), ObjR g w b (.rowC sz els) → (∀ e ∈ els, e.length = sz ∧ e.all AV.plain = true) ∧ ∃ arr t vs rest, CellsAt w b arr t ∧ arr.toList = vs ++ rest ∧ VRss g w els vs := fun g w b h => by
    simp only [ObjR] at h
    exact h.resolve_left hne
   have hez : ∀ (g : Gh) (w : World) (b : Nat), ObjR g w b (.rowC sz els) → off < els.length * sz := fun g w b h => by
    have h1 := ((fit g w b h).1 e (List.mem_of_getElem? he)).1
    have h2 : off / sz * sz + off % sz = off := by rw [Nat.mul_comm]; exact Nat.div_add_mod off sz
    have h3 : (off / sz + 1) * sz ≤ els.length * sz := Nat.mul_le_mul_right sz hilt
    rw [Nat.succ_mul] at h3
    omega
   have hone : (a.eval q).oneCell' = true := by
    cases hyv : y.ev s with
    | int k z => rw [hyv] at hval; simp only [VR] at hval; rw [hval]; rfl
    | bool z => rw [hyv] at hval; simp only [VR] at hval; rw [hval]; rfl
    | str z => rw [hyv] at hval; simp only [VR] at hval; obtain ⟨_, hval, _⟩ := hval; rw [hval]; rfl
    | _ => rw [hyv] at hpl; simp [AV.plain] at hpl
   exact Jq (ob' := .rowC sz (els.set (off / sz) (e.set (off % sz) (y.ev s)))) h hn hx hv hob hdd (fun g w b hob' => by
    obtain ⟨h1, arr, t, vs, rest, h2, h3, h4⟩ := fit g w b hob'
    have h5 := h4.length (fun e he => (h1 e he).1)
    have h6 := hez g w b hob'
    exact ⟨arr, t, h2, by have := congrArg List.length h3; simp at this; omega, trivial⟩) (fun g' w1 w2 b arr arr' tt hob' hw hw' heq _ => by
    obtain ⟨h1, arr0, t, vs, rest, h2, h3, h4⟩ := fit g' w1 b hob'
    obtain ⟨rfl, rfl⟩ := hw.uniq h2
    have h5 := h4.length (fun e he => (h1 e he).1)
    have h6 := hez g' w1 b hob'
    simp only [ObjR]
    refine .inr ⟨fun e' he' => ?_, arr', _, vs.set off (a.eval q), rest, hw', by rw [heq, h3, List.set_append_left _ _ (by omega)], ?_⟩
    ·rcases List.mem_or_eq_of_mem_set he' with he' | he'
     ·exact h1 e' he'
     ·subst he'
      have h7 := h1 e (List.mem_of_getElem? he)
      refine ⟨by rw [List.length_set]; exact h7.1, ?_⟩
      rw [List.all_eq_true]
      intro z hz
      rcases List.mem_or_eq_of_mem_set hz with hz | hz
      ·exact List.all_eq_true.1 h7.2 z hz
      ·rw [hz]; exact hpl
    ·refine VRss.setCell (sz := sz) (fun e he => (h1 e he).1) (VRss.GV (fun e he => (h1 e he).2) _ h4) he hlt ?_
     exact VR.GV hpl hval) (fun _ _ => rfl) (fun _ _ => rfl) hone F g a w B hpre hs rfl ro dn next Q hnext
  ·exact absurd hr (by simp)
 ·exact absurd hr (by simp)
end Go.Sh
namespace Go.Sh
open Go.RowKit
set_option linter.unusedSimpArgs false
set_option linter.unusedVariables false
def uD (w : World) (H : List AObj) (bs : List Nat) (i : Nat) : List Rec := match H[i]?, bs[i]? with
 | some o, some b => jo w b o
 | _, _ => []
theorem IE (w : World) : ∀ (H : List AObj) (bs : List Nat), H.length = bs.length → aU w H bs = (List.range H.length).flatMap (uD w H bs)
 | [], bs, h => by cases bs <;> simp at h; simp [aU]
 | o :: H, [], h => by simp at h
 | o :: H, b :: bs, h => by
  have ih := IE w H bs (by simpa using h)
  rw [aU, ih, List.length_cons, List.range_succ_eq_map, List.flatMap_cons, List.flatMap_map]
  rfl
theorem DY {g : Gh} {w : World} : ∀ {H : List AObj} {bs : List Nat}, ObjsR g w H bs ↔ H.length = bs.length ∧ ∀ (i b : Nat) (o : AObj), H[i]? = some o → bs[i]? = some b → ObjR g w b o
 | [], bs => by
  simp only [ObjsR]
  constructor
  ·rintro rfl; exact ⟨rfl, fun i b o h => by simp at h⟩
  ·rintro ⟨h, _⟩; exact List.length_eq_zero_iff.1 (by simpa using h.symm)
 | o :: H, bs => by
  simp only [ObjsR]
  constructor
  ·rintro ⟨b, cs, rfl, h1, h2⟩
   obtain ⟨h3, h4⟩ := DY.1 h2
   refine ⟨by simp [h3], fun i b' o' hi hb => ?_⟩
   cases i with
   | zero => simp at hi hb; subst hi; subst hb; exact h1
   | succ i => exact h4 i b' o' (by simpa using hi) (by simpa using hb)
  ·rintro ⟨h, h'⟩
   cases bs with
   | nil => simp at h
   | cons b cs =>
    exact ⟨b, cs, rfl, h' 0 b o rfl rfl, DY.2 ⟨by simpa using h, fun i b' o' hi hb => h' (i + 1) b' o' (by simpa using hi) (by simpa using hb)⟩⟩
def Ef (H : List AObj) (bs : List Nat) (i : Nat) : List Nat := match H[i]?, bs[i]? with
 | some o, some b => bif o.dead then [] else [b]
 | _, _ => []
theorem IG : ∀ (H : List AObj) (bs : List Nat), H.length = bs.length → lives H bs = (List.range H.length).flatMap (Ef H bs)
 | [], bs, h => by cases bs <;> simp at h; simp [lives]
 | o :: H, [], h => by simp at h
 | o :: H, b :: bs, h => by
  have ih := IG H bs (by simpa using h)
  rw [lives, ih, List.length_cons, List.range_succ_eq_map, List.flatMap_cons, List.flatMap_map]
  have e : Ef (o :: H) (b :: bs) 0 = bif o.dead then [] else [b] := rfl
  rw [e]
  cases o.dead <;> rfl
theorem Jr {H : List AObj} {bs : List Nat} (h : H.length = bs.length) {b : Nat} : b ∈ lives H bs ↔ ∃ (i : Nat) (o : AObj), H[i]? = some o ∧ bs[i]? = some b ∧ o.dead = false := by
 refine ⟨fun hb => ?_, fun ⟨i, o, h1, h2, h3⟩ => mf h1 h2 h3⟩
 rw [IG H bs h, List.mem_flatMap] at hb
 obtain ⟨i, _, hb⟩ := hb
 unfold Ef at hb
 split at hb
 ·rename_i o c h1 h2
  cases hd : o.dead with
  | true => rw [hd] at hb; simp at hb
  | false =>
   rw [hd] at hb
   simp at hb
   subst hb
   exact ⟨i, o, h1, h2, hd⟩
 ·simp at hb
theorem VI {H : List AObj} {bs : List Nat} {i b : Nat} (hb : b ∈ Ef H bs i) : ∃ o : AObj, H[i]? = some o ∧ bs[i]? = some b ∧ o.dead = false := by
 unfold Ef at hb
 split at hb
 ·rename_i o c h1 h2
  cases hd : o.dead with
  | true => rw [hd] at hb; simp at hb
  | false =>
   rw [hd] at hb
   simp at hb
   subst hb
   exact ⟨o, h1, h2, hd⟩
 ·simp at hb
theorem Eg {H : List AObj} {bs : List Nat} {i b : Nat} {o : AObj} (h1 : H[i]? = some o) (h2 : bs[i]? = some b) (hd : o.dead = false) : b ∈ Ef H bs i := by
 unfold Ef
 rw [h1, h2]
 simp [hd]
theorem DZ {f : Nat → Option Nat} {o o' : AObj} (h : si f o = some o') : o'.dead = o.dead := by
 cases o with
 | cells t cs =>
  simp only [si] at h
  obtain ⟨_, _, h2⟩ := Option.bind_eq_some_iff.1 h
  injection h2 with h2; subst h2; rfl
 | map es =>
  simp only [si] at h
  obtain ⟨_, _, h2⟩ := Option.bind_eq_some_iff.1 h
  injection h2 with h2; subst h2; rfl
 | loop key cs =>
  simp only [si] at h
  obtain ⟨_, _, h2⟩ := Option.bind_eq_some_iff.1 h
  injection h2 with h2; subst h2; rfl
 | _ => simp only [si] at h; injection h with h; subst h; rfl
def claims (w : World) (H : List AObj) (bs : List Nat) (i : Nat) : List Nat := (uD w H bs i).map (·.1) ++ Ef H bs i
theorem aah (b : Nat) (l : List Rec) : oc b l = (l.map (·.1)).count b := by
 simp [oc, List.count, List.countP_map, Function.comp_def]
theorem BV (b : Nat) {f g : Nat → List Nat} : ∀ (l : List Nat), (l.flatMap fun i => f i ++ g i).count b = (l.flatMap f).count b + (l.flatMap g).count b
 | [] => by simp
 | i :: l => by
  simp only [List.flatMap_cons, List.count_append, BV b l]
  omega
theorem wM (w : World) {H : List AObj} {bs : List Nat} (h : H.length = bs.length) (b : Nat) : oc b (aU w H bs) + (lives H bs).count b = ((List.range H.length).flatMap (claims w H bs)).count b := by
 rw [aah, IE w H bs h, List.map_flatMap]
 show _ = ((List.range H.length).flatMap fun i => (uD w H bs i).map (·.1) ++ Ef H bs i).count b
 rw [BV]
 congr 1
 exact congrArg (List.count b) (IG H bs h)
theorem N9 {w : World} {H : List AObj} {bs : List Nat} {i : Nat} {r : Rec} (h : r ∈ uD w H bs i) : r.1 ∈ claims w H bs i := List.mem_append_left _ (List.mem_map.2 ⟨r, h, rfl⟩)
theorem qA {w : World} {H : List AObj} {bs : List Nat} (h : H.length = bs.length) {r : Rec} : r ∈ aU w H bs ↔ ∃ i, i < H.length ∧ r ∈ uD w H bs i := by
 rw [IE w H bs h, List.mem_flatMap]
 simp
theorem Oa {ids : List Nat} {n : Nat} (hn : ids.Nodup) (hl : ∀ i ∈ ids, i < n) : (List.range n).Perm (ids ++ (List.range n).filter fun i => !ids.contains i) := by
 refine ((List.filter_append_perm (fun i => ids.contains i) (List.range n)).symm).trans (List.Perm.append_right _ ?_)
 refine List.perm_iff_count.2 fun a => ?_
 have h1 : ((List.range n).filter fun i => ids.contains i).Nodup := List.nodup_range.filter _
 rw [h1.count, hn.count]
 by_cases ha : a ∈ ids
 ·simp [ha, hl a ha]
 ·simp [ha]
theorem range_map_get : ∀ (ids : List Nat), ids = (List.range ids.length).map fun p => ids.getD p 0
 | [] => by simp
 | i :: ids => by
  rw [List.length_cons, List.range_succ_eq_map, List.map_cons, List.map_map]
  have ih := range_map_get ids
  simp only [List.getD_cons_zero, Function.comp_def, List.getD_cons_succ]
  congr 1
mutual
theorem VR.ren {f : Nat → Option Nat} {g g1 : Gh} {w : World} (hl : ∀ b, g.len b ≤ g1.len b) (hf : ∀ (i j b : Nat), f i = some j → g.obj[i]? = some b → g1.obj[j]? = some b) (hnp : ∀ (a : AV) (v : Value), vG a = true → VR g w a v → VR g1 w a v) :
 ∀ (a a' : AV) (v : Value), Sh.ren f a = some a' → VR g w a v → VR g1 w a' v ∧ owns a' v = owns a v
 | .ptr (some (id, off)), a', v, h, hv => by
  simp only [Sh.ren] at h
  obtain ⟨j, h1, h2⟩ := Option.bind_eq_some_iff.1 h
  injection h2 with h2
  subst h2
  simp only [VR] at hv ⊢
  obtain ⟨b, rfl, hb⟩ := hv
  exact ⟨⟨b, rfl, hf _ _ _ h1 hb⟩, rfl⟩
 | .agg cs, a', v, h, hv => by
  simp only [Sh.ren] at h
  obtain ⟨cs', h1, h2⟩ := Option.bind_eq_some_iff.1 h
  injection h2 with h2
  subst h2
  simp only [VR] at hv ⊢
  obtain ⟨vs, rfl, hvs⟩ := hv
  obtain ⟨h3, h4⟩ := VRs.ren hl hf hnp cs cs' _ h1 hvs
  exact ⟨⟨vs, rfl, h3⟩, by simp only [owns, h4]⟩
 | .tuple cs, a', v, h, hv => by
  simp only [Sh.ren] at h
  obtain ⟨cs', h1, h2⟩ := Option.bind_eq_some_iff.1 h
  injection h2 with h2
  subst h2
  simp only [VR] at hv ⊢
  obtain ⟨vs, rfl, hvs⟩ := hv
  obtain ⟨h3, h4⟩ := VRs.ren hl hf hnp cs cs' _ h1 hvs
  exact ⟨⟨vs, rfl, h3⟩, by simp only [owns, h4]⟩
 | .func fn a b, a', v, h, hv => by
  simp only [Sh.ren] at h
  obtain ⟨cs', h1, h2⟩ := Option.bind_eq_some_iff.1 h
  obtain ⟨ds', h3, h4⟩ := Option.bind_eq_some_iff.1 h2
  injection h4 with h4
  subst h4
  simp only [VR] at hv ⊢
  obtain ⟨xs, ys, rfl, hxs, hys⟩ := hv
  exact ⟨⟨xs, ys, rfl, (VRs.ren hl hf hnp a cs' _ h1 hxs).1, (VRs.ren hl hf hnp b ds' _ h3 hys).1⟩, rfl⟩
 | .iface t x, a', v, h, hv => by
  simp only [Sh.ren] at h
  obtain ⟨x', h1, h2⟩ := Option.bind_eq_some_iff.1 h
  injection h2 with h2
  subst h2
  simp only [VR] at hv ⊢
  obtain ⟨y, rfl, hy⟩ := hv
  exact ⟨⟨y, rfl, (VR.ren hl hf hnp x x' y h1 hy).1⟩, rfl⟩
 | .undef, a', v, h, hv => by simp only [Sh.ren] at h; injection h with h; subst h; exact ⟨hnp _ _ rfl hv, rfl⟩
 | .int .., a', v, h, hv => by simp only [Sh.ren] at h; injection h with h; subst h; exact ⟨hnp _ _ rfl hv, rfl⟩
 | .bool .., a', v, h, hv => by simp only [Sh.ren] at h; injection h with h; subst h; exact ⟨hnp _ _ rfl hv, rfl⟩
 | .str .., a', v, h, hv => by simp only [Sh.ren] at h; injection h with h; subst h; exact ⟨hnp _ _ rfl hv, rfl⟩
 | .ints .., a', v, h, hv => by simp only [Sh.ren] at h; injection h with h; subst h; exact ⟨hnp _ _ rfl hv, rfl⟩
 | .strs .., a', v, h, hv => by simp only [Sh.ren] at h; injection h with h; subst h; exact ⟨hnp _ _ rfl hv, rfl⟩
 | .sl .., a', v, h, hv => by simp only [Sh.ren] at h; injection h with h; subst h; exact ⟨hnp _ _ rfl hv, rfl⟩
 | .eptr .., a', v, h, hv => by simp only [Sh.ren] at h; injection h with h; subst h; exact ⟨hnp _ _ rfl hv, rfl⟩
 | .ptr none, a', v, h, hv => by simp only [Sh.ren] at h; injection h with h; subst h; exact ⟨hnp _ _ rfl hv, rfl⟩
 | .mut id off m sz, a', v, h, hv => by
  simp only [Sh.ren] at h
  obtain ⟨j, h1, h2⟩ := Option.bind_eq_some_iff.1 h
  injection h2 with h2
  subst h2
  simp only [VR] at hv ⊢
  obtain ⟨ao, b, c, rfl, ha, hm, hb⟩ := hv
  exact ⟨⟨ao, b, c, rfl, ha, hm, hf _ _ _ h1 hb⟩, by cases ao <;> rfl⟩
 | .map none, a', v, h, hv => by simp only [Sh.ren] at h; injection h with h; subst h; exact ⟨hnp _ _ rfl hv, rfl⟩
 | .mo id m tot sz, a', v, h, hv => by
  simp only [Sh.ren] at h
  obtain ⟨j, h1, h2⟩ := Option.bind_eq_some_iff.1 h
  injection h2 with h2
  subst h2
  simp only [VR] at hv ⊢
  obtain ⟨ao, b, c, rfl, ha, hm, hb, h5, h6⟩ := hv
  exact ⟨⟨ao, b, c, rfl, ha, hm, hf _ _ _ h1 hb, h5, h6⟩, by cases ao <;> rfl⟩
 | .yld id, a', v, h, hv => by
  simp only [Sh.ren] at h
  obtain ⟨j, h1, h2⟩ := Option.bind_eq_some_iff.1 h
  injection h2 with h2
  subst h2
  simp only [VR] at hv ⊢
  obtain ⟨b, rfl, hb⟩ := hv
  exact ⟨⟨b, rfl, hf _ _ _ h1 hb⟩, rfl⟩
 | .map (some id), a', v, h, hv => by
  simp only [Sh.ren] at h
  obtain ⟨j, h1, h2⟩ := Option.bind_eq_some_iff.1 h
  injection h2 with h2
  subst h2
  simp only [VR] at hv ⊢
  obtain ⟨b, rfl, hb⟩ := hv
  exact ⟨⟨b, rfl, hf _ _ _ h1 hb⟩, rfl⟩
 | .nilFunc, a', v, h, hv => by simp only [Sh.ren] at h; injection h with h; subst h; exact ⟨hnp _ _ rfl hv, rfl⟩
 | .nilIface, a', v, h, hv => by simp only [Sh.ren] at h; injection h with h; subst h; exact ⟨hnp _ _ rfl hv, rfl⟩
theorem VRs.ren {f : Nat → Option Nat} {g g1 : Gh} {w : World} (hl : ∀ b, g.len b ≤ g1.len b) (hf : ∀ (i j b : Nat), f i = some j → g.obj[i]? = some b → g1.obj[j]? = some b) (hnp : ∀ (a : AV) (v : Value), vG a = true → VR g w a v → VR g1 w a v) :
 ∀ (cs cs' : List AV) (vs : List Value), uC f cs = some cs' → VRs g w cs vs → VRs g1 w cs' vs ∧ aC cs' vs = aC cs vs
 | [], cs', vs, h, hv => by simp only [uC] at h; injection h with h; subst h; exact ⟨hv, rfl⟩
 | c :: cs, cs', vs, h, hv => by
  simp only [uC] at h
  obtain ⟨c', h1, h2⟩ := Option.bind_eq_some_iff.1 h
  obtain ⟨ds', h3, h4⟩ := Option.bind_eq_some_iff.1 h2
  injection h4 with h4
  subst h4
  simp only [VRs] at hv ⊢
  obtain ⟨v, us, rfl, hv1, hv2⟩ := hv
  obtain ⟨h5, h6⟩ := VR.ren hl hf hnp c c' v h1 hv1
  obtain ⟨h7, h8⟩ := VRs.ren hl hf hnp cs ds' us h3 hv2
  exact ⟨⟨v, us, rfl, h5, h7⟩, by simp only [aC, h6, h8]⟩
end
theorem Reads.len {g g1 : Gh} {w : World} (hl : ∀ b, g.len b ≤ g1.len b) {a : Addr} {vs : List Value} (h : Reads g w a vs) : Reads g1 w a vs := ⟨h.1, Nat.le_trans h.2.1 (hl _), h.2.2⟩
theorem Row.len {g g1 : Gh} {w : World} (hl : ∀ b, g.len b ≤ g1.len b) {own : Bool} {a : Option Addr} {n c sz : Nat} {vs : List Value} (h : Row g w own a n c sz vs) : Row g1 w own a n c sz vs :=
 ⟨h.1, h.2.1, h.2.2.1, fun hp => let ⟨ad, h1, h2⟩ := h.2.2.2.1 hp; ⟨ad, h1, h2.len hl⟩, h.2.2.2.2⟩
mutual
theorem oO {g g1 : Gh} {w : World} (hl : ∀ b, g.len b ≤ g1.len b) : ∀ (a : AV) (v : Value), vG a = true → VR g w a v → VR g1 w a v
 | .undef, _, _, h => by simp only [VR]
 | .int .., _, _, h => by simpa only [VR] using h
 | .bool .., _, _, h => by simpa only [VR] using h
 | .str .., _, _, h => by simpa only [VR] using h
 | .ints .., _, _, h => by
  simp only [VR] at h ⊢
  obtain ⟨a, n, c, h1, h2⟩ := h
  exact ⟨a, n, c, h1, h2.len hl⟩
 | .strs .., _, _, h => by
  simp only [VR] at h ⊢
  obtain ⟨a, n, c, h1, h2⟩ := h
  exact ⟨a, n, c, h1, h2.len hl⟩
 | .sl own sz els, _, _, h => by
  simp only [VR] at h ⊢
  obtain ⟨a, n, c, vs, h1, h2, h3, h4, h5⟩ := h
  exact ⟨a, n, c, vs, h1, h2.len hl, h3, h4, Ob hl els vs (fun e he => (h4 e he).2) h5⟩
 | .eptr cs, _, _, h => by
  simp only [VR] at h ⊢
  obtain ⟨a, vs, h1, h2, h3, h4⟩ := h
  exact ⟨a, vs, h1, h2.len hl, Bd hl cs vs h4 h3, h4⟩
 | .ptr none, _, _, h => by simpa only [VR] using h
 | .ptr (some _), _, hn, _ => by simp [vG] at hn
 | .mut .., _, hn, _ => by simp [vG] at hn
 | .mo .., _, hn, _ => by simp [vG] at hn
 | .map none, _, _, h => by simpa only [VR] using h
 | .map (some _), _, hn, _ => by simp [vG] at hn
 | .func fn a b, _, hn, h => by
  simp only [vG, Bool.and_eq_true] at hn
  simp only [VR] at h ⊢
  obtain ⟨xs, ys, h1, h2, h3⟩ := h
  exact ⟨xs, ys, h1, Bd hl a _ hn.1 h2, Bd hl b _ hn.2 h3⟩
 | .nilFunc, _, _, h => by simpa only [VR] using h
 | .nilIface, _, _, h => by simpa only [VR] using h
 | .iface t x, _, hn, h => by
  simp only [vG] at hn
  simp only [VR] at h ⊢
  obtain ⟨y, h1, h2⟩ := h
  exact ⟨y, h1, oO hl x y hn h2⟩
 | .agg cs, _, hn, h => by
  simp only [vG] at hn
  simp only [VR] at h ⊢
  obtain ⟨vs, h1, h2⟩ := h
  exact ⟨vs, h1, Bd hl cs _ hn h2⟩
 | .tuple cs, _, hn, h => by
  simp only [vG] at hn
  simp only [VR] at h ⊢
  obtain ⟨vs, h1, h2⟩ := h
  exact ⟨vs, h1, Bd hl cs _ hn h2⟩
theorem Bd {g g1 : Gh} {w : World} (hl : ∀ b, g.len b ≤ g1.len b) : ∀ (cs : List AV) (vs : List Value), lq cs = true → VRs g w cs vs → VRs g1 w cs vs
 | [], _, _, h => by simpa only [VRs] using h
 | c :: cs, vs, hn, h => by
  simp only [lq, Bool.and_eq_true] at hn
  simp only [VRs] at h ⊢
  obtain ⟨v, us, h1, h2, h3⟩ := h
  exact ⟨v, us, h1, oO hl c v hn.1 h2, Bd hl cs us hn.2 h3⟩
theorem Ob {g g1 : Gh} {w : World} (hl : ∀ b, g.len b ≤ g1.len b) : ∀ (es : List (List AV)) (vs : List Value), (∀ e ∈ es, lq e = true) → VRss g w es vs → VRss g1 w es vs
 | [], _, _, h => by simpa only [VRss] using h
 | e :: es, vs, hn, h => by
  simp only [VRss] at h ⊢
  obtain ⟨p, q, h1, h2, h3⟩ := h
  exact ⟨p, q, h1, Bd hl e p (hn e (by simp)) h2, Ob hl es q (fun e he => hn e (by simp [he])) h3⟩
end
end Go.Sh

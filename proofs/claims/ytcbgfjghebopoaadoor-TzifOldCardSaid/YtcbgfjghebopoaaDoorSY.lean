/- The arguments of a law, opened as shadows: of any type that is put together of numbers, bools, strings, slices, structs and arrays. -/
import Derived.Test.YtcbgfjghebopoaaDoorSX
import Derived.ChangeArms
import Derived.OpenShut
import Derived.WideShapes
import Derived.Deep.Slices
namespace Go.Sh
open Go.RowKit
set_option linter.unusedSimpArgs false
set_option linter.unusedVariables false

/-- How many cells a block has. -/
def cellsN (W : World) (b : Nat) : Nat := match W.heap[b]? with
  | some (.cells c _ _) => c.size
  | _ => 0
def gW (W : World) : Gh := ⟨[], cellsN W⟩
theorem cellsN_of {W : World} {a : Addr} {v : Value} (h : W.cell? a = some v) : a.spot = none ∧ a.off < cellsN W a.block := by
  unfold World.cell? at h
  unfold cellsN
  split at h
  · rename_i c t f hb
    simp only [hb]
    split at h
    · cases h
    · rename_i hs
      refine ⟨by simpa using hs, ?_⟩
      obtain ⟨h1, _⟩ := Array.getElem?_eq_some_iff.1 h
      exact h1
  · cases h
theorem cellsN_lt {W : World} {b : Nat} (h : 0 < cellsN W b) : b < W.heap.size := by
  unfold cellsN at h
  split at h
  · rename_i hb
    obtain ⟨h1, _⟩ := Array.getElem?_eq_some_iff.1 hb
    exact h1
  · omega

/-- What a cell holds. -/
inductive LD where
  | int (k : IntKind)
  | bool
  | str
  | ints (k : IntKind)
  | strs
  | sl (es : List LD)

mutual
def LD.sat : LD → AV → Prop
  | .int k, a => ∃ n, a = .int k n ∧ (Lit.int k n).wf = true
  | .bool, a => ∃ b, a = .bool b
  | .str, a => ∃ s, a = .str s ∧ s.length ≤ 9223372036854775807
  | .ints k, a => ∃ l, a = .ints false k l ∧ ∀ n ∈ l, (Lit.int k n).wf = true
  | .strs, a => ∃ l, a = .strs false l
  | .sl es, a => ∃ els, a = .sl false es.length els ∧ ∀ e ∈ els, LD.sats es e
def LD.sats : List LD → List AV → Prop
  | [], az => az = []
  | d :: ds, az => ∃ a bs, az = a :: bs ∧ LD.sat d a ∧ LD.sats ds bs
end
theorem sats_append : ∀ {ds es : List LD} {az bs : List AV}, LD.sats ds az → LD.sats es bs → LD.sats (ds ++ es) (az ++ bs)
  | [], _, _, _, h, k => by simp only [LD.sats] at h; subst h; exact k
  | d :: ds, _, _, _, h, k => by
    simp only [LD.sats] at h
    obtain ⟨a, bs, rfl, h1, h2⟩ := h
    simp only [List.cons_append, LD.sats]
    exact ⟨a, _, rfl, h1, sats_append h2 k⟩
theorem sats_length : ∀ {ds : List LD} {az : List AV}, LD.sats ds az → az.length = ds.length
  | [], _, h => by simp only [LD.sats] at h; subst h; rfl
  | d :: ds, _, h => by
    simp only [LD.sats] at h
    obtain ⟨a, bs, rfl, h1, h2⟩ := h
    simp [sats_length h2]
theorem VRs_append {g : Gh} {w : World} : ∀ {az bs : List AV} {vs us : List Value}, VRs g w az vs → VRs g w bs us → VRs g w (az ++ bs) (vs ++ us)
  | [], _, _, _, h, k => by simp only [VRs] at h; subst h; exact k
  | a :: az, _, _, _, h, k => by
    simp only [VRs] at h
    obtain ⟨v, us, rfl, h1, h2⟩ := h
    simp only [List.cons_append, VRs]
    exact ⟨v, _, rfl, h1, VRs_append h2 k⟩
theorem sat_owns {d : LD} {a : AV} {v : Value} (h : LD.sat d a) : owns a v = [] := by
  cases d <;> simp only [LD.sat] at h
  · obtain ⟨n, rfl, _⟩ := h; cases v <;> rfl
  · obtain ⟨n, rfl⟩ := h; cases v <;> rfl
  · obtain ⟨n, rfl, _⟩ := h; cases v <;> rfl
  · obtain ⟨n, rfl, _⟩ := h; cases v <;> rfl
  · obtain ⟨n, rfl⟩ := h; cases v <;> rfl
  · obtain ⟨n, rfl, _⟩ := h; cases v <;> rfl
theorem sats_owns : ∀ {ds : List LD} {az : List AV} (vs : List Value), LD.sats ds az → ownsL az vs = []
  | [], _, vs, h => by simp only [LD.sats] at h; subst h; cases vs <;> rfl
  | d :: ds, _, vs, h => by
    simp only [LD.sats] at h
    obtain ⟨a, bs, rfl, h1, h2⟩ := h
    cases vs with
    | nil => rfl
    | cons v vs => simp only [ownsL, sat_owns h1, sats_owns vs h2, List.nil_append]
theorem sat_noPtr {d : LD} {a : AV} (h : LD.sat d a) : noPtr a = true := by
  cases d <;> simp only [LD.sat] at h
  · obtain ⟨n, rfl, _⟩ := h; rfl
  · obtain ⟨n, rfl⟩ := h; rfl
  · obtain ⟨n, rfl, _⟩ := h; rfl
  · obtain ⟨n, rfl, _⟩ := h; rfl
  · obtain ⟨n, rfl⟩ := h; rfl
  · obtain ⟨n, rfl, _⟩ := h; rfl
theorem sats_noPtr : ∀ {ds : List LD} {az : List AV}, LD.sats ds az → noPtrL az = true
  | [], _, h => by simp only [LD.sats] at h; subst h; rfl
  | d :: ds, _, h => by
    simp only [LD.sats] at h
    obtain ⟨a, bs, rfl, h1, h2⟩ := h
    simp only [noPtrL, sat_noPtr h1, sats_noPtr h2, Bool.and_self]
theorem sat_oneCell {g : Gh} {w : World} {d : LD} {a : AV} {v : Value} (h : LD.sat d a) (hv : VR g w a v) : v.oneCell' = true := by
  cases d <;> simp only [LD.sat] at h
  · obtain ⟨n, rfl, _⟩ := h; simp only [VR] at hv; subst hv; rfl
  · obtain ⟨n, rfl⟩ := h; simp only [VR] at hv; subst hv; rfl
  · obtain ⟨n, rfl, _⟩ := h; simp only [VR] at hv; obtain ⟨s, rfl, _⟩ := hv; rfl
  · obtain ⟨n, rfl, _⟩ := h; simp only [VR] at hv; obtain ⟨a, n, c, rfl, _⟩ := hv; rfl
  · obtain ⟨n, rfl⟩ := h; simp only [VR] at hv; obtain ⟨a, n, c, rfl, _⟩ := hv; rfl
  · obtain ⟨n, rfl, _⟩ := h; simp only [VR] at hv; obtain ⟨a, n, c, vs, rfl, _⟩ := hv; rfl
theorem sats_oneCell {g : Gh} {w : World} : ∀ {ds : List LD} {az : List AV} {vs : List Value}, LD.sats ds az → VRs g w az vs → ∀ u ∈ vs, u.oneCell' = true
  | [], _, _, h, k => by simp only [LD.sats] at h; subst h; simp only [VRs] at k; subst k; intro u hu; cases hu
  | d :: ds, _, _, h, k => by
    simp only [LD.sats] at h
    obtain ⟨a, bs, rfl, h1, h2⟩ := h
    simp only [VRs] at k
    obtain ⟨v, us, rfl, k1, k2⟩ := k
    intro u hu
    rcases List.mem_cons.1 hu with rfl | hu
    · exact sat_oneCell h1 k1
    · exact sats_oneCell h2 k2 u hu

/-- A slice's cells. -/
def sliceLD : List LD → LD
  | [.int k] => .ints k
  | [.str] => .strs
  | es => .sl es
def ldFs (P : Program) (g : TypeId → Option (List LD)) : Nat → List Field → Option (List LD)
  | _, [] => some []
  | off, f :: fs => match g f.type with
    | some l => if f.offset = off ∧ l.length = P.cellsOf f.type then (ldFs P g (off + l.length) fs).map (l ++ ·) else none
    | none => none
/-- What the cells of a type hold. -/
def ldOf (P : Program) : Nat → TypeId → Option (List LD)
  | 0, _ => none
  | n + 1, t => match P.underlying t with
    | some .bool => some [.bool]
    | some (.int k) => some [.int k]
    | some .string => some [.str]
    | some (.slice e) => match ldOf P n e with
      | some es => if es.length = P.cellsOf e ∧ 0 < es.length then some [sliceLD es] else none
      | none => none
    | some (.struct fs) => match ldFs P (ldOf P n) 0 fs.toList with
      | some l => if l.length = P.cellsOf t then some l else none
      | none => none
    | some (.array k e) => match ldOf P n e with
      | some es => if es.length = P.cellsOf e ∧ k * es.length = P.cellsOf t then some (List.replicate k es).flatten else none
      | none => none
    | _ => none

variable {H : Type} {enc : TypeId × Value → H} {P : Program} {W : World}

theorem cells_get {a : Addr} {n : Nat} {cs : List Value} (h : W.cells? 0 a n = some cs) : cs.length = n ∧ ∀ i, i < n → W.cell? (a.add i) = cs[i]? := by
  unfold World.cells? at h
  rw [if_pos (Nat.zero_le _)] at h
  have h1 := mapM_some_length h
  simp only [List.length_range] at h1
  exact ⟨h1, fun i hi => mapM_some_get h i i (by simp [hi])⟩
theorem add_add (a : Addr) (i j : Nat) : (a.add i).add j = a.add (i + j) := by
  unfold Addr.add
  by_cases hi : i = 0
  · subst hi; simp
  · by_cases hj : j = 0
    · subst hj; simp [hi]
    · simp only [if_neg hi, if_neg hj, if_neg (show ¬ i + j = 0 by omega)]
      simp [Nat.add_assoc]
theorem add_cell {a : Addr} {q : Nat} {v : Value} (h : W.cell? (a.add q) = some v) (hs : a.spot = none) : a.off + q < cellsN W a.block ∧ W.cell? ⟨a.block, a.off + q, none⟩ = some v := by
  have h2 : a.add q = ⟨a.block, a.off + q, none⟩ := by
    unfold Addr.add
    split
    · rename_i h0
      subst h0
      cases a
      simp only at hs
      subst hs
      simp
    · rfl
  rw [h2] at h
  exact ⟨(cellsN_of h).2, h⟩

/-- The elements of a slice. -/
theorem elems {n : Nat} {e : TypeId} {es : List LD} (hsz : es.length = P.cellsOf e) (hpos : 0 < es.length) (a : Addr) (len : Nat)
    (hel : ∀ i, i < len → ∃ az cs', W.cells? 0 (a.add (i * P.cellsOf e)) (P.cellsOf e) = some cs' ∧ VRs (gW W) W az cs' ∧ LD.sats es az) :
    ∃ els vs, els.length = len ∧ vs.length = len * es.length ∧ VRss (gW W) W els vs ∧ (∀ x ∈ els, LD.sats es x) ∧ (∀ q, q < vs.length → W.cell? (a.add q) = vs[q]?) ∧ ∀ u ∈ vs, u.oneCell' = true := by
  induction len with
  | zero => exact ⟨[], [], rfl, by simp, by simp [VRss], by simp, by simp, by simp⟩
  | succ len ih =>
    obtain ⟨els, vs, h1, h2, h3, h4, h5, h6⟩ := ih fun i hi => hel i (by omega)
    obtain ⟨az, cs', k1, k2, k3⟩ := hel len (by omega)
    obtain ⟨c1, c2⟩ := cells_get k1
    refine ⟨els ++ [az], vs ++ cs', by simp [h1], by simp [h2, c1, hsz, Nat.add_mul], VRss.append h3 (by simp only [VRss]; exact ⟨cs', [], by simp, k2, rfl⟩), ?_, ?_, ?_⟩
    · intro x hx
      rcases List.mem_append.1 hx with hx | hx
      · exact h4 x hx
      · simp at hx; subst hx; exact k3
    · intro q hq
      by_cases hlt : q < vs.length
      · rw [List.getElem?_append_left hlt]; exact h5 q hlt
      · rw [List.getElem?_append_right (by omega)]
        have hq' : q - vs.length < P.cellsOf e := by simp only [List.length_append] at hq; omega
        have := c2 (q - vs.length) hq'
        rw [add_add] at this
        rw [← this, ← hsz, ← h2]
        congr 2
        omega
    · intro u hu
      rcases List.mem_append.1 hu with hu | hu
      · exact h6 u hu
      · exact sats_oneCell k3 k2 u hu
theorem ints_of {k : IntKind} : ∀ {els : List (List AV)} {vs : List Value}, VRss (gW W) W els vs → (∀ x ∈ els, LD.sats [.int k] x) → ∃ l : List Int, vs = l.map (Value.int k) ∧ l.length = els.length ∧ ∀ n ∈ l, (Lit.int k n).wf = true
  | [], vs, h, _ => by simp only [VRss] at h; subst h; exact ⟨[], rfl, rfl, by simp⟩
  | e :: els, vs, h, hs => by
    simp only [VRss] at h
    obtain ⟨p, q, rfl, h1, h2⟩ := h
    obtain ⟨l, rfl, hl, hw⟩ := ints_of h2 fun x hx => hs x (by simp [hx])
    have he := hs e (by simp)
    simp only [LD.sats] at he
    obtain ⟨a, bs, rfl, ha, rfl⟩ := he
    simp only [LD.sat] at ha
    obtain ⟨n, rfl, hn⟩ := ha
    simp only [VRs, VR] at h1
    obtain ⟨v, us, rfl, rfl, rfl⟩ := h1
    exact ⟨n :: l, rfl, by simp [hl], by intro m hm; rcases List.mem_cons.1 hm with rfl | hm; exact hn; exact hw m hm⟩
theorem strs_of : ∀ {els : List (List AV)} {vs : List Value}, VRss (gW W) W els vs → (∀ x ∈ els, LD.sats [.str] x) → ∃ l : List Str, vs = l.map (fun s => Value.string ⟨s.toArray⟩) ∧ l.length = els.length
  | [], vs, h, _ => by simp only [VRss] at h; subst h; exact ⟨[], rfl, rfl⟩
  | e :: els, vs, h, hs => by
    simp only [VRss] at h
    obtain ⟨p, q, rfl, h1, h2⟩ := h
    obtain ⟨l, rfl, hl⟩ := strs_of h2 fun x hx => hs x (by simp [hx])
    have he := hs e (by simp)
    simp only [LD.sats] at he
    obtain ⟨a, bs, rfl, ha, rfl⟩ := he
    simp only [LD.sat] at ha
    obtain ⟨s, rfl, _⟩ := ha
    simp only [VRs, VR] at h1
    obtain ⟨v, us, rfl, ⟨z, rfl, rfl⟩, rfl⟩ := h1
    exact ⟨z.data.toList :: l, by simp, by simp [hl]⟩
theorem slice_val {es : List LD} (hpos : 0 < es.length) {a : Option Addr} {len cap : Nat} {els : List (List AV)} {vs : List Value} (hlc : len ≤ cap) (h1 : els.length = len) (h2 : vs.length = len * es.length) (h3 : VRss (gW W) W els vs) (h4 : ∀ x ∈ els, LD.sats es x)
    (h5 : 0 < vs.length → ∃ ad, a = some ad ∧ ∀ q, q < vs.length → W.cell? (ad.add q) = vs[q]?) (h6 : ∀ u ∈ vs, u.oneCell' = true) (h7 : a = none → len = 0 ∧ cap = 0) :
    ∃ av, VR (gW W) W av (.slice a len cap) ∧ LD.sat (sliceLD es) av := by
  have hrow : Row (gW W) W false a len cap es.length vs := by
    refine ⟨h2, hlc, Nat.zero_le _, fun hp => ?_, (fun h => by cases h), h7, h6⟩
    obtain ⟨ad, rfl, k5⟩ := h5 hp
    refine ⟨ad, rfl, ?_⟩
    have hs : ad.spot = none := by
      have h0 := k5 0 hp
      rw [List.getElem?_eq_getElem hp] at h0
      exact (cellsN_of (a := ad.add 0) h0).1
    have hl := k5 (vs.length - 1) (by omega)
    rw [List.getElem?_eq_getElem (by omega)] at hl
    refine ⟨hs, ?_, fun j hj => ?_⟩
    · have := (add_cell hl hs).1
      show ad.off + vs.length ≤ cellsN W ad.block
      omega
    · have hj' := k5 j hj
      rw [List.getElem?_eq_getElem hj] at hj' ⊢
      exact (add_cell hj' hs).2
  have gen : ∃ av, VR (gW W) W av (.slice a len cap) ∧ LD.sat (.sl es) av := by
    refine ⟨.sl false es.length els, ?_, ?_⟩
    · simp only [VR]
      exact ⟨a, len, cap, vs, rfl, hrow, h1, fun e he => ⟨sats_length (h4 e he), sats_noPtr (h4 e he)⟩, h3⟩
    · simp only [LD.sat]
      exact ⟨els, rfl, h4⟩
  unfold sliceLD
  split
  · rename_i k
    obtain ⟨l, rfl, hl, hw⟩ := ints_of h3 h4
    refine ⟨.ints false k l, ?_, ?_⟩
    · simp only [VR]
      exact ⟨a, len, cap, rfl, hrow⟩
    · simp only [LD.sat]
      exact ⟨l, rfl, hw⟩
  · obtain ⟨l, rfl, hl⟩ := strs_of h3 h4
    refine ⟨.strs false l, ?_, ?_⟩
    · simp only [VR]
      exact ⟨a, len, cap, rfl, hrow⟩
    · simp only [LD.sat]
      exact ⟨l, rfl⟩
  · exact gen

theorem fields_open {sp : Nat → Bool} {held : Bool} {g : TypeId → Option (List LD)} {m : Nat} (hg : ∀ t lds, g t = some lds → ∀ (cs : List Value) x, DataW.trod enc P W 0 sp held m t cs = some x → ∃ az, VRs (gW W) W az cs ∧ LD.sats lds az) :
    ∀ (fs : List Field) (off : Nat) (l : List LD) (cs : List Value), ldFs P g off fs = some l → off + l.length = cs.length → (∀ f ∈ fs, ∃ x, DataW.trod enc P W 0 sp held m f.type ((cs.drop f.offset).take (P.cellsOf f.type)) = some x) → ∃ az, VRs (gW W) W az (cs.drop off) ∧ LD.sats l az
  | [], off, l, cs, h, hl, _ => by
    simp only [ldFs, Option.some.injEq] at h
    subst h
    simp only [List.length_nil, Nat.add_zero] at hl
    exact ⟨[], by simp [VRs]; omega, by simp [LD.sats]⟩
  | f :: fs, off, l, cs, h, hl, hf => by
    simp only [ldFs] at h
    split at h
    · rename_i d hd
      split at h
      · rename_i hc
        obtain ⟨h1, h2⟩ := hc
        obtain ⟨l', h3, rfl⟩ := Option.map_eq_some_iff.1 h
        simp only [List.length_append] at hl
        obtain ⟨az', k1, k2⟩ := fields_open hg fs _ l' cs h3 (by omega) fun f' hf' => hf f' (by simp [hf'])
        obtain ⟨x, hx⟩ := hf f (by simp)
        obtain ⟨az, k3, k4⟩ := hg _ _ hd _ x hx
        refine ⟨az ++ az', ?_, sats_append k4 k2⟩
        have e : cs.drop off = (cs.drop off).take d.length ++ cs.drop (off + d.length) := by
          rw [← List.drop_drop, List.take_append_drop]
        rw [e]
        rw [h1, ← h2] at k3
        exact VRs_append k3 k1
      · cases h
    · cases h
/-- What is read as data of a type has a shadow. -/
theorem opened {sp : Nat → Bool} {held : Bool} : ∀ (n : Nat) (t : TypeId) (lds : List LD), ldOf P n t = some lds → ∀ (m : Nat) (cs : List Value) (x : DataW H × List MemPlace), DataW.trod enc P W 0 sp held m t cs = some x → ∃ az, VRs (gW W) W az cs ∧ LD.sats lds az := by
  intro n
  induction n with
  | zero => intro t lds h; cases h
  | succ n ih =>
    intro t lds h m cs x hx
    unfold ldOf at h
    split at h
    · rename_i hu
      injection h with h; subst h
      obtain ⟨b, rfl, _⟩ := DataW.trod_bool hu hx
      exact ⟨[.bool b], by simp [VRs, VR], by simp [LD.sats, LD.sat]⟩
    · rename_i k hu
      injection h with h; subst h
      obtain ⟨b, rfl, _, hw⟩ := DataW.trod_int hu hx
      exact ⟨[.int k b], by simp [VRs, VR], by simp [LD.sats, LD.sat, hw]⟩
    · rename_i hu
      injection h with h; subst h
      obtain ⟨s, rfl, _, hsz⟩ := DataW.trod_string hu hx
      exact ⟨[.str s.data.toList], by simp only [VRs, VR]; exact ⟨_, _, rfl, ⟨s, rfl, rfl⟩, rfl⟩, by simp only [LD.sats, LD.sat]; exact ⟨_, _, rfl, ⟨_, rfl, by simpa [maxLen] using hsz⟩, rfl⟩⟩
    · rename_i e hu
      split at h
      · rename_i es hes
        split at h
        · rename_i hc
          injection h with h; subst h
          rcases Deep.open_slice hu hx with ⟨rfl, _⟩ | ⟨a, len, cap, m', n', D, Pl, rfl, _, hl, _, hm, _, hel⟩
          · obtain ⟨av, h1, h2⟩ := slice_val (W := W) (es := es) hc.2 (a := none) (len := 0) (cap := 0) (els := []) (vs := []) (Nat.le_refl _) rfl (by simp) (by simp [VRss]) (by simp) (by simp) (by simp) (fun _ => ⟨rfl, rfl⟩)
            exact ⟨[av], by simp only [VRs]; exact ⟨_, _, rfl, h1, rfl⟩, by simp [LD.sats, h2]⟩
          · have hlm : len ≤ m' := by rw [hm]; split <;> omega
            obtain ⟨els, vs, h1, h2, h3, h4, h5, h6⟩ := elems (n := n') (W := W) hc.1 hc.2 a len (fun i hi => by
              obtain ⟨cs', k1, k2⟩ := hel i (by omega)
              obtain ⟨az, k3, k4⟩ := ih e es hes _ _ _ k2
              exact ⟨az, cs', k1, k3, k4⟩)
            obtain ⟨av, k1, k2⟩ := slice_val (W := W) (es := es) hc.2 (a := some a) (cap := cap) hl h1 h2 h3 h4 (fun _ => ⟨a, rfl, h5⟩) h6 (fun h => by cases h)
            exact ⟨[av], by simp only [VRs]; exact ⟨_, _, rfl, k1, rfl⟩, by simp [LD.sats, k2]⟩
        · cases h
      · cases h
    · rename_i fs hu
      split at h
      · rename_i l hl
        split at h
        · rename_i hc
          injection h with h; subst h
          obtain ⟨xs, m', rfl, _, hlen, hxl, hf⟩ := DataW.trod_struct hu hx
          obtain ⟨az, h1, h2⟩ := fields_open (sp := sp) (held := held) (enc := enc) (g := ldOf P n) (m := m') (fun t lds h cs x hx => ih t lds h m' cs x hx) fs.toList 0 l cs hl (by omega) (fun f hfm => by
            obtain ⟨i, hi, he⟩ := List.mem_iff_getElem.1 hfm
            have hi' : i < fs.size := by simpa using hi
            have := hf i f (by rw [Array.getElem?_eq_getElem hi']; congr)
            rw [this, List.getElem?_eq_getElem (by omega)]
            exact ⟨_, rfl⟩)
          exact ⟨az, by simpa using h1, h2⟩
        · cases h
      · cases h
    · rename_i k e hu
      split at h
      · rename_i es hes
        split at h
        · rename_i hc
          injection h with h; subst h
          obtain ⟨xs, m', rfl, _, hlen, hxl, hf⟩ := DataW.trod_array hu hx
          have hk : ∀ j, j ≤ k → ∃ az, VRs (gW W) W az (cs.take (j * es.length)) ∧ LD.sats (List.replicate j es).flatten az := by
            intro j
            induction j with
            | zero => intro _; exact ⟨[], by simp [VRs], by simp [LD.sats]⟩
            | succ j ihj =>
              intro hj
              obtain ⟨az, h1, h2⟩ := ihj (by omega)
              have h3 := hf j (by omega)
              rw [List.getElem?_eq_getElem (by omega)] at h3
              obtain ⟨bs, h4, h5⟩ := ih e es hes _ _ _ h3
              refine ⟨az ++ bs, ?_, ?_⟩
              · have e1 : cs.take ((j + 1) * es.length) = cs.take (j * es.length) ++ (cs.drop (j * es.length)).take es.length := by
                  rw [Nat.add_mul, Nat.one_mul, List.take_add]
                rw [e1]
                rw [← hc.1] at h4
                exact VRs_append h1 h4
              · rw [List.replicate_succ', List.flatten_append]
                simpa using sats_append h2 h5
          obtain ⟨az, h1, h2⟩ := hk k (Nat.le_refl _)
          rw [List.take_of_length_le (by omega)] at h1
          exact ⟨az, h1, h2⟩
        · cases h
      · cases h
    · cases h

/-- An argument of one cell. -/
theorem open_one {sp : Nat → Bool} {held : Bool} {n : Nat} {t : TypeId} {d : LD} {v : Value} {x : DataW H} {ps : List MemPlace} (hl : ldOf P n t = some [d]) (hv : v.cells = #[v]) (h : DataW.Trod enc P W 0 sp held t v x ps) : ∃ a, VR (gW W) W a v ∧ LD.sat d a := by
  obtain ⟨fuel, hf⟩ := h
  obtain ⟨az, h1, h2⟩ := opened n t _ hl _ _ _ hf
  simp only [LD.sats] at h2
  obtain ⟨a, bs, rfl, h3, rfl⟩ := h2
  rw [hv] at h1
  simp only [VRs] at h1
  obtain ⟨u, us, he, h4, h5⟩ := h1
  simp only [List.cons.injEq] at he
  obtain ⟨rfl, rfl⟩ := he
  exact ⟨a, h4, h3⟩
/-- A struct, or an array. -/
theorem open_agg {sp : Nat → Bool} {held : Bool} {n : Nat} {t : TypeId} {ds : List LD} {vs : Array Value} {x : DataW H} {ps : List MemPlace} (hl : ldOf P n t = some ds) (h : DataW.Trod enc P W 0 sp held t (.agg vs) x ps) : ∃ az, VR (gW W) W (.agg az) (.agg vs) ∧ LD.sats ds az := by
  obtain ⟨fuel, hf⟩ := h
  obtain ⟨az, h1, h2⟩ := opened n t _ hl _ _ _ hf
  refine ⟨az, ?_, h2⟩
  simp only [VR]
  exact ⟨vs, rfl, h1⟩
theorem agg_owns {ds : List LD} {az : List AV} {vs : Array Value} (h : LD.sats ds az) : owns (.agg az) (.agg vs) = [] := by simp only [owns, sats_owns _ h]
/-- A law that tells true, called with what can be read as data. -/
theorem law_true {f : FuncId} {sp : FSpec} (h : FSound P f sp) {args : List AV} {H0 : List AObj} (vs : List Value) (hvs : VRs (gW W) W args vs) (hown : ownsL args vs = []) (hgood : Good W.heap)
    (hsp : sp args [] (AV × List AObj) (fun v H => some (v, H)) = some (.bool true, H0)) : Calls P f vs.toArray W fun e W' => e = .returned (.bool true) ∧ Below W.heap.size W W' :=
  entry_true h W vs (gW W) rfl hvs hown (fun b hb => cellsN_lt hb) hgood hsp
theorem wf_i64 {n : Int} (h : (Lit.int .i64 n).wf = true) : -9223372036854775808 ≤ n ∧ n ≤ 9223372036854775807 := by
  simp only [Lit.wf, Bool.and_eq_true, decide_eq_true_eq] at h
  exact h
theorem wf_u32 {n : Int} (h : (Lit.int .u32 n).wf = true) : 0 ≤ n ∧ n ≤ 4294967295 := by
  simp only [Lit.wf, Bool.and_eq_true, decide_eq_true_eq] at h
  exact h
theorem wf_u8 {n : Int} (h : (Lit.int .u8 n).wf = true) : 0 ≤ n ∧ n ≤ 255 := by
  simp only [Lit.wf, Bool.and_eq_true, decide_eq_true_eq] at h
  exact h
theorem wf_u64 {n : Int} (h : (Lit.int .u64 n).wf = true) : 0 ≤ n ∧ n ≤ 18446744073709551615 := by
  simp only [Lit.wf, Bool.and_eq_true, decide_eq_true_eq] at h
  exact h
end Go.Sh

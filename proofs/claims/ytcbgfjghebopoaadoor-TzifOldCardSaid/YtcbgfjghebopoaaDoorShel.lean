/- Of the laid shelf what the printed shadows lean on. -/
import Derived.Shelf.LaysM
import Derived.Shelf.Bytes.Len
import Derived.Shelf.Bytes.TryGrow
import Derived.Shelf.Bytes.GrowSliceCatch
import Derived.Shelf.Bytes.GrowSlice
import Derived.Shelf.Bytes.GrowRow0
import Derived.Shelf.Bytes.GrowRow
import Derived.Shelf.Bytes.GrowNil
import Derived.Shelf.Bytes.Grow
import Derived.Shelf.Bytes.Bytes
import Derived.Shelf.Strings.Search1
import Derived.Shelf.Bytes.GrowRow0Kept
import Derived.Shelf.Bytes.GrowRowKept
import Derived.Shelf.Bytes.GrowNilKept
import Derived.Shelf.Bytes.GrowKept
import Derived.Shelf.Bytes.WriteByteKept
import Derived.Shelf.Bytes.WriteStringKept
import Derived.Shelf.Bytes.ResetKept
import Derived.Shelf.Bytes.WriteKept
import Derived.Shelf.Bytes.BufferK
import Derived.Shelf.Bytes.GrowNilOwn
import Derived.Shelf.Bytes.LenAt
import Derived.Shelf.Bytes.TryGrowAt
import Derived.Shelf.Bytes.GrowRow0At
import Derived.Shelf.Bytes.GrowRowAt
import Derived.Shelf.Bytes.GrowNilAt
import Derived.Shelf.Bytes.GrowAt
import Derived.Shelf.Slices.Equal
import Derived.Shelf.Bytes.SlIndexSmall
import Derived.Shelf.Bytes.SlIndexAt
import Derived.Shelf.Bytes.SlSearch0
import Derived.Shelf.Bytes.SlSearch1
import Derived.Shelf.Bytes.SlSearch2
import Derived.Shelf.Bytes.SlIndexWhole
import Derived.Ground.SlbtProg
import Derived.Shelf.Bytes.SlCut
import Derived.Shelf.Bytes.Small
import Derived.Shelf.Bytes.IndexByte
import Derived.Test.YtcbgfjghebopoaaDoorProg
namespace Go.Proofs
def Tryd.laysM183_ren : Go.Shelf.Ren := ⟨fun | 183 => 31 | n => n, fun | 130 => 95 | 37 => 37 | 0 => 0 | 93 => 66 | 3 => 3 | 5 => 5 | 91 => 64 | n => n, fun | n => n⟩
theorem Tryd.laysM183 : Go.Proofs.LaysM.n183 Tryd.prog Tryd.laysM183_ren := {
  mixed := by kernel_rfl
  f183 := Tryd.func31.trans (congrArg some (by kernel_rfl))
  t0 := Tryd.underlying0
  a0 := Tryd.isAgg0
  z0 := Tryd.sizeOf0
  v0 := Tryd.zeroValue0
  t3 := Tryd.underlying3
  a3 := Tryd.isAgg3
  z3 := Tryd.sizeOf3
  v3 := Tryd.zeroValue3
  t37 := Tryd.underlying37
  a37 := Tryd.isAgg37
  z37 := Tryd.sizeOf37
  v37 := Tryd.zeroValue37
  t93 := Tryd.underlying66
  a93 := Tryd.isAgg66
  z93 := Tryd.sizeOf66
  v93 := Tryd.zeroValue66
  t130 := Tryd.underlying95
  a130 := Tryd.isAgg95
  z130 := Tryd.sizeOf95
  v130 := Tryd.zeroValue95
  t5 := Tryd.underlying5
  a5 := Tryd.isAgg5
  z5 := Tryd.sizeOf5
  v5 := Tryd.zeroValue5
  t91 := Tryd.underlying64
  a91 := Tryd.isAgg64
  z91 := Tryd.sizeOf64
  v91 := Tryd.zeroValue64
  i0 := by kernel_rfl
  i3 := by kernel_rfl
  i5 := by kernel_rfl
  i37 := by kernel_rfl
  i91 := by kernel_rfl
  i93 := by kernel_rfl
  i130 := by kernel_rfl }
def Tryd.laysM179_ren : Go.Shelf.Ren := ⟨fun | 179 => 42 | 251 => 43 | 252 => 44 | 181 => 54 | 184 => 55 | 290 => 56 | 324 => 68 | n => n, fun | 130 => 95 | 5 => 5 | 75 => 73 | 0 => 0 | 93 => 66 | 91 => 64 | 3 => 3 | 131 => 96 | 4 => 4 | 37 => 37 | 20 => 20 | 80 => 133 | 9 => 9 | n => n, fun | 14 => 0 | n => n⟩
theorem Tryd.laysM179 : Go.Proofs.LaysM.n179 Tryd.prog Tryd.laysM179_ren := {
  mixed := by kernel_rfl
  f179 := Tryd.func42.trans (congrArg some (by kernel_rfl))
  f181 := Tryd.func54.trans (congrArg some (by kernel_rfl))
  f184 := Tryd.func55.trans (congrArg some (by kernel_rfl))
  f251 := Tryd.func43.trans (congrArg some (by kernel_rfl))
  f252 := Tryd.func44.trans (congrArg some (by kernel_rfl))
  f290 := Tryd.func56.trans (congrArg some (by kernel_rfl))
  f324 := Tryd.func68.trans (congrArg some (by kernel_rfl))
  t0 := Tryd.underlying0
  a0 := Tryd.isAgg0
  z0 := Tryd.sizeOf0
  v0 := Tryd.zeroValue0
  t3 := Tryd.underlying3
  a3 := Tryd.isAgg3
  z3 := Tryd.sizeOf3
  v3 := Tryd.zeroValue3
  t4 := Tryd.underlying4
  a4 := Tryd.isAgg4
  z4 := Tryd.sizeOf4
  v4 := Tryd.zeroValue4
  t5 := Tryd.underlying5
  a5 := Tryd.isAgg5
  z5 := Tryd.sizeOf5
  v5 := Tryd.zeroValue5
  t20 := Tryd.underlying20
  a20 := Tryd.isAgg20
  z20 := Tryd.sizeOf20
  v20 := Tryd.zeroValue20
  t37 := Tryd.underlying37
  a37 := Tryd.isAgg37
  z37 := Tryd.sizeOf37
  v37 := Tryd.zeroValue37
  t75 := Tryd.underlying73
  a75 := Tryd.isAgg73
  z75 := Tryd.sizeOf73
  v75 := Tryd.zeroValue73
  t91 := Tryd.underlying64
  a91 := Tryd.isAgg64
  z91 := Tryd.sizeOf64
  v91 := Tryd.zeroValue64
  t93 := Tryd.underlying66
  a93 := Tryd.isAgg66
  z93 := Tryd.sizeOf66
  v93 := Tryd.zeroValue66
  t130 := Tryd.underlying95
  a130 := Tryd.isAgg95
  z130 := Tryd.sizeOf95
  v130 := Tryd.zeroValue95
  t131 := Tryd.underlying96
  a131 := Tryd.isAgg96
  z131 := Tryd.sizeOf96
  v131 := Tryd.zeroValue96
  g14 := by kernel_rfl
  t9 := Tryd.underlying9
  a9 := Tryd.isAgg9
  z9 := Tryd.sizeOf9
  v9 := Tryd.zeroValue9
  t80 := Tryd.underlying133
  a80 := Tryd.isAgg133
  z80 := Tryd.sizeOf133
  v80 := Tryd.zeroValue133
  i0 := by kernel_rfl
  i3 := by kernel_rfl
  i4 := by kernel_rfl
  i5 := by kernel_rfl
  i9 := by kernel_rfl
  i20 := by kernel_rfl
  i37 := by kernel_rfl
  i75 := by kernel_rfl
  i80 := by kernel_rfl
  i91 := by kernel_rfl
  i93 := by kernel_rfl
  i130 := by kernel_rfl
  i131 := by kernel_rfl
  m14 := by kernel_rfl }
def Tryd.laysM178_ren : Go.Shelf.Ren := ⟨fun | 178 => 30 | 251 => 43 | 252 => 44 | 181 => 54 | 184 => 55 | 290 => 56 | 324 => 68 | n => n, fun | 130 => 95 | 9 => 9 | 3 => 3 | 75 => 73 | 0 => 0 | 93 => 66 | 91 => 64 | 131 => 96 | 4 => 4 | 37 => 37 | 20 => 20 | 80 => 133 | 5 => 5 | n => n, fun | 14 => 0 | n => n⟩
theorem Tryd.laysM178 : Go.Proofs.LaysM.n178 Tryd.prog Tryd.laysM178_ren := {
  mixed := by kernel_rfl
  f178 := Tryd.func30.trans (congrArg some (by kernel_rfl))
  f181 := Tryd.func54.trans (congrArg some (by kernel_rfl))
  f184 := Tryd.func55.trans (congrArg some (by kernel_rfl))
  f251 := Tryd.func43.trans (congrArg some (by kernel_rfl))
  f252 := Tryd.func44.trans (congrArg some (by kernel_rfl))
  f290 := Tryd.func56.trans (congrArg some (by kernel_rfl))
  f324 := Tryd.func68.trans (congrArg some (by kernel_rfl))
  t0 := Tryd.underlying0
  a0 := Tryd.isAgg0
  z0 := Tryd.sizeOf0
  v0 := Tryd.zeroValue0
  t3 := Tryd.underlying3
  a3 := Tryd.isAgg3
  z3 := Tryd.sizeOf3
  v3 := Tryd.zeroValue3
  t4 := Tryd.underlying4
  a4 := Tryd.isAgg4
  z4 := Tryd.sizeOf4
  v4 := Tryd.zeroValue4
  t9 := Tryd.underlying9
  a9 := Tryd.isAgg9
  z9 := Tryd.sizeOf9
  v9 := Tryd.zeroValue9
  t20 := Tryd.underlying20
  a20 := Tryd.isAgg20
  z20 := Tryd.sizeOf20
  v20 := Tryd.zeroValue20
  t37 := Tryd.underlying37
  a37 := Tryd.isAgg37
  z37 := Tryd.sizeOf37
  v37 := Tryd.zeroValue37
  t75 := Tryd.underlying73
  a75 := Tryd.isAgg73
  z75 := Tryd.sizeOf73
  v75 := Tryd.zeroValue73
  t91 := Tryd.underlying64
  a91 := Tryd.isAgg64
  z91 := Tryd.sizeOf64
  v91 := Tryd.zeroValue64
  t93 := Tryd.underlying66
  a93 := Tryd.isAgg66
  z93 := Tryd.sizeOf66
  v93 := Tryd.zeroValue66
  t130 := Tryd.underlying95
  a130 := Tryd.isAgg95
  z130 := Tryd.sizeOf95
  v130 := Tryd.zeroValue95
  t131 := Tryd.underlying96
  a131 := Tryd.isAgg96
  z131 := Tryd.sizeOf96
  v131 := Tryd.zeroValue96
  g14 := by kernel_rfl
  t5 := Tryd.underlying5
  a5 := Tryd.isAgg5
  z5 := Tryd.sizeOf5
  v5 := Tryd.zeroValue5
  t80 := Tryd.underlying133
  a80 := Tryd.isAgg133
  z80 := Tryd.sizeOf133
  v80 := Tryd.zeroValue133
  i0 := by kernel_rfl
  i3 := by kernel_rfl
  i4 := by kernel_rfl
  i5 := by kernel_rfl
  i9 := by kernel_rfl
  i20 := by kernel_rfl
  i37 := by kernel_rfl
  i75 := by kernel_rfl
  i80 := by kernel_rfl
  i91 := by kernel_rfl
  i93 := by kernel_rfl
  i130 := by kernel_rfl
  i131 := by kernel_rfl
  m14 := by kernel_rfl }
def Tryd.laysM180_ren : Go.Shelf.Ren := ⟨fun | 180 => 27 | 251 => 43 | 252 => 44 | 181 => 54 | 184 => 55 | 290 => 56 | 324 => 68 | n => n, fun | 130 => 95 | 37 => 37 | 3 => 3 | 75 => 73 | 0 => 0 | 93 => 66 | 91 => 64 | 131 => 96 | 4 => 4 | 20 => 20 | 5 => 5 | 80 => 133 | 9 => 9 | n => n, fun | 14 => 0 | n => n⟩
theorem Tryd.laysM180 : Go.Proofs.LaysM.n180 Tryd.prog Tryd.laysM180_ren := {
  mixed := by kernel_rfl
  f180 := Tryd.func27.trans (congrArg some (by kernel_rfl))
  f181 := Tryd.func54.trans (congrArg some (by kernel_rfl))
  f184 := Tryd.func55.trans (congrArg some (by kernel_rfl))
  f251 := Tryd.func43.trans (congrArg some (by kernel_rfl))
  f252 := Tryd.func44.trans (congrArg some (by kernel_rfl))
  f290 := Tryd.func56.trans (congrArg some (by kernel_rfl))
  f324 := Tryd.func68.trans (congrArg some (by kernel_rfl))
  t0 := Tryd.underlying0
  a0 := Tryd.isAgg0
  z0 := Tryd.sizeOf0
  v0 := Tryd.zeroValue0
  t3 := Tryd.underlying3
  a3 := Tryd.isAgg3
  z3 := Tryd.sizeOf3
  v3 := Tryd.zeroValue3
  t4 := Tryd.underlying4
  a4 := Tryd.isAgg4
  z4 := Tryd.sizeOf4
  v4 := Tryd.zeroValue4
  t20 := Tryd.underlying20
  a20 := Tryd.isAgg20
  z20 := Tryd.sizeOf20
  v20 := Tryd.zeroValue20
  t37 := Tryd.underlying37
  a37 := Tryd.isAgg37
  z37 := Tryd.sizeOf37
  v37 := Tryd.zeroValue37
  t75 := Tryd.underlying73
  a75 := Tryd.isAgg73
  z75 := Tryd.sizeOf73
  v75 := Tryd.zeroValue73
  t91 := Tryd.underlying64
  a91 := Tryd.isAgg64
  z91 := Tryd.sizeOf64
  v91 := Tryd.zeroValue64
  t93 := Tryd.underlying66
  a93 := Tryd.isAgg66
  z93 := Tryd.sizeOf66
  v93 := Tryd.zeroValue66
  t130 := Tryd.underlying95
  a130 := Tryd.isAgg95
  z130 := Tryd.sizeOf95
  v130 := Tryd.zeroValue95
  t131 := Tryd.underlying96
  a131 := Tryd.isAgg96
  z131 := Tryd.sizeOf96
  v131 := Tryd.zeroValue96
  g14 := by kernel_rfl
  t5 := Tryd.underlying5
  a5 := Tryd.isAgg5
  z5 := Tryd.sizeOf5
  v5 := Tryd.zeroValue5
  t9 := Tryd.underlying9
  a9 := Tryd.isAgg9
  z9 := Tryd.sizeOf9
  v9 := Tryd.zeroValue9
  t80 := Tryd.underlying133
  a80 := Tryd.isAgg133
  z80 := Tryd.sizeOf133
  v80 := Tryd.zeroValue133
  i0 := by kernel_rfl
  i3 := by kernel_rfl
  i4 := by kernel_rfl
  i5 := by kernel_rfl
  i9 := by kernel_rfl
  i20 := by kernel_rfl
  i37 := by kernel_rfl
  i75 := by kernel_rfl
  i80 := by kernel_rfl
  i91 := by kernel_rfl
  i93 := by kernel_rfl
  i130 := by kernel_rfl
  i131 := by kernel_rfl
  m14 := by kernel_rfl }
def Tryd.laysSlT4_ren : Go.Shelf.Ren := ⟨fun | 4 => 64 | 5 => 70 | 6 => 71 | 7 => 72 | 8 => 73 | 9 => 74 | 10 => 75 | 11 => 76 | 12 => 77 | n => n, fun | 22 => 37 | 4 => 4 | 3 => 3 | 0 => 0 | 5 => 5 | 29 => 51 | 9 => 9 | 31 => 130 | 30 => 27 | n => n, fun | 0 => 1 | n => n⟩
theorem Tryd.laysSlT4 : Go.Proofs.SlLaysT.n4 Tryd.prog Tryd.laysSlT4_ren := {
  mixed := by kernel_rfl
  f4 := Tryd.func64.trans (congrArg some (by kernel_rfl))
  f5 := Tryd.func70.trans (congrArg some (by kernel_rfl))
  f6 := Tryd.func71.trans (congrArg some (by kernel_rfl))
  f7 := Tryd.func72.trans (congrArg some (by kernel_rfl))
  f8 := Tryd.func73.trans (congrArg some (by kernel_rfl))
  f9 := Tryd.func74.trans (congrArg some (by kernel_rfl))
  f10 := Tryd.func75.trans (congrArg some (by kernel_rfl))
  f11 := Tryd.func76.trans (congrArg some (by kernel_rfl))
  f12 := Tryd.func77.trans (congrArg some (by kernel_rfl))
  t0 := Tryd.underlying0
  a0 := Tryd.isAgg0
  z0 := Tryd.sizeOf0
  v0 := Tryd.zeroValue0
  t3 := Tryd.underlying3
  a3 := Tryd.isAgg3
  z3 := Tryd.sizeOf3
  v3 := Tryd.zeroValue3
  t4 := Tryd.underlying4
  a4 := Tryd.isAgg4
  z4 := Tryd.sizeOf4
  v4 := Tryd.zeroValue4
  t5 := Tryd.underlying5
  a5 := Tryd.isAgg5
  z5 := Tryd.sizeOf5
  v5 := Tryd.zeroValue5
  t9 := Tryd.underlying9
  a9 := Tryd.isAgg9
  z9 := Tryd.sizeOf9
  v9 := Tryd.zeroValue9
  t22 := Tryd.underlying37
  a22 := Tryd.isAgg37
  z22 := Tryd.sizeOf37
  v22 := Tryd.zeroValue37
  t29 := Tryd.underlying51
  a29 := Tryd.isAgg51
  z29 := Tryd.sizeOf51
  v29 := Tryd.zeroValue51
  t30 := Tryd.underlying27
  a30 := Tryd.isAgg27
  z30 := Tryd.sizeOf27
  v30 := Tryd.zeroValue27
  t31 := Tryd.underlying130
  a31 := Tryd.isAgg130
  z31 := Tryd.sizeOf130
  v31 := Tryd.zeroValue130
  g0 := by kernel_rfl }
theorem Tryd.bytes_Cut_all (p1 p2 : Option Addr) (n c1 k c2 : Nat) (xs ys : List Int) (m : Int) (w : World) (hx : xs.length = n) (hy : ys.length = k) (hr1 : ∀ x ∈ xs, 0 ≤ x ∧ x < 256) (hr2 : ∀ y ∈ ys, 0 ≤ y ∧ y < 256) (h1 : Lib.BytesIn w p1 n xs) (h2 : Lib.BytesIn w p2 k ys) (hp1 : p1 = none → c1 = 0) (hcap : n ≤ c1) (hs : n < 4294967281) (hk : k ≤ 9223372036854775807) (hm : w.cell? ⟨1, 0, none⟩ = some (.int .i64 m)) :
    Calls Tryd.prog 64 #[.slice p1 n c1, .slice p2 k c2] w fun e w' => e = .returned (Lib.cutV p1 n c1 k (Lib.index (Lib.bytesOf xs) (Lib.bytesOf ys))) ∧ ∃ q, w' = w.drewN q := Any.bytes_Cut_all Tryd.laysSlT4 p1 p2 n c1 k c2 xs ys m w hx hy hr1 hr2 h1 h2 hp1 hcap hs hk hm
end Go.Proofs

/- Proves: contracts of the library functions that this seat calls, laid at its program by a tool of the kit. Conditions: those that each theorem states. -/
import Derived.Shelf.Small.Bits
import Derived.Shelf.Strconv.Itoa0
import Derived.Shelf.Sort.Plain
import Derived.Ground.GgsProg
import Derived.Shelf.GgSortFunc.Insertion
import Derived.Shelf.GgSortFunc.InsertionK
import Derived.Shelf.GgSortFunc.Tiny
import Derived.Shelf.GgSortFunc.Compose
import Derived.Ground.GgtProg
import Derived.Shelf.GgSortMore.Stable
import Derived.Shelf.Slices.In.SortNone
import Derived.Shelf.Slices.In.SortNone2
import Derived.Test.YtgbblcbpmpokdaaProg
namespace Go.Proofs
open Go.Shelf
def Try.lays192_ren : Go.Shelf.Ren := ⟨fun | 192 => 58 | 190 => 87 | 125 => 104 | 258 => 103 | 128 => 129 | 129 => 130 | 302 => 120 | 303 => 121 | 304 => 122 | 305 => 123 | 306 => 124 | 307 => 125 | 308 => 126 | 309 => 127 | 310 => 128 | 333 => 134 | 329 => 135 | 330 => 136 | 334 => 137 | 335 => 138 | 336 => 139 | 344 => 141 | n => n, fun | 31 => 45 | 0 => 0 | 9 => 9 | 3 => 3 | 46 => 116 | 51 => 134 | 53 => 136 | 4 => 4 | 183 => 126 | 182 => 125 | 131 => 131 | 5 => 5 | 218 => 137 | 222 => 141 | 228 => 143 | 229 => 144 | n => n, fun | n => n⟩
theorem Try.lays192 : Go.Proofs.Lays.n192 Try.prog Try.lays192_ren := {
  mixed := by kernel_rfl
  f125 := Try.func104.trans (congrArg some (by kernel_rfl))
  f128 := Try.func129.trans (congrArg some (by kernel_rfl))
  f129 := Try.func130.trans (congrArg some (by kernel_rfl))
  f190 := Try.func87.trans (congrArg some (by kernel_rfl))
  f192 := Try.func58.trans (congrArg some (by kernel_rfl))
  f258 := Try.func103.trans (congrArg some (by kernel_rfl))
  f302 := Try.func120.trans (congrArg some (by kernel_rfl))
  f303 := Try.func121.trans (congrArg some (by kernel_rfl))
  f304 := Try.func122.trans (congrArg some (by kernel_rfl))
  f305 := Try.func123.trans (congrArg some (by kernel_rfl))
  f306 := Try.func124.trans (congrArg some (by kernel_rfl))
  f307 := Try.func125.trans (congrArg some (by kernel_rfl))
  f308 := Try.func126.trans (congrArg some (by kernel_rfl))
  f309 := Try.func127.trans (congrArg some (by kernel_rfl))
  f310 := Try.func128.trans (congrArg some (by kernel_rfl))
  f329 := Try.func135.trans (congrArg some (by kernel_rfl))
  f330 := Try.func136.trans (congrArg some (by kernel_rfl))
  f333 := Try.func134.trans (congrArg some (by kernel_rfl))
  f334 := Try.func137.trans (congrArg some (by kernel_rfl))
  f335 := Try.func138.trans (congrArg some (by kernel_rfl))
  f336 := Try.func139.trans (congrArg some (by kernel_rfl))
  f344 := Try.func141.trans (congrArg some (by kernel_rfl))
  t0 := Try.underlying0
  a0 := Try.isAgg0
  z0 := Try.sizeOf0
  v0 := Try.zeroValue0
  t3 := Try.underlying3
  a3 := Try.isAgg3
  z3 := Try.sizeOf3
  v3 := Try.zeroValue3
  t4 := Try.underlying4
  a4 := Try.isAgg4
  z4 := Try.sizeOf4
  v4 := Try.zeroValue4
  t5 := Try.underlying5
  a5 := Try.isAgg5
  z5 := Try.sizeOf5
  v5 := Try.zeroValue5
  t9 := Try.underlying9
  a9 := Try.isAgg9
  z9 := Try.sizeOf9
  v9 := Try.zeroValue9
  t31 := Try.underlying45
  a31 := Try.isAgg45
  z31 := Try.sizeOf45
  v31 := Try.zeroValue45
  t46 := Try.underlying116
  a46 := Try.isAgg116
  z46 := Try.sizeOf116
  v46 := Try.zeroValue116
  t51 := Try.underlying134
  a51 := Try.isAgg134
  z51 := Try.sizeOf134
  v51 := Try.zeroValue134
  t53 := Try.underlying136
  a53 := Try.isAgg136
  z53 := Try.sizeOf136
  v53 := Try.zeroValue136
  t131 := Try.underlying131
  a131 := Try.isAgg131
  z131 := Try.sizeOf131
  v131 := Try.zeroValue131
  t182 := Try.underlying125
  a182 := Try.isAgg125
  z182 := Try.sizeOf125
  v182 := Try.zeroValue125
  t183 := Try.underlying126
  a183 := Try.isAgg126
  z183 := Try.sizeOf126
  v183 := Try.zeroValue126
  t218 := Try.underlying137
  a218 := Try.isAgg137
  z218 := Try.sizeOf137
  v218 := Try.zeroValue137
  t222 := Try.underlying141
  a222 := Try.isAgg141
  z222 := Try.sizeOf141
  v222 := Try.zeroValue141
  t228 := Try.underlying143
  a228 := Try.isAgg143
  z228 := Try.sizeOf143
  v228 := Try.zeroValue143
  t229 := Try.underlying144
  a229 := Try.isAgg144
  z229 := Try.sizeOf144
  v229 := Try.zeroValue144 }
open Go.Sort Go.RowKit in
theorem Try.sort_Strings (blk off cap : Nat) (ss : List (List UInt8)) (w : World) (hH : Holds encStr w blk off ss.toArray) (hblk : blk < w.heap.size) (hsz : ss.length < 4611686018427387904) :
    Calls Try.prog 58 #[.slice (some ⟨blk, off, none⟩) ss.length cap] w fun e w' =>
      e = .returned (.tuple #[]) ∧ ∃ n os, w' = grow (putRow encStr (Sort.ahead w n) blk off (ss.mergeSort fun x y => decide (x ≤ y)).toArray) os := Any.sort_Strings Try.lays192 blk off cap ss w hH hblk hsz
def Try.laysGg26_ren : Go.Shelf.Ren := ⟨fun | 26 => 118 | n => n, fun | 44 => 108 | 3 => 3 | 0 => 0 | 4 => 4 | 26 => 86 | 37 => 104 | n => n, fun | n => n⟩
theorem Try.laysGg26 : Go.Proofs.LaysGg.n26 Try.prog Try.laysGg26_ren := {
  mixed := by kernel_rfl
  f26 := Try.func118.trans (congrArg some (by kernel_rfl))
  t0 := Try.underlying0
  a0 := Try.isAgg0
  z0 := Try.sizeOf0
  v0 := Try.zeroValue0
  i0 := by kernel_rfl
  t3 := Try.underlying3
  a3 := Try.isAgg3
  z3 := Try.sizeOf3
  v3 := Try.zeroValue3
  i3 := by kernel_rfl
  t4 := Try.underlying4
  a4 := Try.isAgg4
  z4 := Try.sizeOf4
  v4 := Try.zeroValue4
  i4 := by kernel_rfl
  t26 := Try.underlying86
  a26 := Try.isAgg86
  z26 := Try.sizeOf86
  v26 := Try.zeroValue86
  i26 := by kernel_rfl
  t37 := Try.underlying104
  a37 := Try.isAgg104
  z37 := Try.sizeOf104
  v37 := Try.zeroValue104
  i37 := by kernel_rfl
  t44 := Try.underlying108
  a44 := Try.isAgg108
  z44 := Try.sizeOf108
  v44 := Try.zeroValue108
  i44 := by kernel_rfl }
open Go.RowKit Go.Lib Go.Sort in
theorem Try.insertionSort_func_none (lf : Fn) (la lb : Array Value) (f : Nat) (sb : Array Value) (a b : Nat) (h : b ≤ a + 1) (ha : a < 4611686018427387904) (w : World) :
    Calls Try.prog 118 #[.agg #[.func lf la lb, .func (.func f) #[] sb], .int .i64 a, .int .i64 b] w fun e w' => e = .returned (.tuple #[]) ∧ w' = w.alloc (.cells #[.func lf la lb, .func (.func f) #[] sb] 108) := Any.insertionSort_func_none Try.laysGg26 lf la lb f sb a b h ha w
open Go.RowKit Go.Lib Go.Sort in
theorem Try.insertionSort_func_w {α : Type} [Inhabited α] (enc : α → Value) (lt : α → α → Bool) (g : Nat) (lb : Array Value) (sf : Nat) (sb : Array Value) (blk off a b : Nat) (d : Array α) (w : World) (eg : ∀ args w, (callFunc g args).run Try.prog w = .ok (.enter g args) w) (hless : LessReads Try.prog g lb enc lt blk off d.size w) (hswap : SwapSwaps Try.prog sf sb enc blk off d.size) (hH : Holds enc w blk off d) (hblk : blk < w.heap.size) (hab : a ≤ b) (hb : b ≤ d.size) (hsz : d.size < 4611686018427387904) :
    Calls Try.prog 118 #[.agg #[.func (.func g) #[] lb, .func (.func sf) #[] sb], .int .i64 a, .int .i64 b] w fun e w' => e = .returned (.tuple #[]) ∧ ∃ n os, w' = sortWorld enc w blk off n (Sort.insertionSort lt d a b) os := Any.insertionSort_func_w Try.laysGg26 enc lt g lb sf sb blk off a b d w eg hless hswap hH hblk hab hb hsz
def Try.laysGt15_ren : Go.Shelf.Ren := ⟨fun | 15 => 93 | 29 => 118 | 30 => 119 | 42 => 133 | 49 => 140 | n => n, fun | 42 => 108 | 3 => 3 | 0 => 0 | 4 => 4 | 26 => 86 | 38 => 104 | 47 => 116 | n => n, fun | n => n⟩
theorem Try.laysGt15 : Go.Proofs.LaysGt.n15 Try.prog Try.laysGt15_ren := {
  mixed := by kernel_rfl
  f15 := Try.func93.trans (congrArg some (by kernel_rfl))
  f29 := Try.func118.trans (congrArg some (by kernel_rfl))
  f30 := Try.func119.trans (congrArg some (by kernel_rfl))
  f42 := Try.func133.trans (congrArg some (by kernel_rfl))
  f49 := Try.func140.trans (congrArg some (by kernel_rfl))
  t0 := Try.underlying0
  a0 := Try.isAgg0
  z0 := Try.sizeOf0
  v0 := Try.zeroValue0
  i0 := by kernel_rfl
  t3 := Try.underlying3
  a3 := Try.isAgg3
  z3 := Try.sizeOf3
  v3 := Try.zeroValue3
  i3 := by kernel_rfl
  t4 := Try.underlying4
  a4 := Try.isAgg4
  z4 := Try.sizeOf4
  v4 := Try.zeroValue4
  i4 := by kernel_rfl
  t26 := Try.underlying86
  a26 := Try.isAgg86
  z26 := Try.sizeOf86
  v26 := Try.zeroValue86
  i26 := by kernel_rfl
  t38 := Try.underlying104
  a38 := Try.isAgg104
  z38 := Try.sizeOf104
  v38 := Try.zeroValue104
  i38 := by kernel_rfl
  t42 := Try.underlying108
  a42 := Try.isAgg108
  z42 := Try.sizeOf108
  v42 := Try.zeroValue108
  i42 := by kernel_rfl
  t47 := Try.underlying116
  a47 := Try.isAgg116
  z47 := Try.sizeOf116
  v47 := Try.zeroValue116
  i47 := by kernel_rfl }
open Go.RowKit Go.Lib Go.Sort in
theorem Try.stable_func_tiny {α : Type} [Inhabited α] (lf : Fn) (la lb : Array Value) (f : Nat) (sb : Array Value) (n : Nat) (hn : n ≤ 1) (W : World) :
    Calls Try.prog 93 #[.agg #[.func lf la lb, .func (.func f) #[] sb], .int .i64 n] W fun e w' => e = .returned (.tuple #[]) ∧ ∃ os, w' = grow W os := Any.stable_func_tiny Try.laysGt15 lf la lb f sb n hn W
def Try.laysGt8_ren : Go.Shelf.Ren := ⟨fun | 8 => 69 | 13 => 91 | 14 => 92 | 16 => 94 | 15 => 93 | 29 => 118 | 30 => 119 | 42 => 133 | 49 => 140 | n => n, fun | 20 => 20 | 26 => 86 | 36 => 102 | 0 => 0 | 38 => 104 | 42 => 108 | 3 => 3 | 4 => 4 | 47 => 116 | 17 => 17 | 33 => 99 | 34 => 100 | 89 => 159 | 12 => 12 | 56 => 134 | 82 => 152 | 5 => 5 | 83 => 153 | 84 => 154 | 85 => 155 | 86 => 156 | 87 => 157 | n => n, fun | n => n⟩
theorem Try.laysGt8 : Go.Proofs.LaysGt.n8 Try.prog Try.laysGt8_ren := {
  mixed := by kernel_rfl
  f8 := Try.func69.trans (congrArg some (by kernel_rfl))
  f13 := Try.func91.trans (congrArg some (by kernel_rfl))
  f14 := Try.func92.trans (congrArg some (by kernel_rfl))
  f15 := Try.func93.trans (congrArg some (by kernel_rfl))
  f16 := Try.func94.trans (congrArg some (by kernel_rfl))
  f29 := Try.func118.trans (congrArg some (by kernel_rfl))
  f30 := Try.func119.trans (congrArg some (by kernel_rfl))
  f42 := Try.func133.trans (congrArg some (by kernel_rfl))
  f49 := Try.func140.trans (congrArg some (by kernel_rfl))
  t0 := Try.underlying0
  a0 := Try.isAgg0
  z0 := Try.sizeOf0
  v0 := Try.zeroValue0
  i0 := by kernel_rfl
  t3 := Try.underlying3
  a3 := Try.isAgg3
  z3 := Try.sizeOf3
  v3 := Try.zeroValue3
  i3 := by kernel_rfl
  t4 := Try.underlying4
  a4 := Try.isAgg4
  z4 := Try.sizeOf4
  v4 := Try.zeroValue4
  i4 := by kernel_rfl
  t5 := Try.underlying5
  a5 := Try.isAgg5
  z5 := Try.sizeOf5
  v5 := Try.zeroValue5
  i5 := by kernel_rfl
  t12 := Try.underlying12
  a12 := Try.isAgg12
  z12 := Try.sizeOf12
  v12 := Try.zeroValue12
  i12 := by kernel_rfl
  t17 := Try.underlying17
  a17 := Try.isAgg17
  z17 := Try.sizeOf17
  v17 := Try.zeroValue17
  i17 := by kernel_rfl
  t20 := Try.underlying20
  a20 := Try.isAgg20
  z20 := Try.sizeOf20
  v20 := Try.zeroValue20
  i20 := by kernel_rfl
  t26 := Try.underlying86
  a26 := Try.isAgg86
  z26 := Try.sizeOf86
  v26 := Try.zeroValue86
  i26 := by kernel_rfl
  t33 := Try.underlying99
  a33 := Try.isAgg99
  z33 := Try.sizeOf99
  v33 := Try.zeroValue99
  i33 := by kernel_rfl
  t34 := Try.underlying100
  a34 := Try.isAgg100
  z34 := Try.sizeOf100
  v34 := Try.zeroValue100
  i34 := by kernel_rfl
  t36 := Try.underlying102
  a36 := Try.isAgg102
  z36 := Try.sizeOf102
  v36 := Try.zeroValue102
  i36 := by kernel_rfl
  t38 := Try.underlying104
  a38 := Try.isAgg104
  z38 := Try.sizeOf104
  v38 := Try.zeroValue104
  i38 := by kernel_rfl
  t42 := Try.underlying108
  a42 := Try.isAgg108
  z42 := Try.sizeOf108
  v42 := Try.zeroValue108
  i42 := by kernel_rfl
  t47 := Try.underlying116
  a47 := Try.isAgg116
  z47 := Try.sizeOf116
  v47 := Try.zeroValue116
  i47 := by kernel_rfl
  t56 := Try.underlying134
  a56 := Try.isAgg134
  z56 := Try.sizeOf134
  v56 := Try.zeroValue134
  i56 := by kernel_rfl
  t82 := Try.underlying152
  a82 := Try.isAgg152
  z82 := Try.sizeOf152
  v82 := Try.zeroValue152
  i82 := by kernel_rfl
  t83 := Try.underlying153
  a83 := Try.isAgg153
  z83 := Try.sizeOf153
  v83 := Try.zeroValue153
  i83 := by kernel_rfl
  t84 := Try.underlying154
  a84 := Try.isAgg154
  z84 := Try.sizeOf154
  v84 := Try.zeroValue154
  i84 := by kernel_rfl
  t85 := Try.underlying155
  a85 := Try.isAgg155
  z85 := Try.sizeOf155
  v85 := Try.zeroValue155
  i85 := by kernel_rfl
  t86 := Try.underlying156
  a86 := Try.isAgg156
  z86 := Try.sizeOf156
  v86 := Try.zeroValue156
  i86 := by kernel_rfl
  t87 := Try.underlying157
  a87 := Try.isAgg157
  z87 := Try.sizeOf157
  v87 := Try.zeroValue157
  i87 := by kernel_rfl
  t89 := Try.underlying159
  a89 := Try.isAgg159
  z89 := Try.sizeOf159
  v89 := Try.zeroValue159
  i89 := by kernel_rfl }
open Go.RowKit Go.Sort in
theorem Try.sort_Strings_none (p : Option Addr) (cap : Nat) (w : World) :
    Calls Try.prog 58 #[.slice p 0 cap] w fun e w' => e = .returned (.tuple #[]) ∧ w' = w := Any.sort_Strings_none Try.lays192 p cap w

end Go.Proofs

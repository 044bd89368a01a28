/- The proof's texts, part 4 of 5: the walks by a logic in which data are by value, the plain laws, and at the end the law, for every input. -/
import Derived.Test.YtlhjieapkcnghaaDoorMgUriHolds3
import Derived.Shelf.Strings.Builder1
import Derived.Shelf.Strings.Builder2
import Derived.Shelf.Strings.OnBuilder
import Derived.Shelf.Small.Utf8
import Derived.Shelf.Small.Strs
import Derived.Shelf.Small.Wraps
import Derived.Shelf.Strings.BuilderF
import Derived.Shelf.Strings.BuilderK
import Derived.Shelf.Utf8.RuneCount
import Derived.Shelf.Strings.Builder2Cap
import Derived.Shelf.Strings.Search1
import Derived.Shelf.Strings.Search2
import Derived.Shelf.Strings.Search3
import Derived.Shelf.Strings.Cut
import Derived.Shelf.Strings.Count
import Derived.Shelf.LaysM
import Derived.Shelf.Strings.Shaped
import Derived.Shelf.Strings.Prefix
import Derived.Shelf.Strings.Split
import Derived.Shelf.Strings.SplitShaped
import Derived.Shelf.Unicode.Decode
import Derived.Shelf.Strings.Runes
import Derived.Shelf.Strings.RuneCount
import Derived.Shelf.Strings.IndexAny
import Derived.Shelf.Strings.AsciiSet
import Derived.Shelf.Strings.IndexAnyAll
import Derived.Shelf.Strings.Explode
import Derived.Shelf.Unicode.DecodeSlow
import Derived.Shelf.Unicode.DecodeAny
import Derived.Shelf.Strings.BuilderCap
import Derived.Test.YtlhjieapkcnghaaDoorProg

section
namespace Go.Proofs
open Go.Shelf
def Tryd.lays137_ren : Go.Shelf.Ren := ⟨fun | 137 => 72 | 217 => 89 | 266 => 102 | n => n, fun | 9 => 9 | 5 => 5 | 3 => 3 | n => n, fun | n => n⟩
theorem Tryd.lays137 : Go.Proofs.Lays.n137 Tryd.prog Tryd.lays137_ren := {
  mixed := by kernel_rfl
  f137 := Tryd.func72.trans (congrArg some (by kernel_rfl))
  f217 := Tryd.func89.trans (congrArg some (by kernel_rfl))
  f266 := Tryd.func102.trans (congrArg some (by kernel_rfl))
  t3 := Tryd.underlying3
  a3 := Tryd.isAgg3
  z3 := Tryd.sizeOf3
  v3 := Tryd.zeroValue3
  t5 := Tryd.underlying5
  a5 := Tryd.isAgg5
  z5 := Tryd.sizeOf5
  v5 := Tryd.zeroValue5
  t9 := Tryd.underlying9
  a9 := Tryd.isAgg9
  z9 := Tryd.sizeOf9
  v9 := Tryd.zeroValue9 }
open Go.RowKit in
/-- strings.IndexByte: "IndexByte returns the index of the first instance of c in s, or -1 if c is not present in s.": IT RETURNS 'Lib.indexByte s c'; the world is as it was. (LAID: no walk: one application.) -/
theorem Tryd.strings_IndexByte (s : ByteArray) (c : Int) (w : World) :
    Calls Tryd.prog 72 #[.string s, .int .u8 c] w fun e w' => e = .returned (.int .i64 (Lib.indexByte s.data.toList c.toNat.toUInt8)) ∧ w' = w := Any.strings_IndexByte Tryd.lays137 s c w
def Tryd.lays103_ren : Go.Shelf.Ren := ⟨fun | 103 => 77 | 210 => 92 | 206 => 90 | n => n, fun | 9 => 9 | 4 => 4 | 24 => 23 | 3 => 3 | n => n, fun | n => n⟩
theorem Tryd.lays103 : Go.Proofs.Lays.n103 Tryd.prog Tryd.lays103_ren := {
  mixed := by kernel_rfl
  f103 := Tryd.func77.trans (congrArg some (by kernel_rfl))
  f206 := Tryd.func90.trans (congrArg some (by kernel_rfl))
  f210 := Tryd.func92.trans (congrArg some (by kernel_rfl))
  t3 := Tryd.underlying3
  a3 := Tryd.isAgg3
  z3 := Tryd.sizeOf3
  v3 := Tryd.zeroValue3
  t4 := Tryd.underlying4
  a4 := Tryd.isAgg4
  z4 := Tryd.sizeOf4
  v4 := Tryd.zeroValue4
  t9 := Tryd.underlying9
  a9 := Tryd.isAgg9
  z9 := Tryd.sizeOf9
  v9 := Tryd.zeroValue9
  t24 := Tryd.underlying23
  a24 := Tryd.isAgg23
  z24 := Tryd.sizeOf23
  v24 := Tryd.zeroValue23 }
open Go.RowKit in
/-- strings.CutPrefix: "CutPrefix returns s without the provided leading prefix string and reports whether it found the prefix. If s doesn't start with prefix, CutPrefix returns s, false. If prefix is the empty string, CutPrefix returns s, true.": IT RETURNS '(Lib.trimPrefix s p, Lib.hasPrefix s p)'; the world is as it was. (LAID: no walk: one application.) -/
theorem Tryd.strings_CutPrefix (s p : ByteArray) (w : World) :
    Calls Tryd.prog 77 #[.string s, .string p] w fun e w' => e = .returned (.tuple #[.string ⟨(Lib.trimPrefix s.data.toList p.data.toList).toArray⟩, .bool (Lib.hasPrefix s.data.toList p.data.toList)]) ∧ w' = w := Any.strings_CutPrefix Tryd.lays103 s p w
def Tryd.lays217_ren : Go.Shelf.Ren := ⟨fun | 217 => 89 | 266 => 102 | n => n, fun | 9 => 9 | 5 => 5 | 3 => 3 | n => n, fun | n => n⟩
theorem Tryd.lays217 : Go.Proofs.Lays.n217 Tryd.prog Tryd.lays217_ren := {
  mixed := by kernel_rfl
  f217 := Tryd.func89.trans (congrArg some (by kernel_rfl))
  f266 := Tryd.func102.trans (congrArg some (by kernel_rfl))
  t3 := Tryd.underlying3
  a3 := Tryd.isAgg3
  z3 := Tryd.sizeOf3
  v3 := Tryd.zeroValue3
  t5 := Tryd.underlying5
  a5 := Tryd.isAgg5
  z5 := Tryd.sizeOf5
  v5 := Tryd.zeroValue5
  t9 := Tryd.underlying9
  a9 := Tryd.isAgg9
  z9 := Tryd.sizeOf9
  v9 := Tryd.zeroValue9 }
open Go.RowKit Go.Lib in
/-- internal/stringslite.IndexByte (what strings.IndexByte calls): IT RETURNS 'Lib.indexByte s c'; the world is as it was. (LAID: no walk: one application.) -/
theorem Tryd.stringslite_IndexByte (s : ByteArray) (c : Int) (w : World) :
    Calls Tryd.prog 89 #[.string s, .int .u8 c] w fun e w' => e = .returned (.int .i64 (Lib.indexByte s.data.toList c.toNat.toUInt8)) ∧ w' = w := Any.stringslite_IndexByte Tryd.lays217 s c w
def Tryd.lays219_ren : Go.Shelf.Ren := ⟨fun | 219 => 84 | 217 => 89 | 225 => 98 | 224 => 99 | 267 => 100 | 266 => 102 | 314 => 104 | n => n, fun | 9 => 9 | 3 => 3 | 4 => 4 | 5 => 5 | 46 => 93 | 146 => 116 | 51 => 115 | n => n, fun | 1 => 0 | n => n⟩
theorem Tryd.lays219 : Go.Proofs.Lays.n219 Tryd.prog Tryd.lays219_ren := {
  mixed := by kernel_rfl
  f217 := Tryd.func89.trans (congrArg some (by kernel_rfl))
  f219 := Tryd.func84.trans (congrArg some (by kernel_rfl))
  f224 := Tryd.func99.trans (congrArg some (by kernel_rfl))
  f225 := Tryd.func98.trans (congrArg some (by kernel_rfl))
  f266 := Tryd.func102.trans (congrArg some (by kernel_rfl))
  f267 := Tryd.func100.trans (congrArg some (by kernel_rfl))
  f314 := Tryd.func104.trans (congrArg some (by kernel_rfl))
  t3 := Tryd.underlying3
  a3 := Tryd.isAgg3
  z3 := Tryd.sizeOf3
  v3 := Tryd.zeroValue3
  t4 := Tryd.underlying4
  a4 := Tryd.isAgg4
  z4 := Tryd.sizeOf4
  v4 := Tryd.zeroValue4
  t5 := Tryd.underlying5
  a5 := Tryd.isAgg5
  z5 := Tryd.sizeOf5
  v5 := Tryd.zeroValue5
  t9 := Tryd.underlying9
  a9 := Tryd.isAgg9
  z9 := Tryd.sizeOf9
  v9 := Tryd.zeroValue9
  t46 := Tryd.underlying93
  a46 := Tryd.isAgg93
  z46 := Tryd.sizeOf93
  v46 := Tryd.zeroValue93
  t51 := Tryd.underlying115
  a51 := Tryd.isAgg115
  z51 := Tryd.sizeOf115
  v51 := Tryd.zeroValue115
  t146 := Tryd.underlying116
  a146 := Tryd.isAgg116
  z146 := Tryd.sizeOf116
  v146 := Tryd.zeroValue116
  g1 := by kernel_rfl }
open Go.RowKit Go.Lib in
/-- internal/stringslite.Index (what strings.Index calls) AT A substr OF WHATEVER LENGTH: IT RETURNS 'Lib.index s substr'; the world is as it was. 'm': what internal/bytealg.MaxLen holds: whatever. (LAID: no walk: one application.) -/
theorem Tryd.stringslite_Index (s sub : ByteArray) (m : Int) (w : World) (hs : s.size < 4294967281) (hm : w.cell? ⟨0, 0, none⟩ = some (.int .i64 m)) :
    Calls Tryd.prog 84 #[.string s, .string sub] w fun e w' => e = .returned (.int .i64 (Lib.index s.data.toList sub.data.toList)) ∧ w' = w := Any.stringslite_Index Tryd.lays219 s sub m w hs hm
def Tryd.lays145_ren : Go.Shelf.Ren := ⟨fun | 145 => 41 | 220 => 65 | 219 => 84 | 217 => 89 | 225 => 98 | 224 => 99 | 267 => 100 | 266 => 102 | 314 => 104 | n => n, fun | 9 => 9 | 4 => 4 | 59 => 59 | 3 => 3 | 5 => 5 | 46 => 93 | 146 => 116 | 51 => 115 | n => n, fun | 1 => 0 | n => n⟩
theorem Tryd.lays145 : Go.Proofs.Lays.n145 Tryd.prog Tryd.lays145_ren := {
  mixed := by kernel_rfl
  f145 := Tryd.func41.trans (congrArg some (by kernel_rfl))
  f217 := Tryd.func89.trans (congrArg some (by kernel_rfl))
  f219 := Tryd.func84.trans (congrArg some (by kernel_rfl))
  f220 := Tryd.func65.trans (congrArg some (by kernel_rfl))
  f224 := Tryd.func99.trans (congrArg some (by kernel_rfl))
  f225 := Tryd.func98.trans (congrArg some (by kernel_rfl))
  f266 := Tryd.func102.trans (congrArg some (by kernel_rfl))
  f267 := Tryd.func100.trans (congrArg some (by kernel_rfl))
  f314 := Tryd.func104.trans (congrArg some (by kernel_rfl))
  t3 := Tryd.underlying3
  a3 := Tryd.isAgg3
  z3 := Tryd.sizeOf3
  v3 := Tryd.zeroValue3
  t4 := Tryd.underlying4
  a4 := Tryd.isAgg4
  z4 := Tryd.sizeOf4
  v4 := Tryd.zeroValue4
  t5 := Tryd.underlying5
  a5 := Tryd.isAgg5
  z5 := Tryd.sizeOf5
  v5 := Tryd.zeroValue5
  t9 := Tryd.underlying9
  a9 := Tryd.isAgg9
  z9 := Tryd.sizeOf9
  v9 := Tryd.zeroValue9
  t46 := Tryd.underlying93
  a46 := Tryd.isAgg93
  z46 := Tryd.sizeOf93
  v46 := Tryd.zeroValue93
  t51 := Tryd.underlying115
  a51 := Tryd.isAgg115
  z51 := Tryd.sizeOf115
  v51 := Tryd.zeroValue115
  t59 := Tryd.underlying59
  a59 := Tryd.isAgg59
  z59 := Tryd.sizeOf59
  v59 := Tryd.zeroValue59
  t146 := Tryd.underlying116
  a146 := Tryd.isAgg116
  z146 := Tryd.sizeOf116
  v146 := Tryd.zeroValue116
  g1 := by kernel_rfl }
open Go.RowKit Go.Lib in
/-- strings.Cut: "Cut slices s around the first instance of sep, returning the text before and after sep. The found result reports whether sep appears in s. If sep does not appear in s, cut returns s, "", false.": IT RETURNS 'Lib.cut s sep'; the world is as it was but for the count of draws. (LAID: no walk: one application.) -/
theorem Tryd.strings_Cut (s sep : ByteArray) (m : Int) (w : World) (hs : s.size < 4294967281) (hm : w.cell? ⟨0, 0, none⟩ = some (.int .i64 m)) :
    Calls Tryd.prog 41 #[.string s, .string sep] w fun e w' => e = .returned (.tuple #[.string ⟨(Lib.cut s.data.toList sep.data.toList).1.toArray⟩, .string ⟨(Lib.cut s.data.toList sep.data.toList).2.1.toArray⟩, .bool (Lib.cut s.data.toList sep.data.toList).2.2]) ∧ ∃ n, w' = w.drewN n := Any.strings_Cut Tryd.lays145 s sep m w hs hm
def Tryd.laysM219_ren : Go.Shelf.Ren := ⟨fun | 219 => 84 | 217 => 89 | 225 => 98 | 224 => 99 | 267 => 100 | 266 => 102 | 314 => 104 | n => n, fun | 9 => 9 | 3 => 3 | 4 => 4 | 5 => 5 | 46 => 93 | 146 => 116 | 51 => 115 | n => n, fun | 1 => 0 | n => n⟩
theorem Tryd.laysM219 : Go.Proofs.LaysM.n219 Tryd.prog Tryd.laysM219_ren := {
  mixed := by kernel_rfl
  f217 := Tryd.func89.trans (congrArg some (by kernel_rfl))
  f219 := Tryd.func84.trans (congrArg some (by kernel_rfl))
  f224 := Tryd.func99.trans (congrArg some (by kernel_rfl))
  f225 := Tryd.func98.trans (congrArg some (by kernel_rfl))
  f266 := Tryd.func102.trans (congrArg some (by kernel_rfl))
  f267 := Tryd.func100.trans (congrArg some (by kernel_rfl))
  f314 := Tryd.func104.trans (congrArg some (by kernel_rfl))
  t3 := Tryd.underlying3
  a3 := Tryd.isAgg3
  z3 := Tryd.sizeOf3
  v3 := Tryd.zeroValue3
  t4 := Tryd.underlying4
  a4 := Tryd.isAgg4
  z4 := Tryd.sizeOf4
  v4 := Tryd.zeroValue4
  t5 := Tryd.underlying5
  a5 := Tryd.isAgg5
  z5 := Tryd.sizeOf5
  v5 := Tryd.zeroValue5
  t9 := Tryd.underlying9
  a9 := Tryd.isAgg9
  z9 := Tryd.sizeOf9
  v9 := Tryd.zeroValue9
  t46 := Tryd.underlying93
  a46 := Tryd.isAgg93
  z46 := Tryd.sizeOf93
  v46 := Tryd.zeroValue93
  t51 := Tryd.underlying115
  a51 := Tryd.isAgg115
  z51 := Tryd.sizeOf115
  v51 := Tryd.zeroValue115
  t146 := Tryd.underlying116
  a146 := Tryd.isAgg116
  z146 := Tryd.sizeOf116
  v146 := Tryd.zeroValue116
  g1 := by kernel_rfl
  i3 := by kernel_rfl
  i4 := by kernel_rfl
  i5 := by kernel_rfl
  i9 := by kernel_rfl
  i46 := by kernel_rfl
  i51 := by kernel_rfl
  i146 := by kernel_rfl
  m1 := by kernel_rfl
  s1_3 := fun w h => Go.Proofs.cell_of_shapedOpen_int (zero := #[.int .i64 0]) (t := 3) h (of_decide_eq_true (by kernel_rfl)) (by kernel_rfl) rfl (by kernel_rfl) (by kernel_rfl) Tryd.underlying3 }
def Tryd.lays99_ren : Go.Shelf.Ren := ⟨fun | 99 => 73 | 206 => 90 | n => n, fun | 9 => 9 | 4 => 4 | 3 => 3 | n => n, fun | n => n⟩
theorem Tryd.lays99 : Go.Proofs.Lays.n99 Tryd.prog Tryd.lays99_ren := {
  mixed := by kernel_rfl
  f99 := Tryd.func73.trans (congrArg some (by kernel_rfl))
  f206 := Tryd.func90.trans (congrArg some (by kernel_rfl))
  t3 := Tryd.underlying3
  a3 := Tryd.isAgg3
  z3 := Tryd.sizeOf3
  v3 := Tryd.zeroValue3
  t4 := Tryd.underlying4
  a4 := Tryd.isAgg4
  z4 := Tryd.sizeOf4
  v4 := Tryd.zeroValue4
  t9 := Tryd.underlying9
  a9 := Tryd.isAgg9
  z9 := Tryd.sizeOf9
  v9 := Tryd.zeroValue9 }
open Go.RowKit Go.Lib in
/-- strings.HasPrefix: "HasPrefix reports whether the string s begins with prefix.": IT RETURNS 'Lib.hasPrefix s prefix'; the world is as it was. (LAID: no walk: one application.) -/
theorem Tryd.strings_HasPrefix (s p : ByteArray) (w : World) :
    Calls Tryd.prog 73 #[.string s, .string p] w fun e w' => e = .returned (.bool (Lib.hasPrefix s.data.toList p.data.toList)) ∧ w' = w := Any.strings_HasPrefix Tryd.lays99 s p w
def Tryd.lays146_ren : Go.Shelf.Ren := ⟨fun | 146 => 40 | 221 => 59 | 268 => 79 | 138 => 80 | 143 => 81 | 195 => 93 | 197 => 94 | 218 => 95 | 219 => 84 | 260 => 103 | 217 => 89 | 225 => 98 | 224 => 99 | 267 => 100 | 266 => 102 | 314 => 104 | n => n, fun | 9 => 9 | 31 => 28 | 3 => 3 | 4 => 4 | 0 => 0 | 105 => 57 | 21 => 21 | 5 => 5 | 46 => 93 | 119 => 118 | 139 => 121 | 138 => 120 | 146 => 116 | 51 => 115 | n => n, fun | 1 => 0 | 3 => 1 | 4 => 2 | n => n⟩
theorem Tryd.lays146 : Go.Proofs.Lays.n146 Tryd.prog Tryd.lays146_ren := {
  mixed := by kernel_rfl
  f138 := Tryd.func80.trans (congrArg some (by kernel_rfl))
  f143 := Tryd.func81.trans (congrArg some (by kernel_rfl))
  f146 := Tryd.func40.trans (congrArg some (by kernel_rfl))
  f195 := Tryd.func93.trans (congrArg some (by kernel_rfl))
  f197 := Tryd.func94.trans (congrArg some (by kernel_rfl))
  f217 := Tryd.func89.trans (congrArg some (by kernel_rfl))
  f218 := Tryd.func95.trans (congrArg some (by kernel_rfl))
  f219 := Tryd.func84.trans (congrArg some (by kernel_rfl))
  f221 := Tryd.func59.trans (congrArg some (by kernel_rfl))
  f224 := Tryd.func99.trans (congrArg some (by kernel_rfl))
  f225 := Tryd.func98.trans (congrArg some (by kernel_rfl))
  f260 := Tryd.func103.trans (congrArg some (by kernel_rfl))
  f266 := Tryd.func102.trans (congrArg some (by kernel_rfl))
  f267 := Tryd.func100.trans (congrArg some (by kernel_rfl))
  f268 := Tryd.func79.trans (congrArg some (by kernel_rfl))
  f314 := Tryd.func104.trans (congrArg some (by kernel_rfl))
  t0 := Tryd.underlying0
  a0 := Tryd.isAgg0
  z0 := Tryd.sizeOf0
  v0 := Tryd.zeroValue0
  t3 := Tryd.underlying3
  a3 := Tryd.isAgg3
  z3 := Tryd.sizeOf3
  v3 := Tryd.zeroValue3
  t4 := Tryd.underlying4
  a4 := Tryd.isAgg4
  z4 := Tryd.sizeOf4
  v4 := Tryd.zeroValue4
  t5 := Tryd.underlying5
  a5 := Tryd.isAgg5
  z5 := Tryd.sizeOf5
  v5 := Tryd.zeroValue5
  t9 := Tryd.underlying9
  a9 := Tryd.isAgg9
  z9 := Tryd.sizeOf9
  v9 := Tryd.zeroValue9
  t21 := Tryd.underlying21
  a21 := Tryd.isAgg21
  z21 := Tryd.sizeOf21
  v21 := Tryd.zeroValue21
  t31 := Tryd.underlying28
  a31 := Tryd.isAgg28
  z31 := Tryd.sizeOf28
  v31 := Tryd.zeroValue28
  t46 := Tryd.underlying93
  a46 := Tryd.isAgg93
  z46 := Tryd.sizeOf93
  v46 := Tryd.zeroValue93
  t51 := Tryd.underlying115
  a51 := Tryd.isAgg115
  z51 := Tryd.sizeOf115
  v51 := Tryd.zeroValue115
  t105 := Tryd.underlying57
  a105 := Tryd.isAgg57
  z105 := Tryd.sizeOf57
  v105 := Tryd.zeroValue57
  t119 := Tryd.underlying118
  a119 := Tryd.isAgg118
  z119 := Tryd.sizeOf118
  t138 := Tryd.underlying120
  a138 := Tryd.isAgg120
  z138 := Tryd.sizeOf120
  v138 := Tryd.zeroValue120
  t139 := Tryd.underlying121
  a139 := Tryd.isAgg121
  z139 := Tryd.sizeOf121
  v139 := Tryd.zeroValue121
  t146 := Tryd.underlying116
  a146 := Tryd.isAgg116
  z146 := Tryd.sizeOf116
  v146 := Tryd.zeroValue116
  g1 := by kernel_rfl
  g3 := by kernel_rfl
  g4 := by kernel_rfl }
open Go.RowKit Go.Lib in
/-- strings.Split. (LAID: no walk: one application.) -/
theorem Tryd.strings_Split (s sep : ByteArray) (m : Int) (w : World) (hs : s.size < 4294967281) (hm : w.cell? ⟨0, 0, none⟩ = some (.int .i64 m)) (h1 : 1 ≤ sep.size) :
    Calls Tryd.prog 40 #[.string s, .string sep] w fun e w' =>
      e = .returned (.slice (some ⟨w.heap.size, 0, none⟩) (Lib.countB s sep + 1) (Lib.countB s sep + 1)) ∧ w' = w.alloc (.cells ((Lib.splitB sep 0 (Lib.countB s sep) s).map Value.string).toArray 9) := Any.strings_Split Tryd.lays146 (by kernel_rfl) s sep m w hs hm h1
def Tryd.lays153_ren : Go.Shelf.Ren := ⟨fun | 153 => 69 | 152 => 85 | 226 => 86 | 227 => 87 | 228 => 88 | 137 => 72 | 119 => 101 | 224 => 99 | 225 => 98 | 217 => 89 | 266 => 102 | n => n, fun | 9 => 9 | 3 => 3 | 4 => 4 | 5 => 5 | 21 => 21 | 117 => 107 | 116 => 106 | 0 => 0 | 46 => 93 | 124 => 114 | n => n, fun | n => n⟩
theorem Tryd.lays153 : Go.Proofs.Lays.n153 Tryd.prog Tryd.lays153_ren := {
  mixed := by kernel_rfl
  f119 := Tryd.func101.trans (congrArg some (by kernel_rfl))
  f137 := Tryd.func72.trans (congrArg some (by kernel_rfl))
  f152 := Tryd.func85.trans (congrArg some (by kernel_rfl))
  f153 := Tryd.func69.trans (congrArg some (by kernel_rfl))
  f217 := Tryd.func89.trans (congrArg some (by kernel_rfl))
  f224 := Tryd.func99.trans (congrArg some (by kernel_rfl))
  f225 := Tryd.func98.trans (congrArg some (by kernel_rfl))
  f226 := Tryd.func86.trans (congrArg some (by kernel_rfl))
  f227 := Tryd.func87.trans (congrArg some (by kernel_rfl))
  f228 := Tryd.func88.trans (congrArg some (by kernel_rfl))
  f266 := Tryd.func102.trans (congrArg some (by kernel_rfl))
  t0 := Tryd.underlying0
  a0 := Tryd.isAgg0
  z0 := Tryd.sizeOf0
  v0 := Tryd.zeroValue0
  t3 := Tryd.underlying3
  a3 := Tryd.isAgg3
  z3 := Tryd.sizeOf3
  v3 := Tryd.zeroValue3
  t4 := Tryd.underlying4
  a4 := Tryd.isAgg4
  z4 := Tryd.sizeOf4
  v4 := Tryd.zeroValue4
  t5 := Tryd.underlying5
  a5 := Tryd.isAgg5
  z5 := Tryd.sizeOf5
  v5 := Tryd.zeroValue5
  t9 := Tryd.underlying9
  a9 := Tryd.isAgg9
  z9 := Tryd.sizeOf9
  v9 := Tryd.zeroValue9
  t21 := Tryd.underlying21
  a21 := Tryd.isAgg21
  z21 := Tryd.sizeOf21
  v21 := Tryd.zeroValue21
  t46 := Tryd.underlying93
  a46 := Tryd.isAgg93
  z46 := Tryd.sizeOf93
  v46 := Tryd.zeroValue93
  t116 := Tryd.underlying106
  a116 := Tryd.isAgg106
  z116 := Tryd.sizeOf106
  t117 := Tryd.underlying107
  a117 := Tryd.isAgg107
  z117 := Tryd.sizeOf107
  v117 := Tryd.zeroValue107
  t124 := Tryd.underlying114
  a124 := Tryd.isAgg114
  z124 := Tryd.sizeOf114
  v124 := Tryd.zeroValue114 }
open Go.RowKit Go.Lib in
/-- strings.IndexAny ON ASCII BYTES: the four roads under one statement. (LAID: no walk: one application.) -/
theorem Tryd.strings_IndexAny (hv116 : ∀ w, (zeroValue 106).run Tryd.prog w = .ok (.agg (Array.replicate 256 (.bool false))) w) (s chars : ByteArray) (w : World) (hs : s.size < 4294967281) (hcs : chars.size < 4294967281) (has : ∀ (j : Nat) b, s.data.toList[j]? = some b → b.toNat < 128) (hac : ∀ (j : Nat) b, chars.data.toList[j]? = some b → b.toNat < 128) :
    Calls Tryd.prog 69 #[.string s, .string chars] w fun e w' => e = .returned (.int .i64 (Lib.indexAny s.data.toList chars.data.toList)) ∧ Below w.heap.size w w' := Any.strings_IndexAny Tryd.lays153 hv116 (by kernel_rfl) s chars w hs hcs has hac
open Go.RowKit Go.Lib in
theorem Tryd.strings_IndexAny_laid (s chars : ByteArray) (w : World) (hs : s.size < 4294967281) (hcs : chars.size < 4294967281) (has : ∀ (j : Nat) b, s.data.toList[j]? = some b → b.toNat < 128) (hac : ∀ (j : Nat) b, chars.data.toList[j]? = some b → b.toNat < 128) :
    Calls Tryd.prog 69 #[.string s, .string chars] w fun e w' => e = .returned (.int .i64 (Lib.indexAny s.data.toList chars.data.toList)) ∧ Below w.heap.size w w' := Any.strings_IndexAny_laid Tryd.lays153 (by kernel_rfl) s chars w hs hcs has hac
end Go.Proofs
end

section
namespace Go.Proofs.YtlhjieapkcnghaaDoor
open Go.RowKit

theorem PCall.ofCallsG {P : Program} {f : FuncId} {args : List V} {r : D} {R : Value} (hn : isFn P f = true) (hr : ∀ G w, DRel G w r R)
    (h : ∀ w us, (∃ C, GlobOk C w) → us.size = args.length → (∀ (j : Nat) x u, args[j]? = some x → us[j]? = some u → ∃ C, VRel C w x u) → Calls P f us w fun e w' => e = .returned R ∧ Below w.heap.size w w') : PCall P f args r :=
  ⟨hn, fun C w us hg hs hrel => (h w us ⟨C, hg⟩ hs fun j x u hx hu => ⟨_, hrel j x u hx hu⟩).mono fun _ _ ⟨he, hb⟩ => ⟨R, he, hr _ _, hb⟩⟩
theorem given_str {C : Nat → Nat → Prop} {w : World} {l : List UInt8} {u : Value} (h : VRel C w (sV l) u) : u = .string ⟨l.toArray⟩ := by cases h; rfl
theorem given_int {C : Nat → Nat → Prop} {w : World} {k : IntKind} {n : Int} {u : Value} (h : VRel C w (.v (.int k n)) u) : u = .int k n := by cases h; rfl
theorem below_same {w w' : World} (h : w' = w) : Below w.heap.size w w' := by subst h; exact Below.refl _ _
theorem need_some {p : Prop} [Decidable p] {R : Type} {f : Unit → Option R} {r : R} (h : (need p >>= f) = some r) : p ∧ f () = some r := by
  unfold need at h
  split at h
  · exact ⟨by assumption, h⟩
  · cases h
theorem indexByte_ok (l : List UInt8) (c : Int) : PCall Tryd.prog 89 [sV l, nV .u8 c] (.p (iV (Lib.indexByte l c.toNat.toUInt8))) := by
  refine PCall.ofCallsG (by kernel_rfl) (fun _ _ => .p _ _ (.v _ rfl)) fun w us _ hs h => ?_
  obtain ⟨a, b, rfl⟩ := us2 hs
  obtain ⟨_, h0⟩ := h 0 _ a rfl rfl
  obtain ⟨_, h1⟩ := h 1 _ b rfl rfl
  rw [given_str h0, given_int h1]
  exact (Tryd.stringslite_IndexByte _ c w).mono fun e w' ⟨he, hw⟩ => ⟨he, below_same hw⟩
theorem index_ok (l s : List UInt8) (hl : l.length < 4294967281) : PCall Tryd.prog 84 [sV l, sV s] (.p (iV (Lib.index l s))) := by
  refine PCall.ofCallsG (by kernel_rfl) (fun _ _ => .p _ _ (.v _ rfl)) fun w us hg hs h => ?_
  obtain ⟨a, b, rfl⟩ := us2 hs
  obtain ⟨_, h0⟩ := h 0 _ a rfl rfl
  obtain ⟨_, h1⟩ := h 1 _ b rfl rfl
  obtain ⟨_, hg⟩ := hg
  obtain ⟨m, -, hm⟩ := hg 0 (by simp [globsL])
  rw [given_str h0, given_str h1]
  exact (Tryd.stringslite_Index _ _ m w (by show l.toArray.size < _; simpa using hl) hm).mono fun e w' ⟨he, hw⟩ => ⟨he, below_same hw⟩
end Go.Proofs.YtlhjieapkcnghaaDoor
end

section
namespace Go.Proofs.YtlhjieapkcnghaaDoor
open Go.RowKit

theorem all_ascii {l : List UInt8} (h : l.all (fun b => decide (b.toNat < 128)) = true) : ∀ (j : Nat) b, l[j]? = some b → b.toNat < 128 :=
  fun _ b hb => of_decide_eq_true (List.all_eq_true.1 h b (List.mem_of_getElem? hb))
theorem indexAny_ok (l s : List UInt8) (hl : l.length < 4294967281) (hs : s.length < 4294967281) (h3 : l.all (fun b => decide (b.toNat < 128)) = true) (h4 : s.all (fun b => decide (b.toNat < 128)) = true) : PCall Tryd.prog 69 [sV l, sV s] (.p (iV (Lib.indexAny l s))) := by
  refine PCall.ofCallsG (by kernel_rfl) (fun _ _ => .p _ _ (.v _ rfl)) fun w us _ hs' h => ?_
  obtain ⟨a, b, rfl⟩ := us2 hs'
  obtain ⟨_, h0⟩ := h 0 _ a rfl rfl
  obtain ⟨_, h1⟩ := h 1 _ b rfl rfl
  rw [given_str h0, given_str h1]
  exact Any.strings_IndexAny_laid Tryd.lays153 (by kernel_rfl) ⟨l.toArray⟩ ⟨s.toArray⟩ w (by show l.toArray.size < _; simpa using hl) (by show s.toArray.size < _; simpa using hs) (all_ascii h3) (all_ascii h4)
theorem split_ok (l s : List UInt8) (hl : l.length < 4294967281) (h1 : 1 ≤ s.length) : PCall Tryd.prog 40 [sV l, sV s] (.p (.sl false ((Lib.split l s).map cStr))) := by
  refine ⟨by kernel_rfl, fun C w us hg hs hrel => ?_⟩
  obtain ⟨a, b, rfl⟩ := us2 hs
  have h0 := hrel 0 _ a rfl rfl
  have h2 := hrel 1 _ b rfl rfl
  obtain ⟨m, -, hm⟩ := hg 0 (by simp [globsL])
  rw [given_str h0, given_str h2]
  refine (Tryd.strings_Split ⟨l.toArray⟩ ⟨s.toArray⟩ m w (by show l.toArray.size < _; simpa using hl) hm (by show 1 ≤ s.toArray.size; simpa using h1)).mono fun e w' ⟨he, hw⟩ => ?_
  subst hw
  have hlen := Lib.splitB_all ⟨s.toArray⟩ (by show 1 ≤ s.toArray.size; simpa using h1) 0 _ ⟨l.toArray⟩ rfl
  have hd : (Lib.splitB ⟨s.toArray⟩ 0 (Lib.countB ⟨l.toArray⟩ ⟨s.toArray⟩) ⟨l.toArray⟩).map (·.data.toList) = Lib.split l s := by
    have hd := Lib.splitB_data ⟨s.toArray⟩ 0 (Lib.countB ⟨l.toArray⟩ ⟨s.toArray⟩) ⟨l.toArray⟩
    rw [hd]; rfl
  have hle := Lib.countB_le ⟨s.toArray⟩ (by show 1 ≤ s.toArray.size; simpa using h1) l.length ⟨l.toArray⟩ (by show l.toArray.size ≤ _; simp)
  have hsz : (⟨l.toArray⟩ : ByteArray).size = l.length := by show l.toArray.size = _; simp
  generalize Lib.splitB ⟨s.toArray⟩ 0 (Lib.countB ⟨l.toArray⟩ ⟨s.toArray⟩) ⟨l.toArray⟩ = xs at hlen hd ⊢
  rw [← hlen] at he
  rw [← hd]
  refine ⟨_, he, .p _ _ ?_, (Below.refl _ w).alloc (Nat.le_refl _) _⟩
  have hr := row_rel (C := fun b o => C b o ∨ w.heap.size ≤ b) (w := w.alloc (.cells (xs.map Value.string).toArray 9)) w.heap.size (xs.map Value.string).toArray 9 (0, 0) (heap_alloc_new w _) (fun o => .inr (Nat.le_refl _)) false ((xs.map (·.data.toList)).map cStr) 1 xs.length
    (by simp) (by unfold maxLen; omega) (fun h => by cases h) (fun e he => by
      obtain ⟨y, -, rfl⟩ := List.mem_map.1 he
      rfl) (fun i k e' c he' hc' => ?_)
  · rw [List.length_map, List.length_map] at hr
    exact hr
  · rw [List.getElem?_map, List.getElem?_map] at he'
    cases hx : xs[i]? with
    | none => rw [hx] at he'; cases he'
    | some y =>
      rw [hx] at he'
      cases he'
      cases k with
      | succ k => simp [cStr] at hc'
      | zero =>
        have e0 : c = sV y.data.toList := by simpa [cStr] using hc'.symm
        subst e0
        refine ⟨.string y, ?_, rfl, .v _ rfl⟩
        rw [Nat.mul_one, Nat.add_zero, List.getElem?_toArray, List.getElem?_map, hx]; rfl
end Go.Proofs.YtlhjieapkcnghaaDoor
end

section
set_option linter.unusedVariables false
set_option linter.unusedSimpArgs false
namespace Go.Proofs.YtlhjieapkcnghaaDoor
open Go.RowKit

structure api_Pair where
  Key : (List UInt8)
  Val : (List UInt8)
noncomputable def c_api_Pair (x : api_Pair) : List V := [sV x.Key, sV x.Val]
structure uri_Uri where
  Scheme : (List UInt8)
  User : (List UInt8)
  Host : (List UInt8)
  Port : (List UInt8)
  Path : (List UInt8)
  Query : (List UInt8)
  Frag : (List UInt8)
  Auth : Bool
  HasUser : Bool
  HasPort : Bool
  HasQuery : Bool
  HasFrag : Bool
noncomputable def t_R01_Pair (y : (List UInt8)) : D := .p (sV y)
noncomputable def R01_Pair_lv : List (Nat × List Nat) := [(0, [0]), (1, [0, 3]), (2, [2])]
noncomputable def t_R01_Same (y : Bool) : D := .p (bV y)
noncomputable def R01_Same_lv : List (Nat × List Nat) := [(0, [0, 1]), (1, [0, 1, 10]), (2, [4]), (3, [0, 1, 5]), (4, [0, 1, 5, 14]), (5, [0, 1, 5]), (6, [0, 1, 5, 25]), (7, [4]), (8, [4]), (1000004, [0, 1, 5])]
noncomputable def R01_Same_L1_st (p0 : (List (List UInt8))) (p1 : (List (List UInt8))) (v5 : Int) : St := ⟨[(0, .p (.sl false (p0.map cStr))), (1, .p (.sl false (p1.map cStr))), (5, .p (iV v5))], ⟨[], []⟩⟩
noncomputable def R01_Same_L1_x0 (p0 : (List (List UInt8))) (p1 : (List (List UInt8))) (y2 : Unit) : St := ⟨[], ⟨[], []⟩⟩
noncomputable def R01_Same_L1_x1 (p0 : (List (List UInt8))) (p1 : (List (List UInt8))) (y3 : Unit) : St := ⟨[(4, .p (bV false))], ⟨[], []⟩⟩
noncomputable def R01_Same_L1_c : Code := ((loopsOf (Tryd.f25.body.getD .skip)).getD 0 .skip)
noncomputable def t_R08_Free (y : Bool) : D := .p (bV y)
noncomputable def R08_Free_lv : List (Nat × List Nat) := [(0, [0]), (1, [2]), (3000001, [])]
noncomputable def R08_Free_J0_0  (o1 : Bool) : St := ⟨[(2, .p (bV o1))], ⟨[], []⟩⟩
noncomputable def t_R08_Write (y : (List UInt8)) : D := .p (sV y)
noncomputable def R08_Write_lv : List (Nat × List Nat) := [(0, [0]), (1, [0, 3]), (2, [0, 3, 4]), (3, [0, 3, 4, 8]), (4, [0, 3, 4]), (5, [0, 3, 4, 14]), (6, [0, 3, 4]), (7, [0, 3, 4]), (8, [2]), (1000003, [0, 3, 4])]
noncomputable def R08_Write_L1_st (p0 : (List UInt8)) (v3 : (List UInt8)) (v4 : Int) : St := ⟨[(0, .p (sV p0)), (3, .p (sV v3)), (4, .p (iV v4))], ⟨[], []⟩⟩
noncomputable def R08_Write_L1_x0 (p0 : (List UInt8)) (o1 : (List UInt8)) : St := ⟨[(3, .p (sV o1))], ⟨[], []⟩⟩
noncomputable def R08_Write_L1_c : Code := ((loopsOf (Tryd.f28.body.getD .skip)).getD 0 .skip)
noncomputable def t_R12_SamePairs (y : Bool) : D := .p (bV y)
noncomputable def R12_SamePairs_lv : List (Nat × List Nat) := [(0, [0, 1]), (1, [0, 1, 10]), (2, [4]), (3, [0, 1, 5]), (4, [0, 1, 5, 14]), (5, [0, 1, 5]), (6, [0, 1, 5, 40]), (7, [4]), (8, [4]), (1000004, [0, 1, 5]), (3000006, [])]
noncomputable def R12_SamePairs_J0_0 (p0 : (List api_Pair)) (p1 : (List api_Pair)) (v5 : Int) (o4 : Bool) : St := ⟨[(0, .p (.sl false (p0.map c_api_Pair))), (1, .p (.sl false (p1.map c_api_Pair))), (5, .p (iV v5)), (40, .p (bV o4))], ⟨[], []⟩⟩
noncomputable def R12_SamePairs_L1_st (p0 : (List api_Pair)) (p1 : (List api_Pair)) (v5 : Int) : St := ⟨[(0, .p (.sl false (p0.map c_api_Pair))), (1, .p (.sl false (p1.map c_api_Pair))), (5, .p (iV v5))], ⟨[], []⟩⟩
noncomputable def R12_SamePairs_L1_x0 (p0 : (List api_Pair)) (p1 : (List api_Pair)) (y2 : Unit) : St := ⟨[], ⟨[], []⟩⟩
noncomputable def R12_SamePairs_L1_x1 (p0 : (List api_Pair)) (p1 : (List api_Pair)) (y3 : Unit) : St := ⟨[(4, .p (bV false))], ⟨[], []⟩⟩
noncomputable def R12_SamePairs_L1_c : Code := ((loopsOf (Tryd.f26.body.getD .skip)).getD 0 .skip)
noncomputable def t_internal_stringslite_Cut (y : (List UInt8) × (List UInt8) × Bool) : D := .tup [.p (sV y.1), .p (sV y.2.1), .p (bV y.2.2)]
noncomputable def internal_stringslite_Cut_lv : List (Nat × List Nat) := [(0, [0, 1]), (1, [0, 1, 7]), (2, [0, 1, 7, 12]), (3, [4, 5, 6]), (4, [4, 5, 6])]
noncomputable def t_internal_stringslite_CutPrefix (y : (List UInt8) × Bool) : D := .tup [.p (sV y.1), .p (bV y.2)]
noncomputable def internal_stringslite_CutPrefix_lv : List (Nat × List Nat) := [(0, [0, 1]), (1, [0, 1, 9]), (2, [4, 5]), (3, [4, 5])]
noncomputable def t_internal_stringslite_HasPrefix (y : Bool) : D := .p (bV y)
noncomputable def internal_stringslite_HasPrefix_lv : List (Nat × List Nat) := [(0, [0, 1]), (1, [4]), (3000001, [])]
noncomputable def internal_stringslite_HasPrefix_J0_0  (o1 : Bool) : St := ⟨[(4, .p (bV o1))], ⟨[], []⟩⟩
noncomputable def t_internal_stringslite_Index (y : Int) : D := .p (iV y)
noncomputable def t_internal_stringslite_IndexByte (y : Int) : D := .p (iV y)
noncomputable def t_nunciolaw12_UriHolds (y : Bool) : D := .p (bV y)
noncomputable def nunciolaw12_UriHolds_lv : List (Nat × List Nat) := [(0, [0]), (1, [0]), (2, [0, 3]), (3, [0, 4, 5]), (4, [0, 4, 57]), (5, [2]), (6, [0, 4, 6, 7]), (7, [0, 4, 6, 7, 8, 9]), (8, [0, 6, 7, 8, 9, 10, 11]), (9, [2]), (3000004, []), (3000009, [])]
noncomputable def nunciolaw12_UriHolds_J0_0 (x1 : (List UInt8)) (x3 : uri_Uri × Int) (o4 : Bool) : St := ⟨[(0, .p (sV x1)), (4, .ptr 0 0), (57, .p (bV o4))], ⟨[[.p (sV x3.1.Scheme), .p (sV x3.1.User), .p (sV x3.1.Host), .p (sV x3.1.Port), .p (sV x3.1.Path), .p (sV x3.1.Query), .p (sV x3.1.Frag), .p (bV x3.1.Auth), .p (bV x3.1.HasUser), .p (bV x3.1.HasPort), .p (bV x3.1.HasQuery), .p (bV x3.1.HasFrag)]], []⟩⟩
noncomputable def nunciolaw12_UriHolds_J1_0 (x3 : uri_Uri × Int) (o8 : Bool) : St := ⟨[(2, .p (bV o8))], ⟨[[.p (sV x3.1.Scheme), .p (sV x3.1.User), .p (sV x3.1.Host), .p (sV x3.1.Port), .p (sV x3.1.Path), .p (sV x3.1.Query), .p (sV x3.1.Frag), .p (bV x3.1.Auth), .p (bV x3.1.HasUser), .p (bV x3.1.HasPort), .p (bV x3.1.HasQuery), .p (bV x3.1.HasFrag)]], []⟩⟩
noncomputable def t_nunciolaw12_awake (y : Bool) : D := .p (bV y)
noncomputable def nunciolaw12_awake_lv : List (Nat × List Nat) := [(0, []), (1, [1, 2]), (2, [1, 2, 3, 4]), (3, [1, 2, 3, 4, 6]), (4, [1, 2, 3, 4, 6, 8]), (5, [0]), (3000005, [])]
noncomputable def nunciolaw12_awake_J0_0 (x1 : uri_Uri × Int) (x2 : uri_Uri × Int) (x3 : uri_Uri × Int) (x4 : uri_Uri × Int) (o5 : Bool) : St := ⟨[(0, .p (bV o5))], ⟨[[.p (sV x1.1.Scheme), .p (sV x1.1.User), .p (sV x1.1.Host), .p (sV x1.1.Port), .p (sV x1.1.Path), .p (sV x1.1.Query), .p (sV x1.1.Frag), .p (bV x1.1.Auth), .p (bV x1.1.HasUser), .p (bV x1.1.HasPort), .p (bV x1.1.HasQuery), .p (bV x1.1.HasFrag)], [.p (sV x2.1.Scheme), .p (sV x2.1.User), .p (sV x2.1.Host), .p (sV x2.1.Port), .p (sV x2.1.Path), .p (sV x2.1.Query), .p (sV x2.1.Frag), .p (bV x2.1.Auth), .p (bV x2.1.HasUser), .p (bV x2.1.HasPort), .p (bV x2.1.HasQuery), .p (bV x2.1.HasFrag)], [.p (sV x3.1.Scheme), .p (sV x3.1.User), .p (sV x3.1.Host), .p (sV x3.1.Port), .p (sV x3.1.Path), .p (sV x3.1.Query), .p (sV x3.1.Frag), .p (bV x3.1.Auth), .p (bV x3.1.HasUser), .p (bV x3.1.HasPort), .p (bV x3.1.HasQuery), .p (bV x3.1.HasFrag)], [.p (sV x4.1.Scheme), .p (sV x4.1.User), .p (sV x4.1.Host), .p (sV x4.1.Port), .p (sV x4.1.Path), .p (sV x4.1.Query), .p (sV x4.1.Frag), .p (bV x4.1.Auth), .p (bV x4.1.HasUser), .p (bV x4.1.HasPort), .p (bV x4.1.HasQuery), .p (bV x4.1.HasFrag)]], []⟩⟩
noncomputable def t_nunciolaw12_few (y : (List UInt8)) : D := .p (sV y)
noncomputable def nunciolaw12_few_lv : List (Nat × List Nat) := [(0, [0]), (1, [2])]
noncomputable def t_strings_Cut (y : (List UInt8) × (List UInt8) × Bool) : D := .tup [.p (sV y.1), .p (sV y.2.1), .p (bV y.2.2)]
noncomputable def strings_Cut_lv : List (Nat × List Nat) := [(0, [0, 1]), (1, [4, 5, 6])]
noncomputable def t_strings_CutPrefix (y : (List UInt8) × Bool) : D := .tup [.p (sV y.1), .p (bV y.2)]
noncomputable def strings_CutPrefix_lv : List (Nat × List Nat) := [(0, [0, 1]), (1, [4, 5])]
noncomputable def t_strings_HasPrefix (y : Bool) : D := .p (bV y)
noncomputable def strings_HasPrefix_lv : List (Nat × List Nat) := [(0, [0, 1]), (1, [4])]
noncomputable def t_strings_IndexAny (y : Int) : D := .p (iV y)
noncomputable def t_strings_IndexByte (y : Int) : D := .p (iV y)
noncomputable def strings_IndexByte_lv : List (Nat × List Nat) := [(0, [0, 1]), (1, [4])]
noncomputable def t_strings_Split (y : (List (List UInt8))) : D := .p (.sl false (y.map cStr))
noncomputable def t_uri_Decode (y : (List UInt8) × Int) : D := .tup [.p (sV y.1), .p (iV y.2)]
noncomputable def uri_Decode_lv : List (Nat × List Nat) := [(0, [0]), (1, [0, 4]), (2, [0, 4, 5]), (3, [0, 4, 5, 12]), (4, [0, 4, 5]), (5, [0, 4, 5, 6]), (6, [0, 4, 5, 6, 19]), (7, [0, 4, 5, 7, 8]), (8, [0, 4, 5, 7, 27]), (9, [2, 3]), (10, [0, 4, 5, 6]), (11, [0, 4, 5, 6]), (12, [0, 4, 5]), (13, [2, 3]), (1000003, [0, 4, 5]), (2006017, [])]
noncomputable def uri_Decode_J0_0 (p0 : (List UInt8)) (v4 : (List Int)) (y6 : Int × Int) : St := ⟨[(0, .p (sV p0)), (4, .own 0 5 1 (v4.map (cNum .u8))), (5, .p (iV y6.1)), (6, .p (nV .u8 y6.2))], ⟨[], [(v4.map (cNum .u8)).length]⟩⟩
noncomputable def uri_Decode_J0_1 (p0 : (List UInt8)) (v4 : (List Int)) (y7 : Unit) : St := ⟨[(2, .p (sV [])), (3, .p (iV 7))], ⟨[], [(v4.map (cNum .u8)).length]⟩⟩
noncomputable def uri_Decode_L1_st (p0 : (List UInt8)) (v4 : (List Int)) (v5 : Int) : St := ⟨[(0, .p (sV p0)), (4, .own 0 5 1 (v4.map (cNum .u8))), (5, .p (iV v5))], ⟨[], [(v4.map (cNum .u8)).length]⟩⟩
noncomputable def uri_Decode_L1_x0 (p0 : (List UInt8)) (y2 : (List Int)) : St := ⟨[(4, .own 0 5 1 (y2.map (cNum .u8)))], ⟨[], [(y2.map (cNum .u8)).length]⟩⟩
noncomputable def uri_Decode_L1_x1 (p0 : (List UInt8)) (y3 : Unit) : St := ⟨[(2, .p (sV [])), (3, .p (iV 7))], ⟨[], []⟩⟩
noncomputable def uri_Decode_L1_c : Code := ((loopsOf (Tryd.f23.body.getD .skip)).getD 0 .skip)
noncomputable def t_uri_Segments (y : (List (List UInt8)) × Int) : D := .tup [.p (.sl false (y.1.map cStr)), .p (iV y.2)]
noncomputable def uri_Segments_lv : List (Nat × List Nat) := [(0, [0]), (1, [0, 4]), (2, [4, 10, 11, 12]), (3, [4, 10, 11, 12, 13]), (4, [4, 6, 10, 11, 12]), (5, [4, 7, 8, 10, 11, 12]), (6, [4, 7, 8, 10, 11, 12, 22]), (7, [2, 3]), (8, [4, 10, 11, 12]), (9, [4, 10, 11, 12]), (10, [2, 3]), (1000003, [4, 10, 11, 12])]
noncomputable def uri_Segments_L1_st (x1 : (List (List UInt8))) (v4 : (List (List UInt8))) (v12 : Int) : St := ⟨[(4, .own 0 9 1 (v4.map cStr)), (10, .p (.sl false (x1.map cStr))), (11, .p (iV (x1.length : Int))), (12, .p (iV v12))], ⟨[], [(v4.map cStr).length]⟩⟩
noncomputable def uri_Segments_L1_x0 (x1 : (List (List UInt8))) (y3 : (List (List UInt8))) : St := ⟨[(4, .own 0 9 1 (y3.map cStr))], ⟨[], [(y3.map cStr).length]⟩⟩
noncomputable def uri_Segments_L1_x1 (x1 : (List (List UInt8))) (y4 : Int) : St := ⟨[(2, .p (.sl true [])), (3, .p (iV y4))], ⟨[], []⟩⟩
noncomputable def uri_Segments_L1_c : Code := ((loopsOf (Tryd.f19.body.getD .skip)).getD 0 .skip)
noncomputable def t_uri_Split (y : uri_Uri × Int) : D := .tup [.p (.agg [sV y.1.Scheme, sV y.1.User, sV y.1.Host, sV y.1.Port, sV y.1.Path, sV y.1.Query, sV y.1.Frag, bV y.1.Auth, bV y.1.HasUser, bV y.1.HasPort, bV y.1.HasQuery, bV y.1.HasFrag]), .p (iV y.2)]
noncomputable def uri_Split_lv : List (Nat × List Nat) := [(0, [0, 2]), (1, [2, 4]), (2, [2, 4, 20, 21, 22]), (3, [2, 4, 20, 21, 22, 23]), (4, [2, 4, 6, 20, 21, 22]), (5, [2, 4, 20, 21, 22, 28]), (6, [2, 3]), (7, [2, 4, 20, 21, 22]), (8, [2, 3]), (1000003, [2, 4, 20, 21, 22])]
noncomputable def uri_Split_L1_r0_st (p0 : (List UInt8)) : St := ⟨[(2, .ptr 0 0), (4, .ptr 1 0), (20, .sf [.fn (.func 47) [.ptr 1 0] [], .fn (.func 48) [.ptr 1 0] [], .fn (.func 49) [.ptr 1 0] [], .fn (.func 50) [.ptr 1 0] [], .fn (.func 51) [.ptr 1 0] []]), (21, .p (iV 5)), (22, .p (iV 0))], ⟨[[.p (sV []), .p (sV []), .p (sV []), .p (sV []), .p (sV []), .p (sV []), .p (sV []), .p (bV false), .p (bV false), .p (bV false), .p (bV false), .p (bV false)], [.p (sV p0), .p (sV []), .p (sV []), .p (sV []), .p (sV []), .p (sV []), .p (sV []), .p (sV []), .p (bV false), .p (bV false), .p (bV false), .p (bV false), .p (bV false)]], []⟩⟩
noncomputable def uri_Split_L1_r1_st (p0 : (List UInt8)) (h1_0 : (List UInt8)) (h1_1 : (List UInt8)) : St := ⟨[(2, .ptr 0 0), (4, .ptr 1 0), (20, .sf [.fn (.func 47) [.ptr 1 0] [], .fn (.func 48) [.ptr 1 0] [], .fn (.func 49) [.ptr 1 0] [], .fn (.func 50) [.ptr 1 0] [], .fn (.func 51) [.ptr 1 0] []]), (21, .p (iV 5)), (22, .p (iV 1))], ⟨[[.p (sV []), .p (sV []), .p (sV []), .p (sV []), .p (sV []), .p (sV []), .p (sV []), .p (bV false), .p (bV false), .p (bV false), .p (bV false), .p (bV false)], [.p (sV h1_0), .p (sV h1_1), .p (sV []), .p (sV []), .p (sV []), .p (sV []), .p (sV []), .p (sV []), .p (bV false), .p (bV false), .p (bV false), .p (bV false), .p (bV false)]], []⟩⟩
noncomputable def uri_Split_L1_r2_st (p0 : (List UInt8)) (h1_0 : (List UInt8)) (h1_1 : (List UInt8)) (h1_2 : (List UInt8)) (h1_3 : (List UInt8)) (h1_4 : (List UInt8)) (h1_8 : Bool) (h1_9 : Bool) (h1_10 : Bool) : St := ⟨[(2, .ptr 0 0), (4, .ptr 1 0), (20, .sf [.fn (.func 47) [.ptr 1 0] [], .fn (.func 48) [.ptr 1 0] [], .fn (.func 49) [.ptr 1 0] [], .fn (.func 50) [.ptr 1 0] [], .fn (.func 51) [.ptr 1 0] []]), (21, .p (iV 5)), (22, .p (iV 2))], ⟨[[.p (sV []), .p (sV []), .p (sV []), .p (sV []), .p (sV []), .p (sV []), .p (sV []), .p (bV false), .p (bV false), .p (bV false), .p (bV false), .p (bV false)], [.p (sV h1_0), .p (sV h1_1), .p (sV h1_2), .p (sV h1_3), .p (sV h1_4), .p (sV []), .p (sV []), .p (sV []), .p (bV h1_8), .p (bV h1_9), .p (bV h1_10), .p (bV false), .p (bV false)]], []⟩⟩
noncomputable def uri_Split_L1_r3_st (p0 : (List UInt8)) (h1_0 : (List UInt8)) (h1_1 : (List UInt8)) (h1_2 : (List UInt8)) (h1_3 : (List UInt8)) (h1_4 : (List UInt8)) (h1_5 : (List UInt8)) (h1_8 : Bool) (h1_9 : Bool) (h1_10 : Bool) : St := ⟨[(2, .ptr 0 0), (4, .ptr 1 0), (20, .sf [.fn (.func 47) [.ptr 1 0] [], .fn (.func 48) [.ptr 1 0] [], .fn (.func 49) [.ptr 1 0] [], .fn (.func 50) [.ptr 1 0] [], .fn (.func 51) [.ptr 1 0] []]), (21, .p (iV 5)), (22, .p (iV 3))], ⟨[[.p (sV []), .p (sV []), .p (sV []), .p (sV []), .p (sV []), .p (sV []), .p (sV []), .p (bV false), .p (bV false), .p (bV false), .p (bV false), .p (bV false)], [.p (sV h1_0), .p (sV h1_1), .p (sV h1_2), .p (sV h1_3), .p (sV h1_4), .p (sV h1_5), .p (sV []), .p (sV []), .p (bV h1_8), .p (bV h1_9), .p (bV h1_10), .p (bV false), .p (bV false)]], []⟩⟩
noncomputable def uri_Split_L1_r4_st (p0 : (List UInt8)) (h1_0 : (List UInt8)) (h1_1 : (List UInt8)) (h1_2 : (List UInt8)) (h1_3 : (List UInt8)) (h1_4 : (List UInt8)) (h1_5 : (List UInt8)) (h1_6 : (List UInt8)) (h1_8 : Bool) (h1_9 : Bool) (h1_10 : Bool) (h1_11 : Bool) : St := ⟨[(2, .ptr 0 0), (4, .ptr 1 0), (20, .sf [.fn (.func 47) [.ptr 1 0] [], .fn (.func 48) [.ptr 1 0] [], .fn (.func 49) [.ptr 1 0] [], .fn (.func 50) [.ptr 1 0] [], .fn (.func 51) [.ptr 1 0] []]), (21, .p (iV 5)), (22, .p (iV 4))], ⟨[[.p (sV []), .p (sV []), .p (sV []), .p (sV []), .p (sV []), .p (sV []), .p (sV []), .p (bV false), .p (bV false), .p (bV false), .p (bV false), .p (bV false)], [.p (sV h1_0), .p (sV h1_1), .p (sV h1_2), .p (sV h1_3), .p (sV h1_4), .p (sV h1_5), .p (sV h1_6), .p (sV []), .p (bV h1_8), .p (bV h1_9), .p (bV h1_10), .p (bV h1_11), .p (bV false)]], []⟩⟩
noncomputable def uri_Split_L1_r5_st (p0 : (List UInt8)) (h1_0 : (List UInt8)) (h1_1 : (List UInt8)) (h1_2 : (List UInt8)) (h1_3 : (List UInt8)) (h1_4 : (List UInt8)) (h1_5 : (List UInt8)) (h1_6 : (List UInt8)) (h1_7 : (List UInt8)) (h1_8 : Bool) (h1_9 : Bool) (h1_10 : Bool) (h1_11 : Bool) (h1_12 : Bool) : St := ⟨[(2, .ptr 0 0), (4, .ptr 1 0), (20, .sf [.fn (.func 47) [.ptr 1 0] [], .fn (.func 48) [.ptr 1 0] [], .fn (.func 49) [.ptr 1 0] [], .fn (.func 50) [.ptr 1 0] [], .fn (.func 51) [.ptr 1 0] []]), (21, .p (iV 5)), (22, .p (iV 5))], ⟨[[.p (sV []), .p (sV []), .p (sV []), .p (sV []), .p (sV []), .p (sV []), .p (sV []), .p (bV false), .p (bV false), .p (bV false), .p (bV false), .p (bV false)], [.p (sV h1_0), .p (sV h1_1), .p (sV h1_2), .p (sV h1_3), .p (sV h1_4), .p (sV h1_5), .p (sV h1_6), .p (sV h1_7), .p (bV h1_8), .p (bV h1_9), .p (bV h1_10), .p (bV h1_11), .p (bV h1_12)]], []⟩⟩
noncomputable def uri_Split_L1_x0 (p0 : (List UInt8)) (y2 : (List UInt8) × (List UInt8) × (List UInt8) × (List UInt8) × (List UInt8) × (List UInt8) × (List UInt8) × (List UInt8) × Bool × Bool × Bool × Bool × Bool) : St := ⟨[(2, .ptr 0 0), (4, .ptr 1 0)], ⟨[[.p (sV []), .p (sV []), .p (sV []), .p (sV []), .p (sV []), .p (sV []), .p (sV []), .p (bV false), .p (bV false), .p (bV false), .p (bV false), .p (bV false)], [.p (sV y2.1), .p (sV y2.2.1), .p (sV y2.2.2.1), .p (sV y2.2.2.2.1), .p (sV y2.2.2.2.2.1), .p (sV y2.2.2.2.2.2.1), .p (sV y2.2.2.2.2.2.2.1), .p (sV y2.2.2.2.2.2.2.2.1), .p (bV y2.2.2.2.2.2.2.2.2.1), .p (bV y2.2.2.2.2.2.2.2.2.2.1), .p (bV y2.2.2.2.2.2.2.2.2.2.2.1), .p (bV y2.2.2.2.2.2.2.2.2.2.2.2.1), .p (bV y2.2.2.2.2.2.2.2.2.2.2.2.2)]], []⟩⟩
noncomputable def uri_Split_L1_x1 (p0 : (List UInt8)) (y3 : (List UInt8) × (List UInt8) × (List UInt8) × (List UInt8) × (List UInt8) × (List UInt8) × (List UInt8) × (List UInt8) × Bool × Bool × Bool × Bool × Bool) : St := ⟨[(2, .ptr 0 0), (3, .p (iV 7))], ⟨[[.p (sV []), .p (sV []), .p (sV []), .p (sV []), .p (sV []), .p (sV []), .p (sV []), .p (bV false), .p (bV false), .p (bV false), .p (bV false), .p (bV false)], [.p (sV y3.1), .p (sV y3.2.1), .p (sV y3.2.2.1), .p (sV y3.2.2.2.1), .p (sV y3.2.2.2.2.1), .p (sV y3.2.2.2.2.2.1), .p (sV y3.2.2.2.2.2.2.1), .p (sV y3.2.2.2.2.2.2.2.1), .p (bV y3.2.2.2.2.2.2.2.2.1), .p (bV y3.2.2.2.2.2.2.2.2.2.1), .p (bV y3.2.2.2.2.2.2.2.2.2.2.1), .p (bV y3.2.2.2.2.2.2.2.2.2.2.2.1), .p (bV y3.2.2.2.2.2.2.2.2.2.2.2.2)]], []⟩⟩
noncomputable def uri_Split_L1_c : Code := ((loopsOf (Tryd.f29.body.getD .skip)).getD 0 .skip)
noncomputable def t_uri_Values (y : (List api_Pair) × Int) : D := .tup [.p (.sl false (y.1.map c_api_Pair)), .p (iV y.2)]
noncomputable def uri_Values_lv : List (Nat × List Nat) := [(0, [0]), (1, [0, 15]), (2, [2, 3]), (3, [0, 4]), (4, [4, 17, 18, 19]), (5, [4, 17, 18, 19, 20]), (6, [4, 6, 17, 18, 19]), (7, [4, 7, 8, 17, 18, 19]), (8, [4, 8, 10, 11, 17, 18, 19]), (9, [4, 10, 11, 12, 13, 17, 18, 19]), (10, [4, 10, 12, 17, 18, 19, 44]), (11, [2, 3]), (12, [4, 17, 18, 19]), (13, [4, 17, 18, 19]), (14, [2, 3]), (1000005, [4, 17, 18, 19]), (3000010, [])]
noncomputable def uri_Values_J0_0 (x1 : (List (List UInt8))) (v4 : (List api_Pair)) (v19 : Int) (x7 : (List UInt8) × Int) (x8 : (List UInt8) × Int) (o9 : Bool) : St := ⟨[(4, .own 0 45 2 (v4.map c_api_Pair)), (10, .p (sV x7.1)), (12, .p (sV x8.1)), (17, .p (.sl false (x1.map cStr))), (18, .p (iV (x1.length : Int))), (19, .p (iV v19)), (44, .p (bV o9))], ⟨[], [(v4.map c_api_Pair).length]⟩⟩
noncomputable def uri_Values_L1_st (x1 : (List (List UInt8))) (v4 : (List api_Pair)) (v19 : Int) : St := ⟨[(4, .own 0 45 2 (v4.map c_api_Pair)), (17, .p (.sl false (x1.map cStr))), (18, .p (iV (x1.length : Int))), (19, .p (iV v19))], ⟨[], [(v4.map c_api_Pair).length]⟩⟩
noncomputable def uri_Values_L1_x0 (x1 : (List (List UInt8))) (y3 : (List api_Pair)) : St := ⟨[(4, .own 0 45 2 (y3.map c_api_Pair))], ⟨[], [(y3.map c_api_Pair).length]⟩⟩
noncomputable def uri_Values_L1_x1 (x1 : (List (List UInt8))) (y4 : Unit) : St := ⟨[(2, .p (.sl true [])), (3, .p (iV 7))], ⟨[], []⟩⟩
noncomputable def uri_Values_L1_c : Code := ((loopsOf (Tryd.f21.body.getD .skip)).getD 0 .skip)
noncomputable def t_uri_coded (y : Int × Bool) : D := .tup [.p (nV .u8 y.1), .p (bV y.2)]
noncomputable def uri_coded_lv : List (Nat × List Nat) := [(0, [0, 1]), (1, [0, 1, 14]), (2, [4, 5]), (3, [0, 1, 6, 7]), (4, [6, 7, 8, 9]), (5, [4, 5]), (3000005, [])]
noncomputable def uri_coded_J0_0 (x2 : Int × Bool) (x4 : Int × Bool) (o5 : Bool) : St := ⟨[(4, .p (nV .u8 (bits .or .u8 (IntKind.u8.wrap (x2.1 * 2 ^ (min (4 : Int).toNat (IntKind.u8.bits)))) x4.1))), (5, .p (bV o5))], ⟨[], []⟩⟩
noncomputable def t_uri_digit (y : Bool) : D := .p (bV y)
noncomputable def uri_digit_lv : List (Nat × List Nat) := [(0, [0]), (1, [2]), (3000001, [])]
noncomputable def uri_digit_J0_0  (o1 : Bool) : St := ⟨[(2, .p (bV o1))], ⟨[], []⟩⟩
noncomputable def t_uri_fits_uri_with_1 (y : Bool) : D := .p (bV y)
noncomputable def uri_fits_uri_with_1_lv : List (Nat × List Nat) := [(0, [0, 1]), (1, [0, 1, 5]), (2, [0, 1, 5, 11]), (3, [0, 1, 5]), (4, [0, 1, 5, 17]), (5, [0, 1, 5, 7]), (6, [0, 1, 5, 25]), (7, [4]), (8, [0, 1, 5]), (9, [0, 1, 5, 33]), (10, [4]), (11, [4]), (1000002, [0, 1, 5])]
noncomputable def uri_fits_uri_with_1_L1_st (p0 : (List UInt8)) (p1_0c_0e : (List UInt8)) (v5 : Int) : St := ⟨[(0, .p (sV p0)), (1, .fn (.func 91) [] [.p (.ep [sV p1_0c_0e])]), (5, .p (iV v5))], ⟨[], []⟩⟩
noncomputable def uri_fits_uri_with_1_L1_x0 (p0 : (List UInt8)) (p1_0c_0e : (List UInt8)) (y2 : Unit) : St := ⟨[], ⟨[], []⟩⟩
noncomputable def uri_fits_uri_with_1_L1_x1 (p0 : (List UInt8)) (p1_0c_0e : (List UInt8)) (y3 : Unit) : St := ⟨[(4, .p (bV false))], ⟨[], []⟩⟩
noncomputable def uri_fits_uri_with_1_L1_c : Code := ((loopsOf (Tryd.f75.body.getD .skip)).getD 0 .skip)
noncomputable def t_uri_letter (y : Bool) : D := .p (bV y)
noncomputable def uri_letter_lv : List (Nat × List Nat) := [(0, [0]), (1, [2]), (3000001, [])]
noncomputable def uri_letter_J0_0  (o1 : Bool) : St := ⟨[(2, .p (bV o1))], ⟨[], []⟩⟩
noncomputable def t_uri_reader_authority (y : Bool × (List UInt8) × (List UInt8) × (List UInt8) × (List UInt8) × Bool × Bool × Bool) : D := .p (bV y.1)
noncomputable def uri_reader_authority_lv : List (Nat × List Nat) := [(0, [0]), (1, [0, 14]), (2, [2]), (3, [0]), (4, [3, 4]), (5, [3, 4]), (6, [3, 4, 5, 6, 7]), (7, [3, 4, 5, 6, 37]), (8, [3, 4]), (9, [3]), (10, [3, 65, 66]), (11, [3, 65, 66, 67]), (12, [3, 8, 65, 66]), (13, [3, 65, 66, 76]), (14, [2]), (15, [3, 65, 66]), (16, [2]), (1000011, [3, 65, 66]), (2006007, []), (3000016, []), (5000004, [4])]
noncomputable def uri_reader_authority_J0_0 (h0_1 : (List UInt8)) (h0_3 : (List UInt8)) (h0_4 : (List UInt8)) (h0_5 : (List UInt8)) (h0_6 : (List UInt8)) (h0_7 : (List UInt8)) (h0_10 : Bool) (h0_11 : Bool) (h0_12 : Bool) (x3 : (List UInt8) × (List UInt8)) (o4 : (List UInt8) × (List UInt8) × Bool) : St := ⟨[(3, .ptr 0 1), (4, .p (sV o4.1))], ⟨[[.p (sV x3.2), .p (sV h0_1), .p (sV o4.2.1), .p (sV h0_3), .p (sV h0_4), .p (sV h0_5), .p (sV h0_6), .p (sV h0_7), .p (bV true), .p (bV o4.2.2), .p (bV h0_10), .p (bV h0_11), .p (bV h0_12)]], []⟩⟩
noncomputable def uri_reader_authority_L1_st (h0_1 : (List UInt8)) (h0_5 : (List UInt8)) (h0_6 : (List UInt8)) (h0_7 : (List UInt8)) (h0_11 : Bool) (h0_12 : Bool) (x3 : (List UInt8) × (List UInt8)) (o4 : (List UInt8) × (List UInt8) × Bool) (x6 : (List UInt8) × (List UInt8) × Bool) (v66 : Int) : St := ⟨[(3, .ptr 0 1), (65, .p (iV (x6.2.1.length : Int))), (66, .p (iV v66))], ⟨[[.p (sV x3.2), .p (sV h0_1), .p (sV o4.2.1), .p (sV x6.1), .p (sV x6.2.1), .p (sV h0_5), .p (sV h0_6), .p (sV h0_7), .p (bV true), .p (bV o4.2.2), .p (bV x6.2.2), .p (bV h0_11), .p (bV h0_12)]], []⟩⟩
noncomputable def uri_reader_authority_L1_x0 (h0_1 : (List UInt8)) (h0_5 : (List UInt8)) (h0_6 : (List UInt8)) (h0_7 : (List UInt8)) (h0_11 : Bool) (h0_12 : Bool) (x3 : (List UInt8) × (List UInt8)) (o4 : (List UInt8) × (List UInt8) × Bool) (x6 : (List UInt8) × (List UInt8) × Bool) (y8 : Unit) : St := ⟨[(3, .ptr 0 1)], ⟨[[.p (sV x3.2), .p (sV h0_1), .p (sV o4.2.1), .p (sV x6.1), .p (sV x6.2.1), .p (sV h0_5), .p (sV h0_6), .p (sV h0_7), .p (bV true), .p (bV o4.2.2), .p (bV x6.2.2), .p (bV h0_11), .p (bV h0_12)]], []⟩⟩
noncomputable def uri_reader_authority_L1_x1 (h0_1 : (List UInt8)) (h0_5 : (List UInt8)) (h0_6 : (List UInt8)) (h0_7 : (List UInt8)) (h0_11 : Bool) (h0_12 : Bool) (x3 : (List UInt8) × (List UInt8)) (o4 : (List UInt8) × (List UInt8) × Bool) (x6 : (List UInt8) × (List UInt8) × Bool) (y9 : Unit) : St := ⟨[(2, .p (bV false))], ⟨[[.p (sV x3.2), .p (sV h0_1), .p (sV o4.2.1), .p (sV x6.1), .p (sV x6.2.1), .p (sV h0_5), .p (sV h0_6), .p (sV h0_7), .p (bV true), .p (bV o4.2.2), .p (bV x6.2.2), .p (bV h0_11), .p (bV h0_12)]], []⟩⟩
noncomputable def uri_reader_authority_L1_c : Code := ((loopsOf (Tryd.f48.body.getD .skip)).getD 0 .skip)
noncomputable def uri_reader_authority_J1_0 (h0_1 : (List UInt8)) (h0_5 : (List UInt8)) (h0_6 : (List UInt8)) (h0_7 : (List UInt8)) (h0_11 : Bool) (h0_12 : Bool) (x3 : (List UInt8) × (List UInt8)) (o4 : (List UInt8) × (List UInt8) × Bool) (x6 : (List UInt8) × (List UInt8) × Bool) (o12 : Bool) : St := ⟨[(2, .p (bV o12))], ⟨[[.p (sV x3.2), .p (sV h0_1), .p (sV o4.2.1), .p (sV x6.1), .p (sV x6.2.1), .p (sV h0_5), .p (sV h0_6), .p (sV h0_7), .p (bV true), .p (bV o4.2.2), .p (bV x6.2.2), .p (bV h0_11), .p (bV h0_12)]], []⟩⟩
noncomputable def t_uri_reader_frag (y : Bool × (List UInt8) × Bool) : D := .p (bV y.1)
noncomputable def uri_reader_frag_lv : List (Nat × List Nat) := [(0, [0]), (1, [0]), (2, [2])]
noncomputable def t_uri_reader_path (y : Bool × (List UInt8) × (List UInt8)) : D := .p (bV y.1)
noncomputable def uri_reader_path_lv : List (Nat × List Nat) := [(0, [0]), (1, [0]), (2, [2])]
noncomputable def t_uri_reader_query (y : Bool × (List UInt8) × (List UInt8) × Bool) : D := .p (bV y.1)
noncomputable def uri_reader_query_lv : List (Nat × List Nat) := [(0, [0]), (1, [0, 7]), (2, [0]), (3, [0]), (4, [2]), (2001007, [])]
noncomputable def uri_reader_query_J0_0 (h0_1 : (List UInt8)) (h0_2 : (List UInt8)) (h0_3 : (List UInt8)) (h0_4 : (List UInt8)) (h0_5 : (List UInt8)) (h0_7 : (List UInt8)) (h0_8 : Bool) (h0_9 : Bool) (h0_10 : Bool) (h0_12 : Bool) (o1 : (List UInt8) × (List UInt8) × Bool) : St := ⟨[(0, .ptr 0 0)], ⟨[[.p (sV o1.1), .p (sV h0_1), .p (sV h0_2), .p (sV h0_3), .p (sV h0_4), .p (sV h0_5), .p (sV o1.2.1), .p (sV h0_7), .p (bV h0_8), .p (bV h0_9), .p (bV h0_10), .p (bV o1.2.2), .p (bV h0_12)]], []⟩⟩
noncomputable def t_uri_reader_scheme (y : Bool × (List UInt8) × (List UInt8)) : D := .p (bV y.1)
noncomputable def uri_reader_scheme_lv : List (Nat × List Nat) := [(0, [0]), (1, [0, 3]), (2, [0, 3, 22]), (3, [2]), (4, [0, 3, 4]), (5, [0, 3, 4, 29, 30]), (6, [0, 3, 4, 29, 30, 31]), (7, [0, 3, 4, 5, 29, 30]), (8, [0, 3, 4, 5, 6, 29, 30]), (9, [0, 3, 4, 29, 30, 52]), (10, [2]), (11, [0, 3, 4, 29, 30]), (12, [4]), (13, [2]), (1000006, [0, 3, 4, 29, 30]), (3000002, []), (3000009, [])]
noncomputable def uri_reader_scheme_J0_0 (h0_0 : (List UInt8)) (h0_1 : (List UInt8)) (h0_2 : (List UInt8)) (h0_3 : (List UInt8)) (h0_4 : (List UInt8)) (h0_5 : (List UInt8)) (h0_6 : (List UInt8)) (h0_7 : (List UInt8)) (h0_8 : Bool) (h0_9 : Bool) (h0_10 : Bool) (h0_11 : Bool) (h0_12 : Bool) (x1 : Int) (o2 : Bool) : St := ⟨[(0, .ptr 0 0), (3, .p (iV x1)), (22, .p (bV o2))], ⟨[[.p (sV h0_0), .p (sV h0_1), .p (sV h0_2), .p (sV h0_3), .p (sV h0_4), .p (sV h0_5), .p (sV h0_6), .p (sV h0_7), .p (bV h0_8), .p (bV h0_9), .p (bV h0_10), .p (bV h0_11), .p (bV h0_12)]], []⟩⟩
noncomputable def uri_reader_scheme_J1_0 (h0_0 : (List UInt8)) (h0_1 : (List UInt8)) (h0_2 : (List UInt8)) (h0_3 : (List UInt8)) (h0_4 : (List UInt8)) (h0_5 : (List UInt8)) (h0_6 : (List UInt8)) (h0_7 : (List UInt8)) (h0_8 : Bool) (h0_9 : Bool) (h0_10 : Bool) (h0_11 : Bool) (h0_12 : Bool) (x1 : Int) (x4 : (List UInt8)) (v30 : Int) (o9 : Bool) : St := ⟨[(0, .ptr 0 0), (3, .p (iV x1)), (4, .p (sV x4)), (29, .p (iV x1)), (30, .p (iV v30)), (52, .p (bV o9))], ⟨[[.p (sV h0_0), .p (sV h0_1), .p (sV h0_2), .p (sV h0_3), .p (sV h0_4), .p (sV h0_5), .p (sV h0_6), .p (sV h0_7), .p (bV h0_8), .p (bV h0_9), .p (bV h0_10), .p (bV h0_11), .p (bV h0_12)]], []⟩⟩
noncomputable def uri_reader_scheme_L1_st (h0_0 : (List UInt8)) (h0_1 : (List UInt8)) (h0_2 : (List UInt8)) (h0_3 : (List UInt8)) (h0_4 : (List UInt8)) (h0_5 : (List UInt8)) (h0_6 : (List UInt8)) (h0_7 : (List UInt8)) (h0_8 : Bool) (h0_9 : Bool) (h0_10 : Bool) (h0_11 : Bool) (h0_12 : Bool) (x1 : Int) (x4 : (List UInt8)) (v30 : Int) : St := ⟨[(0, .ptr 0 0), (3, .p (iV x1)), (4, .p (sV x4)), (29, .p (iV x1)), (30, .p (iV v30))], ⟨[[.p (sV h0_0), .p (sV h0_1), .p (sV h0_2), .p (sV h0_3), .p (sV h0_4), .p (sV h0_5), .p (sV h0_6), .p (sV h0_7), .p (bV h0_8), .p (bV h0_9), .p (bV h0_10), .p (bV h0_11), .p (bV h0_12)]], []⟩⟩
noncomputable def uri_reader_scheme_L1_x0 (h0_0 : (List UInt8)) (h0_1 : (List UInt8)) (h0_2 : (List UInt8)) (h0_3 : (List UInt8)) (h0_4 : (List UInt8)) (h0_5 : (List UInt8)) (h0_6 : (List UInt8)) (h0_7 : (List UInt8)) (h0_8 : Bool) (h0_9 : Bool) (h0_10 : Bool) (h0_11 : Bool) (h0_12 : Bool) (x1 : Int) (x4 : (List UInt8)) (y6 : Unit) : St := ⟨[(0, .ptr 0 0), (3, .p (iV x1)), (4, .p (sV x4))], ⟨[[.p (sV h0_0), .p (sV h0_1), .p (sV h0_2), .p (sV h0_3), .p (sV h0_4), .p (sV h0_5), .p (sV h0_6), .p (sV h0_7), .p (bV h0_8), .p (bV h0_9), .p (bV h0_10), .p (bV h0_11), .p (bV h0_12)]], []⟩⟩
noncomputable def uri_reader_scheme_L1_x1 (h0_0 : (List UInt8)) (h0_1 : (List UInt8)) (h0_2 : (List UInt8)) (h0_3 : (List UInt8)) (h0_4 : (List UInt8)) (h0_5 : (List UInt8)) (h0_6 : (List UInt8)) (h0_7 : (List UInt8)) (h0_8 : Bool) (h0_9 : Bool) (h0_10 : Bool) (h0_11 : Bool) (h0_12 : Bool) (x1 : Int) (x4 : (List UInt8)) (y7 : Unit) : St := ⟨[(2, .p (bV false))], ⟨[[.p (sV h0_0), .p (sV h0_1), .p (sV h0_2), .p (sV h0_3), .p (sV h0_4), .p (sV h0_5), .p (sV h0_6), .p (sV h0_7), .p (bV h0_8), .p (bV h0_9), .p (bV h0_10), .p (bV h0_11), .p (bV h0_12)]], []⟩⟩
noncomputable def uri_reader_scheme_L1_c : Code := ((loopsOf (Tryd.f47.body.getD .skip)).getD 0 .skip)
noncomputable def t_uri_reader_upto (y : (List UInt8) × (List UInt8)) : D := .p (sV y.1)
noncomputable def uri_reader_upto_lv : List (Nat × List Nat) := [(0, [0, 1]), (1, [0, 5]), (2, [0, 5, 14]), (3, [0, 5]), (4, [0, 5, 6]), (5, [6]), (6, [4]), (2002005, [])]
noncomputable def uri_reader_upto_J0_0 (h0_0 : (List UInt8)) (h0_1 : (List UInt8)) (h0_2 : (List UInt8)) (h0_3 : (List UInt8)) (h0_4 : (List UInt8)) (h0_5 : (List UInt8)) (h0_6 : (List UInt8)) (h0_7 : (List UInt8)) (h0_8 : Bool) (h0_9 : Bool) (h0_10 : Bool) (h0_11 : Bool) (h0_12 : Bool) (o2 : Int) : St := ⟨[(0, .ptr 0 0), (5, .p (iV o2))], ⟨[[.p (sV h0_0), .p (sV h0_1), .p (sV h0_2), .p (sV h0_3), .p (sV h0_4), .p (sV h0_5), .p (sV h0_6), .p (sV h0_7), .p (bV h0_8), .p (bV h0_9), .p (bV h0_10), .p (bV h0_11), .p (bV h0_12)]], []⟩⟩
noncomputable def t_uri_with (y : (List UInt8)) : D := .fn (.func 91) [] [.p (.ep [sV y])]
noncomputable def uri_with_lv : List (Nat × List Nat) := [(0, [1]), (1, [2])]
noncomputable def t_uri_with_1 (y : Bool) : D := .p (bV y)
noncomputable def uri_with_1_lv : List (Nat × List Nat) := [(0, [0, 1]), (1, [3]), (3000001, [])]
noncomputable def uri_with_1_J0_0  (o1 : Bool) : St := ⟨[(3, .p (bV o1))], ⟨[], []⟩⟩
noncomputable def t_uri_worth (y : Int × Bool) : D := .tup [.p (nV .u8 y.1), .p (bV y.2)]
noncomputable def uri_worth_lv : List (Nat × List Nat) := [(0, [0]), (1, [0, 4]), (2, [2, 3]), (3, [0, 9]), (4, [2, 3]), (5, [2, 3]), (3000003, [])]
noncomputable def uri_worth_J0_0 (p0 : Int) (o2 : Bool) : St := ⟨[(0, .p (nV .u8 p0)), (9, .p (bV o2))], ⟨[], []⟩⟩
noncomputable def R01_digit (p0 : Int) : Option (Int) :=
  ( if (decide (p0 ≥ 48)) then
      some (decide (p0 ≤ 57))
    else
      some false : Option (Bool)) >>= fun o1 =>
  if o1 then
    some (wr ((wr p0) - 48))
  else
    ( if (decide (p0 ≥ 65)) then
        some (decide (p0 ≤ 70))
      else
        some false : Option (Bool)) >>= fun o2 =>
    if o2 then
      some (wr ((wr ((wr p0) - 65)) + 10))
    else
      ( if (decide (p0 ≥ 97)) then
          some (decide (p0 ≤ 102))
        else
          some false : Option (Bool)) >>= fun o3 =>
      if o3 then
        some (wr ((wr ((wr p0) - 97)) + 10))
      else
        some 16
noncomputable def R01_Byte (p0 : (List UInt8)) (p1 : Int) : Option (Int × Bool) :=
  ( if (decide (p1 < 0)) then
      some true
    else
      some (decide (p1 > (wr ((p0.length : Int) - 2)))) : Option (Bool)) >>= fun o1 =>
  if o1 then
    some (0, false)
  else
    idx p0 p1 >>= fun x2 =>
    R01_digit (x2.toNat : Int) >>= fun x3 =>
    idx p0 (wr (p1 + 1)) >>= fun x4 =>
    R01_digit (x4.toNat : Int) >>= fun x5 =>
    ( if (decide (x3 > 15)) then
        some true
      else
        some (decide (x5 > 15)) : Option (Bool)) >>= fun o6 =>
    if o6 then
      some (0, false)
    else
      some ((IntKind.u8.wrap (wr ((wr (16 * x3)) + x5))), true)
noncomputable def R01_Cut_L1 (p0 : (List UInt8)) (p1 : Int) (v5 : (List (List UInt8))) (v6 : Int) (v7 : Int) : Option (((List (List UInt8)) × Int)) :=
  if (decide (v7 < (p0.length : Int))) then
    idx p0 v7 >>= fun x2 =>
    if ((x2.toNat : Int) == p1) then
      cutL p0 v6 v7 >>= fun x3 =>
      appL 16 v5 [x3] >>= fun x4 =>
      R01_Cut_L1 p0 p1 x4 (wr (v7 + 1)) (wr (v7 + 1))
    else
      R01_Cut_L1 p0 p1 v5 v6 (wr (v7 + 1))
  else
    some (v5, v6)
  partial_fixpoint
noncomputable def R01_Cut (p0 : (List UInt8)) (p1 : Int) : Option ((List (List UInt8))) :=
  (R01_Cut_L1 p0 p1 [] 0 0) >>= fun o1 =>
  cutL p0 o1.2 (p0.length : Int) >>= fun x5 =>
  appL 16 o1.1 [x5] >>= fun x6 =>
  some x6
noncomputable def R01_Pair (p0 : Int) : Option ((List UInt8)) :=
  cutL [48, 49, 50, 51, 52, 53, 54, 55, 56, 57, 65, 66, 67, 68, 69, 70] (IntKind.u8.wrap (p0.tdiv 16)) (IntKind.u8.wrap ((IntKind.u8.wrap (p0.tdiv 16)) + 1)) >>= fun x1 =>
  cutL [48, 49, 50, 51, 52, 53, 54, 55, 56, 57, 65, 66, 67, 68, 69, 70] (p0.tmod 16) (IntKind.u8.wrap ((p0.tmod 16) + 1)) >>= fun x2 =>
  need (x1.length + x2.length ≤ 9223372036854775807) >>= fun _ =>
  some (x1 ++ x2)
set_option maxRecDepth 100000 in
set_option maxHeartbeats 4000000 in
theorem R01_Pair_ok : ∀ (p0 : Int) (o : (List UInt8)), R01_Pair p0 = some o → PCall Tryd.prog 46 [nV .u8 p0] (t_R01_Pair o) := by
  intro p0 o h
  unfold R01_Pair at h
  refine PCall.ofB mixed tbOk R01_Pair_lv Tryd.func46 rfl (by kernel_rfl) (Nat.le_of_ble_eq_true rfl) ?_
  refine And.intro (by decide +kernel) (And.intro rfl ?_)
  refine And.intro (by decide) ?_
  refine And.intro (by decide) ?_
  refine st_cuts (some (IntKind.u8.wrap (p0.tdiv 16))) (some (IntKind.u8.wrap ((IntKind.u8.wrap (p0.tdiv 16)) + 1))) h (fun x1 hi h => ?_)
  refine And.intro (by decide) ?_
  refine And.intro (by decide) ?_
  refine st_cuts (some (p0.tmod 16)) (some (IntKind.u8.wrap ((p0.tmod 16) + 1))) h (fun x2 hi h => ?_)
  refine st_need h (fun h => ?_)
  refine st_ret (t := t_R01_Pair) h ?_
  exact .refl _
noncomputable def R01_Same_L1 (p0 : (List (List UInt8))) (p1 : (List (List UInt8))) (v5 : Int) : Option (Unit ⊕ Unit) :=
  if (decide (v5 < (p0.length : Int))) then
    idx p0 v5 >>= fun x4 =>
    idx p1 v5 >>= fun x5 =>
    if (!(x4 == x5)) then
      some (.inr ())
    else
      R01_Same_L1 p0 p1 (wr (v5 + 1))
  else
    some (.inl ())
  partial_fixpoint
set_option maxRecDepth 100000 in
set_option maxHeartbeats 4000000 in
theorem R01_Same_L1_grp : ∀ (p0 : (List (List UInt8))) (p1 : (List (List UInt8))), (∀ (v5 : Int) (o1 : Unit ⊕ Unit), R01_Same_L1 p0 p1 v5 = some o1 → TL (0, 0) Tryd.prog 26 R01_Same_L1_c (JP2 (0, 0) 26 o1 (.exit 0) (R01_Same_L1_x0 p0 p1) .ret (R01_Same_L1_x1 p0 p1)) (R01_Same_L1_st p0 p1 v5)) := by
  intro p0 p1
  refine R01_Same_L1.partial_correctness p0 p1 _ ?_
  intro R01_Same_L1' ih_R01_Same_L1 v5 o1 h
  refine TL.round (bwp_sound mixed tbOk (lv := R01_Same_lv) _ _ _ ?_)
  refine view (lenMap _ _) rfl ?_
  refine st_test h (fun hb h => ?_) (fun hb h => ?_)
  · refine And.intro (by decide +kernel) (And.intro rfl ?_)
    refine st_idx (l := p0) (c := cStr) (c' := cStr) h (fun _ => rfl) (fun _ => rfl) (by decide) (fun x4 hi h => ?_)
    refine st_idx (l := p1) (c := cStr) (c' := cStr) h (fun _ => rfl) (fun _ => rfl) (by decide) (fun x5 hi h => ?_)
    refine st_test h (fun hb h => ?_) (fun hb h => ?_)
    · exact JP2.b h (Le.tow 0 0 rfl (.cons rfl (.refl _) (.nil)) (.refl _) rfl)
    · refine TL.le (τ := R01_Same_L1_st p0 p1 (wr (v5 + 1))) ?_ ((ih_R01_Same_L1 (wr (v5 + 1)) _ h))
      exact Le.tow 0 0 rfl (.cons rfl (.refl _) (.cons rfl (.refl _) (.cons rfl (.refl _) (.nil)))) (.refl _) rfl
  · exact JP2.a h (Le.tow 0 0 rfl (.nil) (.refl _) rfl)
theorem R01_Same_L1_ok : ∀ (p0 : (List (List UInt8))) (p1 : (List (List UInt8))) (v5 : Int) (o1 : Unit ⊕ Unit), R01_Same_L1 p0 p1 v5 = some o1 → TL (0, 0) Tryd.prog 26 R01_Same_L1_c (JP2 (0, 0) 26 o1 (.exit 0) (R01_Same_L1_x0 p0 p1) .ret (R01_Same_L1_x1 p0 p1)) (R01_Same_L1_st p0 p1 v5) := fun p0 p1 v5 o1 h => (R01_Same_L1_grp p0 p1) v5 o1 h
noncomputable def R01_Same (p0 : (List (List UInt8))) (p1 : (List (List UInt8))) : Option (Bool) :=
  if ((p0.length : Int) != (p1.length : Int)) then
    some false
  else
    (R01_Same_L1 p0 p1 0) >>= fun o1 =>
    match o1 with
    | .inl y2 =>
      some true
    | .inr y3 =>
      some false
set_option maxRecDepth 100000 in
set_option maxHeartbeats 4000000 in
theorem R01_Same_ok : ∀ (p0 : (List (List UInt8))) (p1 : (List (List UInt8))) (o : Bool), R01_Same p0 p1 = some o → PCall Tryd.prog 25 [.sl false (p0.map cStr), .sl false (p1.map cStr)] (t_R01_Same o) := by
  intro p0 p1 o h
  unfold R01_Same at h
  refine PCall.ofB mixed tbOk R01_Same_lv Tryd.func25 rfl (by kernel_rfl) (Nat.le_of_ble_eq_true rfl) ?_
  refine view (lenMap _ _) rfl ?_
  refine view (lenMap _ _) rfl ?_
  refine st_test h (fun hb h => ?_) (fun hb h => ?_)
  · refine st_ret (t := t_R01_Same) h ?_
    exact .refl _
  · refine st_bind h (fun o1 ho hk => ?_)
    refine Exists.intro (JP2 _ _ o1 (.exit 0) (R01_Same_L1_x0 p0 p1) .ret (R01_Same_L1_x1 p0 p1)) (And.intro (T_le (τ := R01_Same_L1_st p0 p1 0) ?_ (TL.loop (R01_Same_L1_ok p0 p1 0 o1 ho))) (join2 (fun y2 hy => ?_) (fun y3 hy => ?_)))
    · exact Le.tow 0 0 rfl (.cons rfl (.refl _) (.cons rfl (.refl _) (.cons rfl (.refl _) (.nil)))) (.refl _) rfl
    · have h := (by rw [hy] at hk; exact hk)
      refine st_ret (t := t_R01_Same) h ?_
      exact .refl _
    · have h := (by rw [hy] at hk; exact hk)
      refine st_ret (t := t_R01_Same) h ?_
      exact .refl _
noncomputable def R08_Free (p0 : Int) : Option (Bool) :=
  ( if (decide (p0 ≥ 65)) then
      if (decide (p0 ≤ 90)) then
        some true
      else
        if (decide (p0 ≥ 97)) then
          if (decide (p0 ≤ 122)) then
            some true
          else
            if (decide (p0 ≥ 48)) then
              if (decide (p0 ≤ 57)) then
                some true
              else
                if (p0 == 45) then
                  some true
                else
                  if (p0 == 46) then
                    some true
                  else
                    if (p0 == 95) then
                      some true
                    else
                      some (p0 == 126)
            else
              if (p0 == 45) then
                some true
              else
                if (p0 == 46) then
                  some true
                else
                  if (p0 == 95) then
                    some true
                  else
                    some (p0 == 126)
        else
          if (decide (p0 ≥ 48)) then
            if (decide (p0 ≤ 57)) then
              some true
            else
              if (p0 == 45) then
                some true
              else
                if (p0 == 46) then
                  some true
                else
                  if (p0 == 95) then
                    some true
                  else
                    some (p0 == 126)
          else
            if (p0 == 45) then
              some true
            else
              if (p0 == 46) then
                some true
              else
                if (p0 == 95) then
                  some true
                else
                  some (p0 == 126)
    else
      if (decide (p0 ≥ 97)) then
        if (decide (p0 ≤ 122)) then
          some true
        else
          if (decide (p0 ≥ 48)) then
            if (decide (p0 ≤ 57)) then
              some true
            else
              if (p0 == 45) then
                some true
              else
                if (p0 == 46) then
                  some true
                else
                  if (p0 == 95) then
                    some true
                  else
                    some (p0 == 126)
          else
            if (p0 == 45) then
              some true
            else
              if (p0 == 46) then
                some true
              else
                if (p0 == 95) then
                  some true
                else
                  some (p0 == 126)
      else
        if (decide (p0 ≥ 48)) then
          if (decide (p0 ≤ 57)) then
            some true
          else
            if (p0 == 45) then
              some true
            else
              if (p0 == 46) then
                some true
              else
                if (p0 == 95) then
                  some true
                else
                  some (p0 == 126)
        else
          if (p0 == 45) then
            some true
          else
            if (p0 == 46) then
              some true
            else
              if (p0 == 95) then
                some true
              else
                some (p0 == 126) : Option (Bool)) >>= fun o1 =>
  some o1
set_option maxRecDepth 100000 in
set_option maxHeartbeats 4000000 in
theorem R08_Free_ok : ∀ (p0 : Int) (o : Bool), R08_Free p0 = some o → PCall Tryd.prog 45 [nV .u8 p0] (t_R08_Free o) := by
  intro p0 o h
  unfold R08_Free at h
  refine PCall.ofB mixed tbOk R08_Free_lv Tryd.func45 rfl (by kernel_rfl) (Nat.le_of_ble_eq_true rfl) ?_
  refine st_bind h (fun o1 ho hk => ?_)
  refine Exists.intro (JP1 _ _ o1 .normal (R08_Free_J0_0 )) (And.intro ?_ (join1 ?_))
  · have h := ho
    refine st_test h (fun hb h => ?_) (fun hb h => ?_)
    · refine st_test h (fun hb h => ?_) (fun hb h => ?_)
      · refine bT ?_
        refine bT ?_
        refine bT ?_
        refine bT ?_
        refine bT ?_
        exact JP1.a h (Le.tow 0 0 rfl (.cons rfl (.refl _) (.nil)) (.refl _) rfl)
      · refine st_test h (fun hb h => ?_) (fun hb h => ?_)
        · refine st_test h (fun hb h => ?_) (fun hb h => ?_)
          · refine bT ?_
            refine bT ?_
            refine bT ?_
            refine bT ?_
            exact JP1.a h (Le.tow 0 0 rfl (.cons rfl (.refl _) (.nil)) (.refl _) rfl)
          · refine st_test h (fun hb h => ?_) (fun hb h => ?_)
            · refine st_test h (fun hb h => ?_) (fun hb h => ?_)
              · refine bT ?_
                refine bT ?_
                refine bT ?_
                exact JP1.a h (Le.tow 0 0 rfl (.cons rfl (.refl _) (.nil)) (.refl _) rfl)
              · refine st_test h (fun hb h => ?_) (fun hb h => ?_)
                · refine bT ?_
                  refine bT ?_
                  exact JP1.a h (Le.tow 0 0 rfl (.cons rfl (.refl _) (.nil)) (.refl _) rfl)
                · refine st_test h (fun hb h => ?_) (fun hb h => ?_)
                  · refine bT ?_
                    exact JP1.a h (Le.tow 0 0 rfl (.cons rfl (.refl _) (.nil)) (.refl _) rfl)
                  · refine st_test h (fun hb h => ?_) (fun hb h => ?_)
                    · exact JP1.a h (Le.tow 0 0 rfl (.cons rfl (.refl _) (.nil)) (.refl _) rfl)
                    · exact JP1.a h (Le.tow 0 0 rfl (.cons rfl (.refl _) (.nil)) (.refl _) rfl)
            · refine bF ?_
              refine st_test h (fun hb h => ?_) (fun hb h => ?_)
              · refine bT ?_
                refine bT ?_
                exact JP1.a h (Le.tow 0 0 rfl (.cons rfl (.refl _) (.nil)) (.refl _) rfl)
              · refine st_test h (fun hb h => ?_) (fun hb h => ?_)
                · refine bT ?_
                  exact JP1.a h (Le.tow 0 0 rfl (.cons rfl (.refl _) (.nil)) (.refl _) rfl)
                · refine st_test h (fun hb h => ?_) (fun hb h => ?_)
                  · exact JP1.a h (Le.tow 0 0 rfl (.cons rfl (.refl _) (.nil)) (.refl _) rfl)
                  · exact JP1.a h (Le.tow 0 0 rfl (.cons rfl (.refl _) (.nil)) (.refl _) rfl)
        · refine bF ?_
          refine st_test h (fun hb h => ?_) (fun hb h => ?_)
          · refine st_test h (fun hb h => ?_) (fun hb h => ?_)
            · refine bT ?_
              refine bT ?_
              refine bT ?_
              exact JP1.a h (Le.tow 0 0 rfl (.cons rfl (.refl _) (.nil)) (.refl _) rfl)
            · refine st_test h (fun hb h => ?_) (fun hb h => ?_)
              · refine bT ?_
                refine bT ?_
                exact JP1.a h (Le.tow 0 0 rfl (.cons rfl (.refl _) (.nil)) (.refl _) rfl)
              · refine st_test h (fun hb h => ?_) (fun hb h => ?_)
                · refine bT ?_
                  exact JP1.a h (Le.tow 0 0 rfl (.cons rfl (.refl _) (.nil)) (.refl _) rfl)
                · refine st_test h (fun hb h => ?_) (fun hb h => ?_)
                  · exact JP1.a h (Le.tow 0 0 rfl (.cons rfl (.refl _) (.nil)) (.refl _) rfl)
                  · exact JP1.a h (Le.tow 0 0 rfl (.cons rfl (.refl _) (.nil)) (.refl _) rfl)
          · refine bF ?_
            refine st_test h (fun hb h => ?_) (fun hb h => ?_)
            · refine bT ?_
              refine bT ?_
              exact JP1.a h (Le.tow 0 0 rfl (.cons rfl (.refl _) (.nil)) (.refl _) rfl)
            · refine st_test h (fun hb h => ?_) (fun hb h => ?_)
              · refine bT ?_
                exact JP1.a h (Le.tow 0 0 rfl (.cons rfl (.refl _) (.nil)) (.refl _) rfl)
              · refine st_test h (fun hb h => ?_) (fun hb h => ?_)
                · exact JP1.a h (Le.tow 0 0 rfl (.cons rfl (.refl _) (.nil)) (.refl _) rfl)
                · exact JP1.a h (Le.tow 0 0 rfl (.cons rfl (.refl _) (.nil)) (.refl _) rfl)
    · refine bF ?_
      refine st_test h (fun hb h => ?_) (fun hb h => ?_)
      · refine st_test h (fun hb h => ?_) (fun hb h => ?_)
        · refine bT ?_
          refine bT ?_
          refine bT ?_
          refine bT ?_
          exact JP1.a h (Le.tow 0 0 rfl (.cons rfl (.refl _) (.nil)) (.refl _) rfl)
        · refine st_test h (fun hb h => ?_) (fun hb h => ?_)
          · refine st_test h (fun hb h => ?_) (fun hb h => ?_)
            · refine bT ?_
              refine bT ?_
              refine bT ?_
              exact JP1.a h (Le.tow 0 0 rfl (.cons rfl (.refl _) (.nil)) (.refl _) rfl)
            · refine st_test h (fun hb h => ?_) (fun hb h => ?_)
              · refine bT ?_
                refine bT ?_
                exact JP1.a h (Le.tow 0 0 rfl (.cons rfl (.refl _) (.nil)) (.refl _) rfl)
              · refine st_test h (fun hb h => ?_) (fun hb h => ?_)
                · refine bT ?_
                  exact JP1.a h (Le.tow 0 0 rfl (.cons rfl (.refl _) (.nil)) (.refl _) rfl)
                · refine st_test h (fun hb h => ?_) (fun hb h => ?_)
                  · exact JP1.a h (Le.tow 0 0 rfl (.cons rfl (.refl _) (.nil)) (.refl _) rfl)
                  · exact JP1.a h (Le.tow 0 0 rfl (.cons rfl (.refl _) (.nil)) (.refl _) rfl)
          · refine bF ?_
            refine st_test h (fun hb h => ?_) (fun hb h => ?_)
            · refine bT ?_
              refine bT ?_
              exact JP1.a h (Le.tow 0 0 rfl (.cons rfl (.refl _) (.nil)) (.refl _) rfl)
            · refine st_test h (fun hb h => ?_) (fun hb h => ?_)
              · refine bT ?_
                exact JP1.a h (Le.tow 0 0 rfl (.cons rfl (.refl _) (.nil)) (.refl _) rfl)
              · refine st_test h (fun hb h => ?_) (fun hb h => ?_)
                · exact JP1.a h (Le.tow 0 0 rfl (.cons rfl (.refl _) (.nil)) (.refl _) rfl)
                · exact JP1.a h (Le.tow 0 0 rfl (.cons rfl (.refl _) (.nil)) (.refl _) rfl)
      · refine bF ?_
        refine st_test h (fun hb h => ?_) (fun hb h => ?_)
        · refine st_test h (fun hb h => ?_) (fun hb h => ?_)
          · refine bT ?_
            refine bT ?_
            refine bT ?_
            exact JP1.a h (Le.tow 0 0 rfl (.cons rfl (.refl _) (.nil)) (.refl _) rfl)
          · refine st_test h (fun hb h => ?_) (fun hb h => ?_)
            · refine bT ?_
              refine bT ?_
              exact JP1.a h (Le.tow 0 0 rfl (.cons rfl (.refl _) (.nil)) (.refl _) rfl)
            · refine st_test h (fun hb h => ?_) (fun hb h => ?_)
              · refine bT ?_
                exact JP1.a h (Le.tow 0 0 rfl (.cons rfl (.refl _) (.nil)) (.refl _) rfl)
              · refine st_test h (fun hb h => ?_) (fun hb h => ?_)
                · exact JP1.a h (Le.tow 0 0 rfl (.cons rfl (.refl _) (.nil)) (.refl _) rfl)
                · exact JP1.a h (Le.tow 0 0 rfl (.cons rfl (.refl _) (.nil)) (.refl _) rfl)
        · refine bF ?_
          refine st_test h (fun hb h => ?_) (fun hb h => ?_)
          · refine bT ?_
            refine bT ?_
            exact JP1.a h (Le.tow 0 0 rfl (.cons rfl (.refl _) (.nil)) (.refl _) rfl)
          · refine st_test h (fun hb h => ?_) (fun hb h => ?_)
            · refine bT ?_
              exact JP1.a h (Le.tow 0 0 rfl (.cons rfl (.refl _) (.nil)) (.refl _) rfl)
            · refine st_test h (fun hb h => ?_) (fun hb h => ?_)
              · exact JP1.a h (Le.tow 0 0 rfl (.cons rfl (.refl _) (.nil)) (.refl _) rfl)
              · exact JP1.a h (Le.tow 0 0 rfl (.cons rfl (.refl _) (.nil)) (.refl _) rfl)
  · have h := hk
    refine st_ret (t := t_R08_Free) h ?_
    exact .refl _
noncomputable def R08_Write_L1 (p0 : (List UInt8)) (v3 : (List UInt8)) (v4 : Int) : Option ((List UInt8)) :=
  if (decide (v4 < (p0.length : Int))) then
    idx p0 v4 >>= fun x2 =>
    R08_Free (x2.toNat : Int) >>= fun x3 =>
    if x3 then
      cutL p0 v4 (wr (v4 + 1)) >>= fun x4 =>
      need (v3.length + x4.length ≤ 9223372036854775807) >>= fun _ =>
      R08_Write_L1 p0 (v3 ++ x4) (wr (v4 + 1))
    else
      need (v3.length + [37].length ≤ 9223372036854775807) >>= fun _ =>
      idx p0 v4 >>= fun x5 =>
      R01_Pair (x5.toNat : Int) >>= fun x6 =>
      need ((v3 ++ [37]).length + x6.length ≤ 9223372036854775807) >>= fun _ =>
      R08_Write_L1 p0 ((v3 ++ [37]) ++ x6) (wr (v4 + 1))
  else
    some v3
  partial_fixpoint
set_option maxRecDepth 100000 in
set_option maxHeartbeats 4000000 in
theorem R08_Write_L1_grp : ∀ (p0 : (List UInt8)), (∀ (v3 : (List UInt8)) (v4 : Int) (o1 : (List UInt8)), R08_Write_L1 p0 v3 v4 = some o1 → TL (0, 0) Tryd.prog 30 R08_Write_L1_c (JP1 (0, 0) 30 o1 (.exit 0) (R08_Write_L1_x0 p0)) (R08_Write_L1_st p0 v3 v4)) := by
  intro p0
  refine R08_Write_L1.partial_correctness p0 _ ?_
  intro R08_Write_L1' ih_R08_Write_L1 v3 v4 o1 h
  refine TL.round (bwp_sound mixed tbOk (lv := R08_Write_lv) _ _ _ ?_)
  refine vrfl ?_
  refine st_test h (fun hb h => ?_) (fun hb h => ?_)
  · refine st_sidx h (fun x2 hi h => ?_)
    refine st_call [nV .u8 (x2.toNat : Int)] t_R08_Free h (fun x3 hy => (R08_Free_ok (x2.toNat : Int) x3 hy)) (fun x3 hy h => ?_)
    refine st_test h (fun hb h => ?_) (fun hb h => ?_)
    · refine st_cuts (some v4) (some (wr (v4 + 1))) h (fun x4 hi h => ?_)
      refine st_need h (fun h => ?_)
      refine TL.le (τ := R08_Write_L1_st p0 (v3 ++ x4) (wr (v4 + 1))) ?_ ((ih_R08_Write_L1 (v3 ++ x4) (wr (v4 + 1)) _ h))
      exact Le.tow 0 0 rfl (.cons rfl (.refl _) (.cons rfl (.refl _) (.cons rfl (.refl _) (.nil)))) (.refl _) rfl
    · refine st_need h (fun h => ?_)
      refine st_sidx h (fun x5 hi h => ?_)
      refine st_call [nV .u8 (x5.toNat : Int)] t_R01_Pair h (fun x6 hy => (R01_Pair_ok (x5.toNat : Int) x6 hy)) (fun x6 hy h => ?_)
      refine st_need h (fun h => ?_)
      refine TL.le (τ := R08_Write_L1_st p0 ((v3 ++ [37]) ++ x6) (wr (v4 + 1))) ?_ ((ih_R08_Write_L1 ((v3 ++ [37]) ++ x6) (wr (v4 + 1)) _ h))
      exact Le.tow 0 0 rfl (.cons rfl (.refl _) (.cons rfl (.refl _) (.cons rfl (.refl _) (.nil)))) (.refl _) rfl
  · exact JP1.a h (Le.tow 0 0 rfl (.cons rfl (.refl _) (.nil)) (.refl _) rfl)
theorem R08_Write_L1_ok : ∀ (p0 : (List UInt8)) (v3 : (List UInt8)) (v4 : Int) (o1 : (List UInt8)), R08_Write_L1 p0 v3 v4 = some o1 → TL (0, 0) Tryd.prog 30 R08_Write_L1_c (JP1 (0, 0) 30 o1 (.exit 0) (R08_Write_L1_x0 p0)) (R08_Write_L1_st p0 v3 v4) := fun p0 v3 v4 o1 h => (R08_Write_L1_grp p0) v3 v4 o1 h
noncomputable def R08_Write (p0 : (List UInt8)) : Option ((List UInt8)) :=
  (R08_Write_L1 p0 [] 0) >>= fun o1 =>
  some o1
set_option maxRecDepth 100000 in
set_option maxHeartbeats 4000000 in
theorem R08_Write_ok : ∀ (p0 : (List UInt8)) (o : (List UInt8)), R08_Write p0 = some o → PCall Tryd.prog 28 [sV p0] (t_R08_Write o) := by
  intro p0 o h
  unfold R08_Write at h
  refine PCall.ofB mixed tbOk R08_Write_lv Tryd.func28 rfl (by kernel_rfl) (Nat.le_of_ble_eq_true rfl) ?_
  refine st_bind h (fun o1 ho hk => ?_)
  refine Exists.intro (JP1 _ _ o1 (.exit 0) (R08_Write_L1_x0 p0)) (And.intro (T_le (τ := R08_Write_L1_st p0 [] 0) ?_ (TL.loop (R08_Write_L1_ok p0 [] 0 o1 ho))) (join1 ?_))
  · exact Le.tow 0 0 rfl (.cons rfl (.refl _) (.cons rfl (.refl _) (.cons rfl (.refl _) (.nil)))) (.refl _) rfl
  have h := hk
  refine st_ret (t := t_R08_Write) h ?_
  exact .refl _
noncomputable def R12_Decode_L1 (p0 : (List UInt8)) (v4 : (List Int)) (v5 : Int) : Option ((List Int) ⊕ Unit) :=
  if (decide (v5 < (p0.length : Int))) then
    idx p0 v5 >>= fun x4 =>
    ( if ((x4.toNat : Int) == 37) then
        R01_Byte p0 (wr (v5 + 1)) >>= fun x8 =>
        if (!x8.2) then
          some (.inr ())
        else
          some (.inl ((wr (v5 + 2)), x8.1))
      else
        some (.inl (v5, (x4.toNat : Int))) : Option ((Int × Int) ⊕ Unit)) >>= fun o5 =>
    match o5 with
    | .inl y6 =>
      appL 1 v4 [y6.2] >>= fun x9 =>
      R12_Decode_L1 p0 x9 (wr (y6.1 + 1))
    | .inr y7 =>
      some (.inr ())
  else
    some (.inl v4)
  partial_fixpoint
noncomputable def R12_Decode (p0 : (List UInt8)) : Option ((List UInt8) × Int) :=
  (R12_Decode_L1 p0 [] 0) >>= fun o1 =>
  match o1 with
  | .inl y2 =>
    b2s y2 >>= fun x10 =>
    some (x10, 0)
  | .inr y3 =>
    some ([], 7)
noncomputable def R12_SamePairs_L1 (p0 : (List api_Pair)) (p1 : (List api_Pair)) (v5 : Int) : Option (Unit ⊕ Unit) :=
  if (decide (v5 < (p0.length : Int))) then
    ( idx p0 v5 >>= fun x5 =>
      idx p1 v5 >>= fun x6 =>
      if (!(x5.Key == x6.Key)) then
        some true
      else
        idx p0 v5 >>= fun x7 =>
        idx p1 v5 >>= fun x8 =>
        some (!(x7.Val == x8.Val)) : Option (Bool)) >>= fun o4 =>
    if o4 then
      some (.inr ())
    else
      R12_SamePairs_L1 p0 p1 (wr (v5 + 1))
  else
    some (.inl ())
  partial_fixpoint
set_option maxRecDepth 100000 in
set_option maxHeartbeats 4000000 in
theorem R12_SamePairs_L1_grp : ∀ (p0 : (List api_Pair)) (p1 : (List api_Pair)), (∀ (v5 : Int) (o1 : Unit ⊕ Unit), R12_SamePairs_L1 p0 p1 v5 = some o1 → TL (0, 0) Tryd.prog 41 R12_SamePairs_L1_c (JP2 (0, 0) 41 o1 (.exit 0) (R12_SamePairs_L1_x0 p0 p1) .ret (R12_SamePairs_L1_x1 p0 p1)) (R12_SamePairs_L1_st p0 p1 v5)) := by
  intro p0 p1
  refine R12_SamePairs_L1.partial_correctness p0 p1 _ ?_
  intro R12_SamePairs_L1' ih_R12_SamePairs_L1 v5 o1 h
  refine TL.round (bwp_sound mixed tbOk (lv := R12_SamePairs_lv) _ _ _ ?_)
  refine view (lenMap _ _) rfl ?_
  refine st_test h (fun hb h => ?_) (fun hb h => ?_)
  · refine st_bind h (fun o4 ho hk => ?_)
    refine Exists.intro (JP1 _ _ o4 .normal (R12_SamePairs_J0_0 p0 p1 v5)) (And.intro ?_ (join1 ?_))
    · have h := ho
      refine And.intro (by decide +kernel) (And.intro rfl ?_)
      refine st_idx (l := p0) (c := c_api_Pair) (c' := c_api_Pair) h (fun _ => rfl) (fun _ => rfl) (by decide) (fun x5 hi h => ?_)
      refine st_idx (l := p1) (c := c_api_Pair) (c' := c_api_Pair) h (fun _ => rfl) (fun _ => rfl) (by decide) (fun x6 hi h => ?_)
      refine st_test h (fun hb h => ?_) (fun hb h => ?_)
      · exact JP1.a h (Le.tow 0 0 rfl (.cons rfl (.refl _) (.cons rfl (.refl _) (.cons rfl (.refl _) (.cons rfl (.refl _) (.nil))))) (.refl _) rfl)
      · refine st_idx (l := p0) (c := c_api_Pair) (c' := c_api_Pair) h (fun _ => rfl) (fun _ => rfl) (by decide) (fun x7 hi h => ?_)
        refine st_idx (l := p1) (c := c_api_Pair) (c' := c_api_Pair) h (fun _ => rfl) (fun _ => rfl) (by decide) (fun x8 hi h => ?_)
        exact JP1.a h (Le.tow 0 0 rfl (.cons rfl (.refl _) (.cons rfl (.refl _) (.cons rfl (.refl _) (.cons rfl (.refl _) (.nil))))) (.refl _) rfl)
    · have h := hk
      refine st_test h (fun hb h => ?_) (fun hb h => ?_)
      · exact JP2.b h (Le.tow 0 0 rfl (.cons rfl (.refl _) (.nil)) (.refl _) rfl)
      · refine TL.le (τ := R12_SamePairs_L1_st p0 p1 (wr (v5 + 1))) ?_ ((ih_R12_SamePairs_L1 (wr (v5 + 1)) _ h))
        exact Le.tow 0 0 rfl (.cons rfl (.refl _) (.cons rfl (.refl _) (.cons rfl (.refl _) (.nil)))) (.refl _) rfl
  · exact JP2.a h (Le.tow 0 0 rfl (.nil) (.refl _) rfl)
theorem R12_SamePairs_L1_ok : ∀ (p0 : (List api_Pair)) (p1 : (List api_Pair)) (v5 : Int) (o1 : Unit ⊕ Unit), R12_SamePairs_L1 p0 p1 v5 = some o1 → TL (0, 0) Tryd.prog 41 R12_SamePairs_L1_c (JP2 (0, 0) 41 o1 (.exit 0) (R12_SamePairs_L1_x0 p0 p1) .ret (R12_SamePairs_L1_x1 p0 p1)) (R12_SamePairs_L1_st p0 p1 v5) := fun p0 p1 v5 o1 h => (R12_SamePairs_L1_grp p0 p1) v5 o1 h
noncomputable def R12_SamePairs (p0 : (List api_Pair)) (p1 : (List api_Pair)) : Option (Bool) :=
  if ((p0.length : Int) != (p1.length : Int)) then
    some false
  else
    (R12_SamePairs_L1 p0 p1 0) >>= fun o1 =>
    match o1 with
    | .inl y2 =>
      some true
    | .inr y3 =>
      some false
set_option maxRecDepth 100000 in
set_option maxHeartbeats 4000000 in
theorem R12_SamePairs_ok : ∀ (p0 : (List api_Pair)) (p1 : (List api_Pair)) (o : Bool), R12_SamePairs p0 p1 = some o → PCall Tryd.prog 26 [.sl false (p0.map c_api_Pair), .sl false (p1.map c_api_Pair)] (t_R12_SamePairs o) := by
  intro p0 p1 o h
  unfold R12_SamePairs at h
  refine PCall.ofB mixed tbOk R12_SamePairs_lv Tryd.func26 rfl (by kernel_rfl) (Nat.le_of_ble_eq_true rfl) ?_
  refine view (lenMap _ _) rfl ?_
  refine view (lenMap _ _) rfl ?_
  refine st_test h (fun hb h => ?_) (fun hb h => ?_)
  · refine st_ret (t := t_R12_SamePairs) h ?_
    exact .refl _
  · refine st_bind h (fun o1 ho hk => ?_)
    refine Exists.intro (JP2 _ _ o1 (.exit 0) (R12_SamePairs_L1_x0 p0 p1) .ret (R12_SamePairs_L1_x1 p0 p1)) (And.intro (T_le (τ := R12_SamePairs_L1_st p0 p1 0) ?_ (TL.loop (R12_SamePairs_L1_ok p0 p1 0 o1 ho))) (join2 (fun y2 hy => ?_) (fun y3 hy => ?_)))
    · exact Le.tow 0 0 rfl (.cons rfl (.refl _) (.cons rfl (.refl _) (.cons rfl (.refl _) (.nil)))) (.refl _) rfl
    · have h := (by rw [hy] at hk; exact hk)
      refine st_ret (t := t_R12_SamePairs) h ?_
      exact .refl _
    · have h := (by rw [hy] at hk; exact hk)
      refine st_ret (t := t_R12_SamePairs) h ?_
      exact .refl _
noncomputable def R12_Segments_L1 (x1 : (List (List UInt8))) (v5 : (List (List UInt8))) (v6 : Int) : Option ((List (List UInt8)) ⊕ Int) :=
  if (decide (v6 < (x1.length : Int))) then
    idx x1 v6 >>= fun x5 =>
    R12_Decode x5 >>= fun x6 =>
    if (x6.2 != 0) then
      some (.inr x6.2)
    else
      appL 16 v5 [x6.1] >>= fun x7 =>
      R12_Segments_L1 x1 x7 (wr (v6 + 1))
  else
    some (.inl v5)
  partial_fixpoint
noncomputable def R12_Segments (p0 : (List UInt8)) : Option ((List (List UInt8)) × Int) :=
  R01_Cut p0 47 >>= fun x1 =>
  (R12_Segments_L1 x1 [] 0) >>= fun o2 =>
  match o2 with
  | .inl y3 =>
    some (y3, 0)
  | .inr y4 =>
    some ([], y4)
noncomputable def R12_one_L1 (p0 : (List UInt8)) (p1 : Int) (v5 : Int) : Option (Unit ⊕ Unit) :=
  if (decide (v5 < (p0.length : Int))) then
    idx p0 v5 >>= fun x4 =>
    if ((x4.toNat : Int) == p1) then
      some (.inr ())
    else
      R12_one_L1 p0 p1 (wr (v5 + 1))
  else
    some (.inl ())
  partial_fixpoint
noncomputable def R12_one (p0 : (List UInt8)) (p1 : Int) : Option (Bool) :=
  (R12_one_L1 p0 p1 0) >>= fun o1 =>
  match o1 with
  | .inl y2 =>
    some false
  | .inr y3 =>
    some true
noncomputable def R12_upto_L1 (p0 : (List UInt8)) (p1 : (List UInt8)) (v5 : Int) : Option (Unit ⊕ Int) :=
  if (decide (v5 < (p0.length : Int))) then
    idx p0 v5 >>= fun x4 =>
    R12_one p1 (x4.toNat : Int) >>= fun x5 =>
    if x5 then
      some (.inr v5)
    else
      R12_upto_L1 p0 p1 (wr (v5 + 1))
  else
    some (.inl ())
  partial_fixpoint
noncomputable def R12_upto (p0 : (List UInt8)) (p1 : (List UInt8)) : Option (Int) :=
  (R12_upto_L1 p0 p1 0) >>= fun o1 =>
  match o1 with
  | .inl y2 =>
    some (p0.length : Int)
  | .inr y3 =>
    some y3
noncomputable def R12_Values_L1 (x1 : (List (List UInt8))) (v4 : (List api_Pair)) (v6 : Int) : Option ((List api_Pair) ⊕ Int) :=
  if (decide (v6 < (x1.length : Int))) then
    idx x1 v6 >>= fun x5 =>
    R12_upto x5 [61] >>= fun x6 =>
    idx x1 v6 >>= fun x7 =>
    cutL x7 0 x6 >>= fun x8 =>
    R12_Decode x8 >>= fun x9 =>
    if (x9.2 != 0) then
      some (.inr x9.2)
    else
      idx x1 v6 >>= fun x10 =>
      idx x1 v6 >>= fun x11 =>
      cutL x10 (if (x11.length : Int) < (wr (x6 + 1)) then (x11.length : Int) else (wr (x6 + 1))) (x10.length : Int) >>= fun x12 =>
      R12_Decode x12 >>= fun x13 =>
      if (x13.2 != 0) then
        some (.inr x13.2)
      else
        appL 32 v4 [(api_Pair.mk x9.1 x13.1)] >>= fun x14 =>
        R12_Values_L1 x1 x14 (wr (v6 + 1))
  else
    some (.inl v4)
  partial_fixpoint
noncomputable def R12_Values (p0 : (List UInt8)) : Option ((List api_Pair) × Int) :=
  if (p0 == []) then
    some ([], 0)
  else
    R01_Cut p0 38 >>= fun x1 =>
    (R12_Values_L1 x1 [] 0) >>= fun o2 =>
    match o2 with
    | .inl y3 =>
      some (y3, 0)
    | .inr y4 =>
      some ([], y4)
noncomputable def internal_stringslite_Index (p0 : (List UInt8)) (p1 : (List UInt8)) : Option (Int) :=
  need (p0.length < 4294967281) >>= fun _ =>
  some (Lib.index p0 p1)
set_option maxRecDepth 100000 in
set_option maxHeartbeats 4000000 in
theorem internal_stringslite_Index_ok : ∀ (p0 : (List UInt8)) (p1 : (List UInt8)) (o : Int), internal_stringslite_Index p0 p1 = some o → PCall Tryd.prog 84 [sV p0, sV p1] (t_internal_stringslite_Index o) := by
  intro p0 p1 o h
  unfold internal_stringslite_Index at h
  obtain ⟨h1, h⟩ := need_some h
  cases h
  exact index_ok _ _ h1
noncomputable def internal_stringslite_Cut (p0 : (List UInt8)) (p1 : (List UInt8)) : Option ((List UInt8) × (List UInt8) × Bool) :=
  internal_stringslite_Index p0 p1 >>= fun x1 =>
  if (decide (x1 ≥ 0)) then
    cutL p0 0 x1 >>= fun x2 =>
    cutL p0 (wr (x1 + (p1.length : Int))) (p0.length : Int) >>= fun x3 =>
    some (x2, x3, true)
  else
    some (p0, [], false)
set_option maxRecDepth 100000 in
set_option maxHeartbeats 4000000 in
theorem internal_stringslite_Cut_ok : ∀ (p0 : (List UInt8)) (p1 : (List UInt8)) (o : (List UInt8) × (List UInt8) × Bool), internal_stringslite_Cut p0 p1 = some o → PCall Tryd.prog 65 [sV p0, sV p1] (t_internal_stringslite_Cut o) := by
  intro p0 p1 o h
  unfold internal_stringslite_Cut at h
  refine PCall.ofB mixed tbOk internal_stringslite_Cut_lv Tryd.func65 rfl (by kernel_rfl) (Nat.le_of_ble_eq_true rfl) ?_
  refine st_call [sV p0, sV p1] t_internal_stringslite_Index h (fun x1 hy => (internal_stringslite_Index_ok p0 p1 x1 hy)) (fun x1 hy h => ?_)
  refine st_test h (fun hb h => ?_) (fun hb h => ?_)
  · refine And.intro (by decide +kernel) (And.intro rfl ?_)
    refine st_cuts none (some x1) h (fun x2 hi h => ?_)
    refine vrfl ?_
    refine st_cuts (some (wr (x1 + (p1.length : Int)))) none h (fun x3 hi h => ?_)
    refine st_ret (t := t_internal_stringslite_Cut) h ?_
    exact .refl _
  · refine st_ret (t := t_internal_stringslite_Cut) h ?_
    exact .refl _
noncomputable def internal_stringslite_HasPrefix (p0 : (List UInt8)) (p1 : (List UInt8)) : Option (Bool) :=
  ( if (decide ((p0.length : Int) ≥ (p1.length : Int))) then
      cutL p0 0 (p1.length : Int) >>= fun x2 =>
      some (x2 == p1)
    else
      some false : Option (Bool)) >>= fun o1 =>
  some o1
set_option maxRecDepth 100000 in
set_option maxHeartbeats 4000000 in
theorem internal_stringslite_HasPrefix_ok : ∀ (p0 : (List UInt8)) (p1 : (List UInt8)) (o : Bool), internal_stringslite_HasPrefix p0 p1 = some o → PCall Tryd.prog 90 [sV p0, sV p1] (t_internal_stringslite_HasPrefix o) := by
  intro p0 p1 o h
  unfold internal_stringslite_HasPrefix at h
  refine PCall.ofB mixed tbOk internal_stringslite_HasPrefix_lv Tryd.func90 rfl (by kernel_rfl) (Nat.le_of_ble_eq_true rfl) ?_
  refine st_bind h (fun o1 ho hk => ?_)
  refine Exists.intro (JP1 _ _ o1 .normal (internal_stringslite_HasPrefix_J0_0 )) (And.intro ?_ (join1 ?_))
  · have h := ho
    refine vrfl ?_
    refine vrfl ?_
    refine st_test h (fun hb h => ?_) (fun hb h => ?_)
    · refine vrfl ?_
      refine st_cuts none (some (p1.length : Int)) h (fun x2 hi h => ?_)
      exact JP1.a h (Le.tow 0 0 rfl (.cons rfl (.refl _) (.nil)) (.refl _) rfl)
    · exact JP1.a h (Le.tow 0 0 rfl (.cons rfl (.refl _) (.nil)) (.refl _) rfl)
  · have h := hk
    refine st_ret (t := t_internal_stringslite_HasPrefix) h ?_
    exact .refl _
noncomputable def internal_stringslite_CutPrefix (p0 : (List UInt8)) (p1 : (List UInt8)) : Option ((List UInt8) × Bool) :=
  internal_stringslite_HasPrefix p0 p1 >>= fun x1 =>
  if (!x1) then
    some (p0, false)
  else
    cutL p0 (p1.length : Int) (p0.length : Int) >>= fun x2 =>
    some (x2, true)
set_option maxRecDepth 100000 in
set_option maxHeartbeats 4000000 in
theorem internal_stringslite_CutPrefix_ok : ∀ (p0 : (List UInt8)) (p1 : (List UInt8)) (o : (List UInt8) × Bool), internal_stringslite_CutPrefix p0 p1 = some o → PCall Tryd.prog 92 [sV p0, sV p1] (t_internal_stringslite_CutPrefix o) := by
  intro p0 p1 o h
  unfold internal_stringslite_CutPrefix at h
  refine PCall.ofB mixed tbOk internal_stringslite_CutPrefix_lv Tryd.func92 rfl (by kernel_rfl) (Nat.le_of_ble_eq_true rfl) ?_
  refine st_call [sV p0, sV p1] t_internal_stringslite_HasPrefix h (fun x1 hy => (internal_stringslite_HasPrefix_ok p0 p1 x1 hy)) (fun x1 hy h => ?_)
  refine st_test h (fun hb h => ?_) (fun hb h => ?_)
  · refine st_ret (t := t_internal_stringslite_CutPrefix) h ?_
    exact .refl _
  · refine vrfl ?_
    refine st_cuts (some (p1.length : Int)) none h (fun x2 hi h => ?_)
    refine st_ret (t := t_internal_stringslite_CutPrefix) h ?_
    exact .refl _
noncomputable def internal_stringslite_IndexByte (p0 : (List UInt8)) (p1 : Int) : Option (Int) :=
  some (Lib.indexByte p0 p1.toNat.toUInt8)
set_option maxRecDepth 100000 in
set_option maxHeartbeats 4000000 in
theorem internal_stringslite_IndexByte_ok : ∀ (p0 : (List UInt8)) (p1 : Int) (o : Int), internal_stringslite_IndexByte p0 p1 = some o → PCall Tryd.prog 89 [sV p0, nV .u8 p1] (t_internal_stringslite_IndexByte o) := by
  intro p0 p1 o h
  unfold internal_stringslite_IndexByte at h
  cases h
  exact indexByte_ok _ _
noncomputable def uri_Split_L1_r5 (p0 : (List UInt8)) (h1_0 : (List UInt8)) (h1_1 : (List UInt8)) (h1_2 : (List UInt8)) (h1_3 : (List UInt8)) (h1_4 : (List UInt8)) (h1_5 : (List UInt8)) (h1_6 : (List UInt8)) (h1_7 : (List UInt8)) (h1_8 : Bool) (h1_9 : Bool) (h1_10 : Bool) (h1_11 : Bool) (h1_12 : Bool) : Option (((List UInt8) × (List UInt8) × (List UInt8) × (List UInt8) × (List UInt8) × (List UInt8) × (List UInt8) × (List UInt8) × Bool × Bool × Bool × Bool × Bool) ⊕ ((List UInt8) × (List UInt8) × (List UInt8) × (List UInt8) × (List UInt8) × (List UInt8) × (List UInt8) × (List UInt8) × Bool × Bool × Bool × Bool × Bool)) :=
  some (.inl (h1_0, h1_1, h1_2, h1_3, h1_4, h1_5, h1_6, h1_7, h1_8, h1_9, h1_10, h1_11, h1_12))
set_option maxRecDepth 100000 in
set_option maxHeartbeats 4000000 in
theorem uri_Split_L1_r5_ok : ∀ (p0 : (List UInt8)) (h1_0 : (List UInt8)) (h1_1 : (List UInt8)) (h1_2 : (List UInt8)) (h1_3 : (List UInt8)) (h1_4 : (List UInt8)) (h1_5 : (List UInt8)) (h1_6 : (List UInt8)) (h1_7 : (List UInt8)) (h1_8 : Bool) (h1_9 : Bool) (h1_10 : Bool) (h1_11 : Bool) (h1_12 : Bool) (o1 : ((List UInt8) × (List UInt8) × (List UInt8) × (List UInt8) × (List UInt8) × (List UInt8) × (List UInt8) × (List UInt8) × Bool × Bool × Bool × Bool × Bool) ⊕ ((List UInt8) × (List UInt8) × (List UInt8) × (List UInt8) × (List UInt8) × (List UInt8) × (List UInt8) × (List UInt8) × Bool × Bool × Bool × Bool × Bool)), uri_Split_L1_r5 p0 h1_0 h1_1 h1_2 h1_3 h1_4 h1_5 h1_6 h1_7 h1_8 h1_9 h1_10 h1_11 h1_12 = some o1 → TL (0, 0) Tryd.prog 35 uri_Split_L1_c (JP2 (0, 0) 35 o1 (.exit 0) (uri_Split_L1_x0 p0) .ret (uri_Split_L1_x1 p0)) (uri_Split_L1_r5_st p0 h1_0 h1_1 h1_2 h1_3 h1_4 h1_5 h1_6 h1_7 h1_8 h1_9 h1_10 h1_11 h1_12) := by
  intro p0 h1_0 h1_1 h1_2 h1_3 h1_4 h1_5 h1_6 h1_7 h1_8 h1_9 h1_10 h1_11 h1_12 o1 h
  unfold uri_Split_L1_r5 at h
  refine TL.round (bwp_sound mixed tbOk (lv := uri_Split_lv) _ _ _ ?_)
  refine bF ?_
  exact JP2.a h (Le.tow 2 0 rfl (.cons rfl (.refl _) (.cons rfl (.refl _) (.nil))) (.refl _) rfl)
noncomputable def strings_CutPrefix (p0 : (List UInt8)) (p1 : (List UInt8)) : Option ((List UInt8) × Bool) :=
  internal_stringslite_CutPrefix p0 p1 >>= fun x1 =>
  some (x1.1, x1.2)
set_option maxRecDepth 100000 in
set_option maxHeartbeats 4000000 in
theorem strings_CutPrefix_ok : ∀ (p0 : (List UInt8)) (p1 : (List UInt8)) (o : (List UInt8) × Bool), strings_CutPrefix p0 p1 = some o → PCall Tryd.prog 77 [sV p0, sV p1] (t_strings_CutPrefix o) := by
  intro p0 p1 o h
  unfold strings_CutPrefix at h
  refine PCall.ofB mixed tbOk strings_CutPrefix_lv Tryd.func77 rfl (by kernel_rfl) (Nat.le_of_ble_eq_true rfl) ?_
  refine st_call [sV p0, sV p1] t_internal_stringslite_CutPrefix h (fun x1 hy => (internal_stringslite_CutPrefix_ok p0 p1 x1 hy)) (fun x1 hy h => ?_)
  refine st_ret (t := t_strings_CutPrefix) h ?_
  exact .refl _
noncomputable def uri_digit (p0 : Int) : Option (Bool) :=
  ( if (decide (p0 ≥ 48)) then
      some (decide (p0 ≤ 57))
    else
      some false : Option (Bool)) >>= fun o1 =>
  some o1
set_option maxRecDepth 100000 in
set_option maxHeartbeats 4000000 in
theorem uri_digit_ok : ∀ (p0 : Int) (o : Bool), uri_digit p0 = some o → PCall Tryd.prog 71 [nV .u8 p0] (t_uri_digit o) := by
  intro p0 o h
  unfold uri_digit at h
  refine PCall.ofB mixed tbOk uri_digit_lv Tryd.func71 rfl (by kernel_rfl) (Nat.le_of_ble_eq_true rfl) ?_
  refine st_bind h (fun o1 ho hk => ?_)
  refine Exists.intro (JP1 _ _ o1 .normal (uri_digit_J0_0 )) (And.intro ?_ (join1 ?_))
  · have h := ho
    refine st_test h (fun hb h => ?_) (fun hb h => ?_)
    · exact JP1.a h (Le.tow 0 0 rfl (.cons rfl (.refl _) (.nil)) (.refl _) rfl)
    · exact JP1.a h (Le.tow 0 0 rfl (.cons rfl (.refl _) (.nil)) (.refl _) rfl)
  · have h := hk
    refine st_ret (t := t_uri_digit) h ?_
    exact .refl _
noncomputable def uri_worth (p0 : Int) : Option (Int × Bool) :=
  uri_digit p0 >>= fun x1 =>
  if x1 then
    some ((IntKind.u8.wrap (p0 - 48)), true)
  else
    ( if (decide ((bits .or .u8 p0 32) ≥ 97)) then
        some (decide ((bits .or .u8 p0 32) ≤ 102))
      else
        some false : Option (Bool)) >>= fun o2 =>
    if o2 then
      some ((IntKind.u8.wrap ((IntKind.u8.wrap ((bits .or .u8 p0 32) - 97)) + 10)), true)
    else
      some (0, false)
set_option maxRecDepth 100000 in
set_option maxHeartbeats 4000000 in
theorem uri_worth_ok : ∀ (p0 : Int) (o : Int × Bool), uri_worth p0 = some o → PCall Tryd.prog 67 [nV .u8 p0] (t_uri_worth o) := by
  intro p0 o h
  unfold uri_worth at h
  refine PCall.ofB mixed tbOk uri_worth_lv Tryd.func67 rfl (by kernel_rfl) (Nat.le_of_ble_eq_true rfl) ?_
  refine st_call [nV .u8 p0] t_uri_digit h (fun x1 hy => (uri_digit_ok p0 x1 hy)) (fun x1 hy h => ?_)
  refine st_test h (fun hb h => ?_) (fun hb h => ?_)
  · refine st_ret (t := t_uri_worth) h ?_
    exact .refl _
  · refine st_bind h (fun o2 ho hk => ?_)
    refine Exists.intro (JP1 _ _ o2 .normal (uri_worth_J0_0 p0)) (And.intro ?_ (join1 ?_))
    · have h := ho
      refine st_test h (fun hb h => ?_) (fun hb h => ?_)
      · exact JP1.a h (Le.tow 0 0 rfl (.cons rfl (.refl _) (.cons rfl (.refl _) (.nil))) (.refl _) rfl)
      · exact JP1.a h (Le.tow 0 0 rfl (.cons rfl (.refl _) (.cons rfl (.refl _) (.nil))) (.refl _) rfl)
    · have h := hk
      refine st_test h (fun hb h => ?_) (fun hb h => ?_)
      · refine st_ret (t := t_uri_worth) h ?_
        exact .refl _
      · refine st_ret (t := t_uri_worth) h ?_
        exact .refl _
noncomputable def uri_coded (p0 : (List UInt8)) (p1 : Int) : Option (Int × Bool) :=
  if (decide ((wr ((p0.length : Int) - p1)) < 3)) then
    some (0, false)
  else
    idx p0 (wr (p1 + 1)) >>= fun x1 =>
    uri_worth (x1.toNat : Int) >>= fun x2 =>
    idx p0 (wr (p1 + 2)) >>= fun x3 =>
    uri_worth (x3.toNat : Int) >>= fun x4 =>
    ( if x2.2 then
        some x4.2
      else
        some false : Option (Bool)) >>= fun o5 =>
    some ((bits .or .u8 (IntKind.u8.wrap (x2.1 * 2 ^ (min (4 : Int).toNat (IntKind.u8.bits)))) x4.1), o5)
set_option maxRecDepth 100000 in
set_option maxHeartbeats 4000000 in
theorem uri_coded_ok : ∀ (p0 : (List UInt8)) (p1 : Int) (o : Int × Bool), uri_coded p0 p1 = some o → PCall Tryd.prog 43 [sV p0, iV p1] (t_uri_coded o) := by
  intro p0 p1 o h
  unfold uri_coded at h
  refine PCall.ofB mixed tbOk uri_coded_lv Tryd.func43 rfl (by kernel_rfl) (Nat.le_of_ble_eq_true rfl) ?_
  refine vrfl ?_
  refine st_test h (fun hb h => ?_) (fun hb h => ?_)
  · refine st_ret (t := t_uri_coded) h ?_
    exact .refl _
  · refine st_sidx h (fun x1 hi h => ?_)
    refine st_call [nV .u8 (x1.toNat : Int)] t_uri_worth h (fun x2 hy => (uri_worth_ok (x1.toNat : Int) x2 hy)) (fun x2 hy h => ?_)
    refine st_sidx h (fun x3 hi h => ?_)
    refine st_call [nV .u8 (x3.toNat : Int)] t_uri_worth h (fun x4 hy => (uri_worth_ok (x3.toNat : Int) x4 hy)) (fun x4 hy h => ?_)
    refine st_bind h (fun o5 ho hk => ?_)
    refine Exists.intro (JP1 _ _ o5 .normal (uri_coded_J0_0 x2 x4)) (And.intro ?_ (join1 ?_))
    · have h := ho
      refine And.intro (by decide) ?_
      refine st_test h (fun hb h => ?_) (fun hb h => ?_)
      · exact JP1.a h (Le.tow 0 0 rfl (.cons rfl (.refl _) (.cons rfl (.refl _) (.nil))) (.refl _) rfl)
      · exact JP1.a h (Le.tow 0 0 rfl (.cons rfl (.refl _) (.cons rfl (.refl _) (.nil))) (.refl _) rfl)
    · have h := hk
      refine st_ret (t := t_uri_coded) h ?_
      exact .refl _
noncomputable def strings_IndexByte (p0 : (List UInt8)) (p1 : Int) : Option (Int) :=
  internal_stringslite_IndexByte p0 p1 >>= fun x1 =>
  some x1
set_option maxRecDepth 100000 in
set_option maxHeartbeats 4000000 in
theorem strings_IndexByte_ok : ∀ (p0 : (List UInt8)) (p1 : Int) (o : Int), strings_IndexByte p0 p1 = some o → PCall Tryd.prog 72 [sV p0, nV .u8 p1] (t_strings_IndexByte o) := by
  intro p0 p1 o h
  unfold strings_IndexByte at h
  refine PCall.ofB mixed tbOk strings_IndexByte_lv Tryd.func72 rfl (by kernel_rfl) (Nat.le_of_ble_eq_true rfl) ?_
  refine st_call [sV p0, nV .u8 p1] t_internal_stringslite_IndexByte h (fun x1 hy => (internal_stringslite_IndexByte_ok p0 p1 x1 hy)) (fun x1 hy h => ?_)
  refine st_ret (t := t_strings_IndexByte) h ?_
  exact .refl _
noncomputable def uri_letter (p0 : Int) : Option (Bool) :=
  ( if (decide ((bits .or .u8 p0 32) ≥ 97)) then
      some (decide ((bits .or .u8 p0 32) ≤ 122))
    else
      some false : Option (Bool)) >>= fun o1 =>
  some o1
set_option maxRecDepth 100000 in
set_option maxHeartbeats 4000000 in
theorem uri_letter_ok : ∀ (p0 : Int) (o : Bool), uri_letter p0 = some o → PCall Tryd.prog 70 [nV .u8 p0] (t_uri_letter o) := by
  intro p0 o h
  unfold uri_letter at h
  refine PCall.ofB mixed tbOk uri_letter_lv Tryd.func70 rfl (by kernel_rfl) (Nat.le_of_ble_eq_true rfl) ?_
  refine st_bind h (fun o1 ho hk => ?_)
  refine Exists.intro (JP1 _ _ o1 .normal (uri_letter_J0_0 )) (And.intro ?_ (join1 ?_))
  · have h := ho
    refine st_test h (fun hb h => ?_) (fun hb h => ?_)
    · exact JP1.a h (Le.tow 0 0 rfl (.cons rfl (.refl _) (.nil)) (.refl _) rfl)
    · exact JP1.a h (Le.tow 0 0 rfl (.cons rfl (.refl _) (.nil)) (.refl _) rfl)
  · have h := hk
    refine st_ret (t := t_uri_letter) h ?_
    exact .refl _
noncomputable def uri_with_1 (p0 : Int) (p1_0e : (List UInt8)) : Option (Bool) :=
  ( uri_letter p0 >>= fun x2 =>
    if x2 then
      some true
    else
      uri_digit p0 >>= fun x3 =>
      if x3 then
        some true
      else
        strings_IndexByte [45, 46, 95, 126, 33, 36, 38, 39, 40, 41, 42, 43, 44, 59, 61] p0 >>= fun x4 =>
        if (decide (x4 ≥ 0)) then
          some true
        else
          strings_IndexByte p1_0e p0 >>= fun x5 =>
          some (decide (x5 ≥ 0)) : Option (Bool)) >>= fun o1 =>
  some o1
set_option maxRecDepth 100000 in
set_option maxHeartbeats 4000000 in
theorem uri_with_1_ok : ∀ (p0 : Int) (p1_0e : (List UInt8)) (o : Bool), uri_with_1 p0 p1_0e = some o → CallOK Tryd.prog 91 [.p (nV .u8 p0), .p (.ep [sV p1_0e])] ⟨[], []⟩ (t_uri_with_1 o) ⟨[], []⟩ := by
  intro p0 p1_0e o h
  unfold uri_with_1 at h
  refine CallOK.ofB mixed tbOk uri_with_1_lv Tryd.func91 rfl (by kernel_rfl) (Nat.le_of_ble_eq_true rfl) rfl rfl rfl ?_
  refine st_bind h (fun o1 ho hk => ?_)
  refine Exists.intro (JP1 _ _ o1 .normal (uri_with_1_J0_0 )) (And.intro ?_ (join1 ?_))
  · have h := ho
    refine st_call [nV .u8 p0] t_uri_letter h (fun x2 hy => (uri_letter_ok p0 x2 hy)) (fun x2 hy h => ?_)
    refine st_test h (fun hb h => ?_) (fun hb h => ?_)
    · refine bT ?_
      refine bT ?_
      exact JP1.a h (Le.tow 0 0 rfl (.cons rfl (.refl _) (.nil)) (.refl _) rfl)
    · refine st_call [nV .u8 p0] t_uri_digit h (fun x3 hy => (uri_digit_ok p0 x3 hy)) (fun x3 hy h => ?_)
      refine st_test h (fun hb h => ?_) (fun hb h => ?_)
      · refine bT ?_
        exact JP1.a h (Le.tow 0 0 rfl (.cons rfl (.refl _) (.nil)) (.refl _) rfl)
      · refine st_call [sV [45, 46, 95, 126, 33, 36, 38, 39, 40, 41, 42, 43, 44, 59, 61], nV .u8 p0] t_strings_IndexByte h (fun x4 hy => (strings_IndexByte_ok [45, 46, 95, 126, 33, 36, 38, 39, 40, 41, 42, 43, 44, 59, 61] p0 x4 hy)) (fun x4 hy h => ?_)
        refine st_test h (fun hb h => ?_) (fun hb h => ?_)
        · exact JP1.a h (Le.tow 0 0 rfl (.cons rfl (.refl _) (.nil)) (.refl _) rfl)
        · refine st_call [sV p1_0e, nV .u8 p0] t_strings_IndexByte h (fun x5 hy => (strings_IndexByte_ok p1_0e p0 x5 hy)) (fun x5 hy h => ?_)
          exact JP1.a h (Le.tow 0 0 rfl (.cons rfl (.refl _) (.nil)) (.refl _) rfl)
  · have h := hk
    refine Exists.intro _ (And.intro (Le.refl _ _ _) ?_)
    exact st_retc (t := t_uri_with_1) (ss := fun o => ⟨[], []⟩) h ⟨[], rfl, .refl _, .refl _, rfl⟩
noncomputable def uri_fits_uri_with_1_L1 (p0 : (List UInt8)) (p1_0c_0e : (List UInt8)) (v5 : Int) : Option (Unit ⊕ Unit) :=
  if (decide (v5 < (p0.length : Int))) then
    idx p0 v5 >>= fun x4 =>
    if ((x4.toNat : Int) == 37) then
      uri_coded p0 v5 >>= fun x5 =>
      if (!x5.2) then
        some (.inr ())
      else
        uri_fits_uri_with_1_L1 p0 p1_0c_0e (wr ((wr (v5 + 2)) + 1))
    else
      idx p0 v5 >>= fun x6 =>
      uri_with_1 (x6.toNat : Int) p1_0c_0e >>= fun x7 =>
      if (!x7) then
        some (.inr ())
      else
        uri_fits_uri_with_1_L1 p0 p1_0c_0e (wr (v5 + 1))
  else
    some (.inl ())
  partial_fixpoint
set_option maxRecDepth 100000 in
set_option maxHeartbeats 4000000 in
theorem uri_fits_uri_with_1_L1_grp : ∀ (p0 : (List UInt8)) (p1_0c_0e : (List UInt8)), (∀ (v5 : Int) (o1 : Unit ⊕ Unit), uri_fits_uri_with_1_L1 p0 p1_0c_0e v5 = some o1 → TL (0, 0) Tryd.prog 34 uri_fits_uri_with_1_L1_c (JP2 (0, 0) 34 o1 (.exit 0) (uri_fits_uri_with_1_L1_x0 p0 p1_0c_0e) .ret (uri_fits_uri_with_1_L1_x1 p0 p1_0c_0e)) (uri_fits_uri_with_1_L1_st p0 p1_0c_0e v5)) := by
  intro p0 p1_0c_0e
  refine uri_fits_uri_with_1_L1.partial_correctness p0 p1_0c_0e _ ?_
  intro uri_fits_uri_with_1_L1' ih_uri_fits_uri_with_1_L1 v5 o1 h
  refine TL.round (bwp_sound mixed tbOk (lv := uri_fits_uri_with_1_lv) _ _ _ ?_)
  refine vrfl ?_
  refine st_test h (fun hb h => ?_) (fun hb h => ?_)
  · refine st_sidx h (fun x4 hi h => ?_)
    refine st_test h (fun hb h => ?_) (fun hb h => ?_)
    · refine st_call [sV p0, iV v5] t_uri_coded h (fun x5 hy => (uri_coded_ok p0 v5 x5 hy)) (fun x5 hy h => ?_)
      refine st_test h (fun hb h => ?_) (fun hb h => ?_)
      · exact JP2.b h (Le.tow 0 0 rfl (.cons rfl (.refl _) (.nil)) (.refl _) rfl)
      · refine TL.le (τ := uri_fits_uri_with_1_L1_st p0 p1_0c_0e (wr ((wr (v5 + 2)) + 1))) ?_ ((ih_uri_fits_uri_with_1_L1 (wr ((wr (v5 + 2)) + 1)) _ h))
        exact Le.tow 0 0 rfl (.cons rfl (.refl _) (.cons rfl (.refl _) (.cons rfl (.refl _) (.nil)))) (.refl _) rfl
    · refine st_sidx h (fun x6 hi h => ?_)
      refine st_callc _ _ h (fun x7 hy => ((uri_with_1_ok (x6.toNat : Int) p1_0c_0e x7 hy).fr [] [] rfl rfl rfl)) (fun x7 hy h => ?_)
      refine st_test h (fun hb h => ?_) (fun hb h => ?_)
      · exact JP2.b h (Le.tow 0 0 rfl (.cons rfl (.refl _) (.nil)) (.refl _) rfl)
      · refine TL.le (τ := uri_fits_uri_with_1_L1_st p0 p1_0c_0e (wr (v5 + 1))) ?_ ((ih_uri_fits_uri_with_1_L1 (wr (v5 + 1)) _ h))
        exact Le.tow 0 0 rfl (.cons rfl (.refl _) (.cons rfl (.refl _) (.cons rfl (.refl _) (.nil)))) (.refl _) rfl
  · exact JP2.a h (Le.tow 0 0 rfl (.nil) (.refl _) rfl)
theorem uri_fits_uri_with_1_L1_ok : ∀ (p0 : (List UInt8)) (p1_0c_0e : (List UInt8)) (v5 : Int) (o1 : Unit ⊕ Unit), uri_fits_uri_with_1_L1 p0 p1_0c_0e v5 = some o1 → TL (0, 0) Tryd.prog 34 uri_fits_uri_with_1_L1_c (JP2 (0, 0) 34 o1 (.exit 0) (uri_fits_uri_with_1_L1_x0 p0 p1_0c_0e) .ret (uri_fits_uri_with_1_L1_x1 p0 p1_0c_0e)) (uri_fits_uri_with_1_L1_st p0 p1_0c_0e v5) := fun p0 p1_0c_0e v5 o1 h => (uri_fits_uri_with_1_L1_grp p0 p1_0c_0e) v5 o1 h
noncomputable def uri_fits_uri_with_1 (p0 : (List UInt8)) (p1_0c_0e : (List UInt8)) : Option (Bool) :=
  (uri_fits_uri_with_1_L1 p0 p1_0c_0e 0) >>= fun o1 =>
  match o1 with
  | .inl y2 =>
    some true
  | .inr y3 =>
    some false
set_option maxRecDepth 100000 in
set_option maxHeartbeats 4000000 in
theorem uri_fits_uri_with_1_ok : ∀ (p0 : (List UInt8)) (p1_0c_0e : (List UInt8)) (o : Bool), uri_fits_uri_with_1 p0 p1_0c_0e = some o → CallOK Tryd.prog 75 [.p (sV p0), .fn (.func 91) [] [.p (.ep [sV p1_0c_0e])]] ⟨[], []⟩ (t_uri_fits_uri_with_1 o) ⟨[], []⟩ := by
  intro p0 p1_0c_0e o h
  unfold uri_fits_uri_with_1 at h
  refine CallOK.ofB mixed tbOk uri_fits_uri_with_1_lv Tryd.func75 rfl (by kernel_rfl) (Nat.le_of_ble_eq_true rfl) rfl rfl rfl ?_
  refine st_bind h (fun o1 ho hk => ?_)
  refine Exists.intro (JP2 _ _ o1 (.exit 0) (uri_fits_uri_with_1_L1_x0 p0 p1_0c_0e) .ret (uri_fits_uri_with_1_L1_x1 p0 p1_0c_0e)) (And.intro (T_le (τ := uri_fits_uri_with_1_L1_st p0 p1_0c_0e 0) ?_ (TL.loop (uri_fits_uri_with_1_L1_ok p0 p1_0c_0e 0 o1 ho))) (join2 (fun y2 hy => ?_) (fun y3 hy => ?_)))
  · exact Le.tow 0 0 rfl (.cons rfl (.refl _) (.cons rfl (.refl _) (.cons rfl (.refl _) (.nil)))) (.refl _) rfl
  · have h := (by rw [hy] at hk; exact hk)
    refine Exists.intro _ (And.intro (Le.refl _ _ _) ?_)
    exact st_retc (t := t_uri_fits_uri_with_1) (ss := fun o => ⟨[], []⟩) h ⟨[], rfl, .refl _, .refl _, rfl⟩
  · have h := (by rw [hy] at hk; exact hk)
    refine Exists.intro _ (And.intro (Le.refl _ _ _) ?_)
    exact st_retc (t := t_uri_fits_uri_with_1) (ss := fun o => ⟨[], []⟩) h ⟨[], rfl, .refl _, .refl _, rfl⟩
noncomputable def uri_with (p0 : (List UInt8)) : Option ((List UInt8)) :=
  some p0
set_option maxRecDepth 100000 in
set_option maxHeartbeats 4000000 in
theorem uri_with_ok : ∀ (p0 : (List UInt8)) (o : (List UInt8)), uri_with p0 = some o → PCall Tryd.prog 76 [sV p0] (t_uri_with o) := by
  intro p0 o h
  unfold uri_with at h
  refine PCall.ofM mixed tbOk uri_with_lv Tryd.func76 rfl (by kernel_rfl) (Nat.le_of_ble_eq_true rfl) ?_
  refine st_ret (t := t_uri_with) h ?_
  exact .refl _
noncomputable def uri_reader_frag (h0_0 : (List UInt8)) (h0_1 : (List UInt8)) (h0_2 : (List UInt8)) (h0_3 : (List UInt8)) (h0_4 : (List UInt8)) (h0_5 : (List UInt8)) (h0_6 : (List UInt8)) (h0_7 : (List UInt8)) (h0_8 : Bool) (h0_9 : Bool) (h0_10 : Bool) (h0_11 : Bool) (h0_12 : Bool) : Option (Bool × (List UInt8) × Bool) :=
  strings_CutPrefix h0_0 [35] >>= fun x1 =>
  uri_with [58, 64, 47, 63] >>= fun x2 =>
  uri_fits_uri_with_1 x1.1 x2 >>= fun x3 =>
  some (x3, x1.1, x1.2)
set_option maxRecDepth 100000 in
set_option maxHeartbeats 4000000 in
theorem uri_reader_frag_ok : ∀ (h0_0 : (List UInt8)) (h0_1 : (List UInt8)) (h0_2 : (List UInt8)) (h0_3 : (List UInt8)) (h0_4 : (List UInt8)) (h0_5 : (List UInt8)) (h0_6 : (List UInt8)) (h0_7 : (List UInt8)) (h0_8 : Bool) (h0_9 : Bool) (h0_10 : Bool) (h0_11 : Bool) (h0_12 : Bool) (o : Bool × (List UInt8) × Bool), uri_reader_frag h0_0 h0_1 h0_2 h0_3 h0_4 h0_5 h0_6 h0_7 h0_8 h0_9 h0_10 h0_11 h0_12 = some o → CallOK Tryd.prog 51 [.ptr 0 0] ⟨[[.p (sV h0_0), .p (sV h0_1), .p (sV h0_2), .p (sV h0_3), .p (sV h0_4), .p (sV h0_5), .p (sV h0_6), .p (sV h0_7), .p (bV h0_8), .p (bV h0_9), .p (bV h0_10), .p (bV h0_11), .p (bV h0_12)]], []⟩ (t_uri_reader_frag o) ⟨[[.p (sV h0_0), .p (sV h0_1), .p (sV h0_2), .p (sV h0_3), .p (sV h0_4), .p (sV h0_5), .p (sV h0_6), .p (sV o.2.1), .p (bV h0_8), .p (bV h0_9), .p (bV h0_10), .p (bV h0_11), .p (bV o.2.2)]], []⟩ := by
  intro h0_0 h0_1 h0_2 h0_3 h0_4 h0_5 h0_6 h0_7 h0_8 h0_9 h0_10 h0_11 h0_12 o h
  unfold uri_reader_frag at h
  refine CallOK.ofB mixed tbOk uri_reader_frag_lv Tryd.func51 rfl (by kernel_rfl) (Nat.le_of_ble_eq_true rfl) rfl rfl rfl ?_
  refine st_call [sV h0_0, sV [35]] t_strings_CutPrefix h (fun x1 hy => (strings_CutPrefix_ok h0_0 [35] x1 hy)) (fun x1 hy h => ?_)
  refine And.intro (by decide +kernel) (And.intro rfl ?_)
  refine st_calld [sV [58, 64, 47, 63]] t_uri_with h (fun x2 hy => (uri_with_ok [58, 64, 47, 63] x2 hy)) (fun x2 hy h => ?_)
  refine st_callq (fun x3 => (t_uri_fits_uri_with_1 x3).ren [] []) h (fun x3 hy => (uri_fits_uri_with_1_ok x1.1 x2 x3 hy).fd rfl rfl [] rfl rfl) (fun x3 hy h => ?_)
  refine Exists.intro _ (And.intro (Le.refl _ _ _) ?_)
  exact st_retc (t := t_uri_reader_frag) (ss := fun o => ⟨[[.p (sV h0_0), .p (sV h0_1), .p (sV h0_2), .p (sV h0_3), .p (sV h0_4), .p (sV h0_5), .p (sV h0_6), .p (sV o.2.1), .p (bV h0_8), .p (bV h0_9), .p (bV h0_10), .p (bV h0_11), .p (bV o.2.2)]], []⟩) h ⟨[], rfl, .refl _, .refl _, rfl⟩
noncomputable def uri_Split_L1_r4 (p0 : (List UInt8)) (h1_0 : (List UInt8)) (h1_1 : (List UInt8)) (h1_2 : (List UInt8)) (h1_3 : (List UInt8)) (h1_4 : (List UInt8)) (h1_5 : (List UInt8)) (h1_6 : (List UInt8)) (h1_8 : Bool) (h1_9 : Bool) (h1_10 : Bool) (h1_11 : Bool) : Option (((List UInt8) × (List UInt8) × (List UInt8) × (List UInt8) × (List UInt8) × (List UInt8) × (List UInt8) × (List UInt8) × Bool × Bool × Bool × Bool × Bool) ⊕ ((List UInt8) × (List UInt8) × (List UInt8) × (List UInt8) × (List UInt8) × (List UInt8) × (List UInt8) × (List UInt8) × Bool × Bool × Bool × Bool × Bool)) :=
  uri_reader_frag h1_0 h1_1 h1_2 h1_3 h1_4 h1_5 h1_6 [] h1_8 h1_9 h1_10 h1_11 false >>= fun x4 =>
  if (!x4.1) then
    some (.inr (h1_0, h1_1, h1_2, h1_3, h1_4, h1_5, h1_6, x4.2.1, h1_8, h1_9, h1_10, h1_11, x4.2.2))
  else
    uri_Split_L1_r5 p0 h1_0 h1_1 h1_2 h1_3 h1_4 h1_5 h1_6 x4.2.1 h1_8 h1_9 h1_10 h1_11 x4.2.2
set_option maxRecDepth 100000 in
set_option maxHeartbeats 4000000 in
theorem uri_Split_L1_r4_ok : ∀ (p0 : (List UInt8)) (h1_0 : (List UInt8)) (h1_1 : (List UInt8)) (h1_2 : (List UInt8)) (h1_3 : (List UInt8)) (h1_4 : (List UInt8)) (h1_5 : (List UInt8)) (h1_6 : (List UInt8)) (h1_8 : Bool) (h1_9 : Bool) (h1_10 : Bool) (h1_11 : Bool) (o1 : ((List UInt8) × (List UInt8) × (List UInt8) × (List UInt8) × (List UInt8) × (List UInt8) × (List UInt8) × (List UInt8) × Bool × Bool × Bool × Bool × Bool) ⊕ ((List UInt8) × (List UInt8) × (List UInt8) × (List UInt8) × (List UInt8) × (List UInt8) × (List UInt8) × (List UInt8) × Bool × Bool × Bool × Bool × Bool)), uri_Split_L1_r4 p0 h1_0 h1_1 h1_2 h1_3 h1_4 h1_5 h1_6 h1_8 h1_9 h1_10 h1_11 = some o1 → TL (0, 0) Tryd.prog 35 uri_Split_L1_c (JP2 (0, 0) 35 o1 (.exit 0) (uri_Split_L1_x0 p0) .ret (uri_Split_L1_x1 p0)) (uri_Split_L1_r4_st p0 h1_0 h1_1 h1_2 h1_3 h1_4 h1_5 h1_6 h1_8 h1_9 h1_10 h1_11) := by
  intro p0 h1_0 h1_1 h1_2 h1_3 h1_4 h1_5 h1_6 h1_8 h1_9 h1_10 h1_11 o1 h
  unfold uri_Split_L1_r4 at h
  refine TL.round (bwp_sound mixed tbOk (lv := uri_Split_lv) _ _ _ ?_)
  refine bT ?_
  refine Exists.intro _ (And.intro (by decide) (And.intro rfl (And.intro rfl ?_)))
  refine And.intro rfl ?_
  refine st_callc _ _ h (fun x4 hy => ((uri_reader_frag_ok h1_0 h1_1 h1_2 h1_3 h1_4 h1_5 h1_6 [] h1_8 h1_9 h1_10 h1_11 false x4 hy).fr [1] [] rfl rfl rfl)) (fun x4 hy h => ?_)
  refine st_test h (fun hb h => ?_) (fun hb h => ?_)
  · exact JP2.b h (Le.tow 2 0 rfl (.cons rfl (.refl _) (.cons rfl (.refl _) (.nil))) (.refl _) rfl)
  · refine TL.le (τ := uri_Split_L1_r5_st p0 h1_0 h1_1 h1_2 h1_3 h1_4 h1_5 h1_6 x4.2.1 h1_8 h1_9 h1_10 h1_11 x4.2.2) ?_ ((uri_Split_L1_r5_ok p0 h1_0 h1_1 h1_2 h1_3 h1_4 h1_5 h1_6 x4.2.1 h1_8 h1_9 h1_10 h1_11 x4.2.2 _ h))
    exact Le.tow 2 0 rfl (.cons rfl (.refl _) (.cons rfl (.refl _) (.cons rfl (.refl _) (.cons rfl (.refl _) (.cons rfl (.refl _) (.nil)))))) (.refl _) rfl
noncomputable def strings_HasPrefix (p0 : (List UInt8)) (p1 : (List UInt8)) : Option (Bool) :=
  internal_stringslite_HasPrefix p0 p1 >>= fun x1 =>
  some x1
set_option maxRecDepth 100000 in
set_option maxHeartbeats 4000000 in
theorem strings_HasPrefix_ok : ∀ (p0 : (List UInt8)) (p1 : (List UInt8)) (o : Bool), strings_HasPrefix p0 p1 = some o → PCall Tryd.prog 73 [sV p0, sV p1] (t_strings_HasPrefix o) := by
  intro p0 p1 o h
  unfold strings_HasPrefix at h
  refine PCall.ofB mixed tbOk strings_HasPrefix_lv Tryd.func73 rfl (by kernel_rfl) (Nat.le_of_ble_eq_true rfl) ?_
  refine st_call [sV p0, sV p1] t_internal_stringslite_HasPrefix h (fun x1 hy => (internal_stringslite_HasPrefix_ok p0 p1 x1 hy)) (fun x1 hy h => ?_)
  refine st_ret (t := t_strings_HasPrefix) h ?_
  exact .refl _
noncomputable def strings_IndexAny (p0 : (List UInt8)) (p1 : (List UInt8)) : Option (Int) :=
  need (p0.length < 4294967281) >>= fun _ =>
  need (p1.length < 4294967281) >>= fun _ =>
  need (p0.all (fun b => decide (b.toNat < 128)) = true) >>= fun _ =>
  need (p1.all (fun b => decide (b.toNat < 128)) = true) >>= fun _ =>
  some (Lib.indexAny p0 p1)
set_option maxRecDepth 100000 in
set_option maxHeartbeats 4000000 in
theorem strings_IndexAny_ok : ∀ (p0 : (List UInt8)) (p1 : (List UInt8)) (o : Int), strings_IndexAny p0 p1 = some o → PCall Tryd.prog 69 [sV p0, sV p1] (t_strings_IndexAny o) := by
  intro p0 p1 o h
  unfold strings_IndexAny at h
  obtain ⟨h1, h⟩ := need_some h
  obtain ⟨h2, h⟩ := need_some h
  obtain ⟨h3, h⟩ := need_some h
  obtain ⟨h4, h⟩ := need_some h
  cases h
  exact indexAny_ok _ _ h1 h2 h3 h4
noncomputable def uri_reader_upto (p1 : (List UInt8)) (h0_0 : (List UInt8)) (h0_1 : (List UInt8)) (h0_2 : (List UInt8)) (h0_3 : (List UInt8)) (h0_4 : (List UInt8)) (h0_5 : (List UInt8)) (h0_6 : (List UInt8)) (h0_7 : (List UInt8)) (h0_8 : Bool) (h0_9 : Bool) (h0_10 : Bool) (h0_11 : Bool) (h0_12 : Bool) : Option ((List UInt8) × (List UInt8)) :=
  strings_IndexAny h0_0 p1 >>= fun x1 =>
  ( if (decide (x1 < 0)) then
      some (h0_0.length : Int)
    else
      some x1 : Option (Int)) >>= fun o2 =>
  cutL h0_0 0 o2 >>= fun x3 =>
  cutL h0_0 o2 (h0_0.length : Int) >>= fun x4 =>
  some (x3, x4)
set_option maxRecDepth 100000 in
set_option maxHeartbeats 4000000 in
theorem uri_reader_upto_ok : ∀ (p1 : (List UInt8)) (h0_0 : (List UInt8)) (h0_1 : (List UInt8)) (h0_2 : (List UInt8)) (h0_3 : (List UInt8)) (h0_4 : (List UInt8)) (h0_5 : (List UInt8)) (h0_6 : (List UInt8)) (h0_7 : (List UInt8)) (h0_8 : Bool) (h0_9 : Bool) (h0_10 : Bool) (h0_11 : Bool) (h0_12 : Bool) (o : (List UInt8) × (List UInt8)), uri_reader_upto p1 h0_0 h0_1 h0_2 h0_3 h0_4 h0_5 h0_6 h0_7 h0_8 h0_9 h0_10 h0_11 h0_12 = some o → CallOK Tryd.prog 74 [.ptr 0 0, .p (sV p1)] ⟨[[.p (sV h0_0), .p (sV h0_1), .p (sV h0_2), .p (sV h0_3), .p (sV h0_4), .p (sV h0_5), .p (sV h0_6), .p (sV h0_7), .p (bV h0_8), .p (bV h0_9), .p (bV h0_10), .p (bV h0_11), .p (bV h0_12)]], []⟩ (t_uri_reader_upto o) ⟨[[.p (sV o.2), .p (sV h0_1), .p (sV h0_2), .p (sV h0_3), .p (sV h0_4), .p (sV h0_5), .p (sV h0_6), .p (sV h0_7), .p (bV h0_8), .p (bV h0_9), .p (bV h0_10), .p (bV h0_11), .p (bV h0_12)]], []⟩ := by
  intro p1 h0_0 h0_1 h0_2 h0_3 h0_4 h0_5 h0_6 h0_7 h0_8 h0_9 h0_10 h0_11 h0_12 o h
  unfold uri_reader_upto at h
  refine CallOK.ofB mixed tbOk uri_reader_upto_lv Tryd.func74 rfl (by kernel_rfl) (Nat.le_of_ble_eq_true rfl) rfl rfl rfl ?_
  refine st_call [sV h0_0, sV p1] t_strings_IndexAny h (fun x1 hy => (strings_IndexAny_ok h0_0 p1 x1 hy)) (fun x1 hy h => ?_)
  refine st_bind h (fun o2 ho hk => ?_)
  refine Exists.intro (JP1 _ _ o2 .normal (uri_reader_upto_J0_0 h0_0 h0_1 h0_2 h0_3 h0_4 h0_5 h0_6 h0_7 h0_8 h0_9 h0_10 h0_11 h0_12)) (And.intro ?_ (join1 ?_))
  · have h := ho
    refine st_test h (fun hb h => ?_) (fun hb h => ?_)
    · refine vrfl ?_
      exact JP1.a h (Le.tow 1 0 rfl (.cons rfl (.refl _) (.cons rfl (.refl _) (.nil))) (.refl _) rfl)
    · exact JP1.a h (Le.tow 1 0 rfl (.cons rfl (.refl _) (.cons rfl (.refl _) (.nil))) (.refl _) rfl)
  · have h := hk
    refine st_cuts none (some o2) h (fun x3 hi h => ?_)
    refine st_cuts (some o2) none h (fun x4 hi h => ?_)
    refine Exists.intro _ (And.intro (Le.refl _ _ _) ?_)
    exact st_retc (t := t_uri_reader_upto) (ss := fun o => ⟨[[.p (sV o.2), .p (sV h0_1), .p (sV h0_2), .p (sV h0_3), .p (sV h0_4), .p (sV h0_5), .p (sV h0_6), .p (sV h0_7), .p (bV h0_8), .p (bV h0_9), .p (bV h0_10), .p (bV h0_11), .p (bV h0_12)]], []⟩) h ⟨[], rfl, .refl _, .refl _, rfl⟩
noncomputable def uri_reader_query (h0_0 : (List UInt8)) (h0_1 : (List UInt8)) (h0_2 : (List UInt8)) (h0_3 : (List UInt8)) (h0_4 : (List UInt8)) (h0_5 : (List UInt8)) (h0_6 : (List UInt8)) (h0_7 : (List UInt8)) (h0_8 : Bool) (h0_9 : Bool) (h0_10 : Bool) (h0_11 : Bool) (h0_12 : Bool) : Option (Bool × (List UInt8) × (List UInt8) × Bool) :=
  ( strings_HasPrefix h0_0 [63] >>= fun x2 =>
    if x2 then
      cutL h0_0 1 (h0_0.length : Int) >>= fun x3 =>
      uri_reader_upto [35] x3 h0_1 h0_2 h0_3 h0_4 h0_5 h0_6 h0_7 h0_8 h0_9 h0_10 h0_11 h0_12 >>= fun x4 =>
      some (x4.2, x4.1, true)
    else
      some (h0_0, h0_6, h0_11) : Option (((List UInt8) × (List UInt8) × Bool))) >>= fun o1 =>
  uri_with [58, 64, 47, 63] >>= fun x5 =>
  uri_fits_uri_with_1 o1.2.1 x5 >>= fun x6 =>
  some (x6, o1.1, o1.2.1, o1.2.2)
set_option maxRecDepth 100000 in
set_option maxHeartbeats 4000000 in
theorem uri_reader_query_ok : ∀ (h0_0 : (List UInt8)) (h0_1 : (List UInt8)) (h0_2 : (List UInt8)) (h0_3 : (List UInt8)) (h0_4 : (List UInt8)) (h0_5 : (List UInt8)) (h0_6 : (List UInt8)) (h0_7 : (List UInt8)) (h0_8 : Bool) (h0_9 : Bool) (h0_10 : Bool) (h0_11 : Bool) (h0_12 : Bool) (o : Bool × (List UInt8) × (List UInt8) × Bool), uri_reader_query h0_0 h0_1 h0_2 h0_3 h0_4 h0_5 h0_6 h0_7 h0_8 h0_9 h0_10 h0_11 h0_12 = some o → CallOK Tryd.prog 50 [.ptr 0 0] ⟨[[.p (sV h0_0), .p (sV h0_1), .p (sV h0_2), .p (sV h0_3), .p (sV h0_4), .p (sV h0_5), .p (sV h0_6), .p (sV h0_7), .p (bV h0_8), .p (bV h0_9), .p (bV h0_10), .p (bV h0_11), .p (bV h0_12)]], []⟩ (t_uri_reader_query o) ⟨[[.p (sV o.2.1), .p (sV h0_1), .p (sV h0_2), .p (sV h0_3), .p (sV h0_4), .p (sV h0_5), .p (sV o.2.2.1), .p (sV h0_7), .p (bV h0_8), .p (bV h0_9), .p (bV h0_10), .p (bV o.2.2.2), .p (bV h0_12)]], []⟩ := by
  intro h0_0 h0_1 h0_2 h0_3 h0_4 h0_5 h0_6 h0_7 h0_8 h0_9 h0_10 h0_11 h0_12 o h
  unfold uri_reader_query at h
  refine CallOK.ofB mixed tbOk uri_reader_query_lv Tryd.func50 rfl (by kernel_rfl) (Nat.le_of_ble_eq_true rfl) rfl rfl rfl ?_
  refine st_bind h (fun o1 ho hk => ?_)
  refine Exists.intro (JP1 _ _ o1 .normal (uri_reader_query_J0_0 h0_1 h0_2 h0_3 h0_4 h0_5 h0_7 h0_8 h0_9 h0_10 h0_12)) (And.intro ?_ (join1 ?_))
  · have h := ho
    refine st_call [sV h0_0, sV [63]] t_strings_HasPrefix h (fun x2 hy => (strings_HasPrefix_ok h0_0 [63] x2 hy)) (fun x2 hy h => ?_)
    refine st_test h (fun hb h => ?_) (fun hb h => ?_)
    · refine st_cuts (some 1) none h (fun x3 hi h => ?_)
      refine st_callc _ _ h (fun x4 hy => ((uri_reader_upto_ok [35] x3 h0_1 h0_2 h0_3 h0_4 h0_5 h0_6 h0_7 h0_8 h0_9 h0_10 h0_11 h0_12 x4 hy).fr [0] [] rfl rfl rfl)) (fun x4 hy h => ?_)
      exact JP1.a h (Le.tow 1 0 rfl (.cons rfl (.refl _) (.nil)) (.refl _) rfl)
    · exact JP1.a h (Le.tow 1 0 rfl (.cons rfl (.refl _) (.nil)) (.refl _) rfl)
  · have h := hk
    refine And.intro (by decide +kernel) (And.intro rfl ?_)
    refine st_calld [sV [58, 64, 47, 63]] t_uri_with h (fun x5 hy => (uri_with_ok [58, 64, 47, 63] x5 hy)) (fun x5 hy h => ?_)
    refine st_callq (fun x6 => (t_uri_fits_uri_with_1 x6).ren [] []) h (fun x6 hy => (uri_fits_uri_with_1_ok o1.2.1 x5 x6 hy).fd rfl rfl [] rfl rfl) (fun x6 hy h => ?_)
    refine Exists.intro _ (And.intro (Le.refl _ _ _) ?_)
    exact st_retc (t := t_uri_reader_query) (ss := fun o => ⟨[[.p (sV o.2.1), .p (sV h0_1), .p (sV h0_2), .p (sV h0_3), .p (sV h0_4), .p (sV h0_5), .p (sV o.2.2.1), .p (sV h0_7), .p (bV h0_8), .p (bV h0_9), .p (bV h0_10), .p (bV o.2.2.2), .p (bV h0_12)]], []⟩) h ⟨[], rfl, .refl _, .refl _, rfl⟩
noncomputable def uri_Split_L1_r3 (p0 : (List UInt8)) (h1_0 : (List UInt8)) (h1_1 : (List UInt8)) (h1_2 : (List UInt8)) (h1_3 : (List UInt8)) (h1_4 : (List UInt8)) (h1_5 : (List UInt8)) (h1_8 : Bool) (h1_9 : Bool) (h1_10 : Bool) : Option (((List UInt8) × (List UInt8) × (List UInt8) × (List UInt8) × (List UInt8) × (List UInt8) × (List UInt8) × (List UInt8) × Bool × Bool × Bool × Bool × Bool) ⊕ ((List UInt8) × (List UInt8) × (List UInt8) × (List UInt8) × (List UInt8) × (List UInt8) × (List UInt8) × (List UInt8) × Bool × Bool × Bool × Bool × Bool)) :=
  uri_reader_query h1_0 h1_1 h1_2 h1_3 h1_4 h1_5 [] [] h1_8 h1_9 h1_10 false false >>= fun x5 =>
  if (!x5.1) then
    some (.inr (x5.2.1, h1_1, h1_2, h1_3, h1_4, h1_5, x5.2.2.1, [], h1_8, h1_9, h1_10, x5.2.2.2, false))
  else
    uri_Split_L1_r4 p0 x5.2.1 h1_1 h1_2 h1_3 h1_4 h1_5 x5.2.2.1 h1_8 h1_9 h1_10 x5.2.2.2
set_option maxRecDepth 100000 in
set_option maxHeartbeats 4000000 in
theorem uri_Split_L1_r3_ok : ∀ (p0 : (List UInt8)) (h1_0 : (List UInt8)) (h1_1 : (List UInt8)) (h1_2 : (List UInt8)) (h1_3 : (List UInt8)) (h1_4 : (List UInt8)) (h1_5 : (List UInt8)) (h1_8 : Bool) (h1_9 : Bool) (h1_10 : Bool) (o1 : ((List UInt8) × (List UInt8) × (List UInt8) × (List UInt8) × (List UInt8) × (List UInt8) × (List UInt8) × (List UInt8) × Bool × Bool × Bool × Bool × Bool) ⊕ ((List UInt8) × (List UInt8) × (List UInt8) × (List UInt8) × (List UInt8) × (List UInt8) × (List UInt8) × (List UInt8) × Bool × Bool × Bool × Bool × Bool)), uri_Split_L1_r3 p0 h1_0 h1_1 h1_2 h1_3 h1_4 h1_5 h1_8 h1_9 h1_10 = some o1 → TL (0, 0) Tryd.prog 35 uri_Split_L1_c (JP2 (0, 0) 35 o1 (.exit 0) (uri_Split_L1_x0 p0) .ret (uri_Split_L1_x1 p0)) (uri_Split_L1_r3_st p0 h1_0 h1_1 h1_2 h1_3 h1_4 h1_5 h1_8 h1_9 h1_10) := by
  intro p0 h1_0 h1_1 h1_2 h1_3 h1_4 h1_5 h1_8 h1_9 h1_10 o1 h
  unfold uri_Split_L1_r3 at h
  refine TL.round (bwp_sound mixed tbOk (lv := uri_Split_lv) _ _ _ ?_)
  refine bT ?_
  refine Exists.intro _ (And.intro (by decide) (And.intro rfl (And.intro rfl ?_)))
  refine And.intro rfl ?_
  refine st_callc _ _ h (fun x5 hy => ((uri_reader_query_ok h1_0 h1_1 h1_2 h1_3 h1_4 h1_5 [] [] h1_8 h1_9 h1_10 false false x5 hy).fr [1] [] rfl rfl rfl)) (fun x5 hy h => ?_)
  refine st_test h (fun hb h => ?_) (fun hb h => ?_)
  · exact JP2.b h (Le.tow 2 0 rfl (.cons rfl (.refl _) (.cons rfl (.refl _) (.nil))) (.refl _) rfl)
  · refine TL.le (τ := uri_Split_L1_r4_st p0 x5.2.1 h1_1 h1_2 h1_3 h1_4 h1_5 x5.2.2.1 h1_8 h1_9 h1_10 x5.2.2.2) ?_ ((uri_Split_L1_r4_ok p0 x5.2.1 h1_1 h1_2 h1_3 h1_4 h1_5 x5.2.2.1 h1_8 h1_9 h1_10 x5.2.2.2 _ h))
    exact Le.tow 2 0 rfl (.cons rfl (.refl _) (.cons rfl (.refl _) (.cons rfl (.refl _) (.cons rfl (.refl _) (.cons rfl (.refl _) (.nil)))))) (.refl _) rfl
noncomputable def uri_reader_path (h0_0 : (List UInt8)) (h0_1 : (List UInt8)) (h0_2 : (List UInt8)) (h0_3 : (List UInt8)) (h0_4 : (List UInt8)) (h0_5 : (List UInt8)) (h0_6 : (List UInt8)) (h0_7 : (List UInt8)) (h0_8 : Bool) (h0_9 : Bool) (h0_10 : Bool) (h0_11 : Bool) (h0_12 : Bool) : Option (Bool × (List UInt8) × (List UInt8)) :=
  uri_reader_upto [63, 35] h0_0 h0_1 h0_2 h0_3 h0_4 h0_5 h0_6 h0_7 h0_8 h0_9 h0_10 h0_11 h0_12 >>= fun x1 =>
  uri_with [58, 64, 47] >>= fun x2 =>
  uri_fits_uri_with_1 x1.1 x2 >>= fun x3 =>
  some (x3, x1.2, x1.1)
set_option maxRecDepth 100000 in
set_option maxHeartbeats 4000000 in
theorem uri_reader_path_ok : ∀ (h0_0 : (List UInt8)) (h0_1 : (List UInt8)) (h0_2 : (List UInt8)) (h0_3 : (List UInt8)) (h0_4 : (List UInt8)) (h0_5 : (List UInt8)) (h0_6 : (List UInt8)) (h0_7 : (List UInt8)) (h0_8 : Bool) (h0_9 : Bool) (h0_10 : Bool) (h0_11 : Bool) (h0_12 : Bool) (o : Bool × (List UInt8) × (List UInt8)), uri_reader_path h0_0 h0_1 h0_2 h0_3 h0_4 h0_5 h0_6 h0_7 h0_8 h0_9 h0_10 h0_11 h0_12 = some o → CallOK Tryd.prog 49 [.ptr 0 0] ⟨[[.p (sV h0_0), .p (sV h0_1), .p (sV h0_2), .p (sV h0_3), .p (sV h0_4), .p (sV h0_5), .p (sV h0_6), .p (sV h0_7), .p (bV h0_8), .p (bV h0_9), .p (bV h0_10), .p (bV h0_11), .p (bV h0_12)]], []⟩ (t_uri_reader_path o) ⟨[[.p (sV o.2.1), .p (sV h0_1), .p (sV h0_2), .p (sV h0_3), .p (sV h0_4), .p (sV o.2.2), .p (sV h0_6), .p (sV h0_7), .p (bV h0_8), .p (bV h0_9), .p (bV h0_10), .p (bV h0_11), .p (bV h0_12)]], []⟩ := by
  intro h0_0 h0_1 h0_2 h0_3 h0_4 h0_5 h0_6 h0_7 h0_8 h0_9 h0_10 h0_11 h0_12 o h
  unfold uri_reader_path at h
  refine CallOK.ofB mixed tbOk uri_reader_path_lv Tryd.func49 rfl (by kernel_rfl) (Nat.le_of_ble_eq_true rfl) rfl rfl rfl ?_
  refine st_callc _ _ h (fun x1 hy => ((uri_reader_upto_ok [63, 35] h0_0 h0_1 h0_2 h0_3 h0_4 h0_5 h0_6 h0_7 h0_8 h0_9 h0_10 h0_11 h0_12 x1 hy).fr [0] [] rfl rfl rfl)) (fun x1 hy h => ?_)
  refine And.intro (by decide +kernel) (And.intro rfl ?_)
  refine st_calld [sV [58, 64, 47]] t_uri_with h (fun x2 hy => (uri_with_ok [58, 64, 47] x2 hy)) (fun x2 hy h => ?_)
  refine st_callq (fun x3 => (t_uri_fits_uri_with_1 x3).ren [] []) h (fun x3 hy => (uri_fits_uri_with_1_ok x1.1 x2 x3 hy).fd rfl rfl [] rfl rfl) (fun x3 hy h => ?_)
  refine Exists.intro _ (And.intro (Le.refl _ _ _) ?_)
  exact st_retc (t := t_uri_reader_path) (ss := fun o => ⟨[[.p (sV o.2.1), .p (sV h0_1), .p (sV h0_2), .p (sV h0_3), .p (sV h0_4), .p (sV o.2.2), .p (sV h0_6), .p (sV h0_7), .p (bV h0_8), .p (bV h0_9), .p (bV h0_10), .p (bV h0_11), .p (bV h0_12)]], []⟩) h ⟨[], rfl, .refl _, .refl _, rfl⟩
noncomputable def uri_Split_L1_r2 (p0 : (List UInt8)) (h1_0 : (List UInt8)) (h1_1 : (List UInt8)) (h1_2 : (List UInt8)) (h1_3 : (List UInt8)) (h1_4 : (List UInt8)) (h1_8 : Bool) (h1_9 : Bool) (h1_10 : Bool) : Option (((List UInt8) × (List UInt8) × (List UInt8) × (List UInt8) × (List UInt8) × (List UInt8) × (List UInt8) × (List UInt8) × Bool × Bool × Bool × Bool × Bool) ⊕ ((List UInt8) × (List UInt8) × (List UInt8) × (List UInt8) × (List UInt8) × (List UInt8) × (List UInt8) × (List UInt8) × Bool × Bool × Bool × Bool × Bool)) :=
  uri_reader_path h1_0 h1_1 h1_2 h1_3 h1_4 [] [] [] h1_8 h1_9 h1_10 false false >>= fun x6 =>
  if (!x6.1) then
    some (.inr (x6.2.1, h1_1, h1_2, h1_3, h1_4, x6.2.2, [], [], h1_8, h1_9, h1_10, false, false))
  else
    uri_Split_L1_r3 p0 x6.2.1 h1_1 h1_2 h1_3 h1_4 x6.2.2 h1_8 h1_9 h1_10
set_option maxRecDepth 100000 in
set_option maxHeartbeats 4000000 in
theorem uri_Split_L1_r2_ok : ∀ (p0 : (List UInt8)) (h1_0 : (List UInt8)) (h1_1 : (List UInt8)) (h1_2 : (List UInt8)) (h1_3 : (List UInt8)) (h1_4 : (List UInt8)) (h1_8 : Bool) (h1_9 : Bool) (h1_10 : Bool) (o1 : ((List UInt8) × (List UInt8) × (List UInt8) × (List UInt8) × (List UInt8) × (List UInt8) × (List UInt8) × (List UInt8) × Bool × Bool × Bool × Bool × Bool) ⊕ ((List UInt8) × (List UInt8) × (List UInt8) × (List UInt8) × (List UInt8) × (List UInt8) × (List UInt8) × (List UInt8) × Bool × Bool × Bool × Bool × Bool)), uri_Split_L1_r2 p0 h1_0 h1_1 h1_2 h1_3 h1_4 h1_8 h1_9 h1_10 = some o1 → TL (0, 0) Tryd.prog 35 uri_Split_L1_c (JP2 (0, 0) 35 o1 (.exit 0) (uri_Split_L1_x0 p0) .ret (uri_Split_L1_x1 p0)) (uri_Split_L1_r2_st p0 h1_0 h1_1 h1_2 h1_3 h1_4 h1_8 h1_9 h1_10) := by
  intro p0 h1_0 h1_1 h1_2 h1_3 h1_4 h1_8 h1_9 h1_10 o1 h
  unfold uri_Split_L1_r2 at h
  refine TL.round (bwp_sound mixed tbOk (lv := uri_Split_lv) _ _ _ ?_)
  refine bT ?_
  refine Exists.intro _ (And.intro (by decide) (And.intro rfl (And.intro rfl ?_)))
  refine And.intro rfl ?_
  refine st_callc _ _ h (fun x6 hy => ((uri_reader_path_ok h1_0 h1_1 h1_2 h1_3 h1_4 [] [] [] h1_8 h1_9 h1_10 false false x6 hy).fr [1] [] rfl rfl rfl)) (fun x6 hy h => ?_)
  refine st_test h (fun hb h => ?_) (fun hb h => ?_)
  · exact JP2.b h (Le.tow 2 0 rfl (.cons rfl (.refl _) (.cons rfl (.refl _) (.nil))) (.refl _) rfl)
  · refine TL.le (τ := uri_Split_L1_r3_st p0 x6.2.1 h1_1 h1_2 h1_3 h1_4 x6.2.2 h1_8 h1_9 h1_10) ?_ ((uri_Split_L1_r3_ok p0 x6.2.1 h1_1 h1_2 h1_3 h1_4 x6.2.2 h1_8 h1_9 h1_10 _ h))
    exact Le.tow 2 0 rfl (.cons rfl (.refl _) (.cons rfl (.refl _) (.cons rfl (.refl _) (.cons rfl (.refl _) (.cons rfl (.refl _) (.nil)))))) (.refl _) rfl
noncomputable def strings_Cut (p0 : (List UInt8)) (p1 : (List UInt8)) : Option ((List UInt8) × (List UInt8) × Bool) :=
  internal_stringslite_Cut p0 p1 >>= fun x1 =>
  some (x1.1, x1.2.1, x1.2.2)
set_option maxRecDepth 100000 in
set_option maxHeartbeats 4000000 in
theorem strings_Cut_ok : ∀ (p0 : (List UInt8)) (p1 : (List UInt8)) (o : (List UInt8) × (List UInt8) × Bool), strings_Cut p0 p1 = some o → PCall Tryd.prog 41 [sV p0, sV p1] (t_strings_Cut o) := by
  intro p0 p1 o h
  unfold strings_Cut at h
  refine PCall.ofB mixed tbOk strings_Cut_lv Tryd.func41 rfl (by kernel_rfl) (Nat.le_of_ble_eq_true rfl) ?_
  refine st_call [sV p0, sV p1] t_internal_stringslite_Cut h (fun x1 hy => (internal_stringslite_Cut_ok p0 p1 x1 hy)) (fun x1 hy h => ?_)
  refine st_ret (t := t_strings_Cut) h ?_
  exact .refl _
noncomputable def uri_reader_authority_L1 (h0_1 : (List UInt8)) (h0_5 : (List UInt8)) (h0_6 : (List UInt8)) (h0_7 : (List UInt8)) (h0_11 : Bool) (h0_12 : Bool) (x3 : (List UInt8) × (List UInt8)) (o4 : (List UInt8) × (List UInt8) × Bool) (x6 : (List UInt8) × (List UInt8) × Bool) (v66 : Int) : Option (Unit ⊕ Unit) :=
  if (decide (v66 < (x6.2.1.length : Int))) then
    idx x6.2.1 v66 >>= fun x10 =>
    uri_digit (x10.toNat : Int) >>= fun x11 =>
    if (!x11) then
      some (.inr ())
    else
      uri_reader_authority_L1 h0_1 h0_5 h0_6 h0_7 h0_11 h0_12 x3 o4 x6 (wr (v66 + 1))
  else
    some (.inl ())
  partial_fixpoint
set_option maxRecDepth 100000 in
set_option maxHeartbeats 4000000 in
theorem uri_reader_authority_L1_grp : ∀ (h0_1 : (List UInt8)) (h0_5 : (List UInt8)) (h0_6 : (List UInt8)) (h0_7 : (List UInt8)) (h0_11 : Bool) (h0_12 : Bool) (x3 : (List UInt8) × (List UInt8)) (o4 : (List UInt8) × (List UInt8) × Bool) (x6 : (List UInt8) × (List UInt8) × Bool), (∀ (v66 : Int) (o7 : Unit ⊕ Unit), uri_reader_authority_L1 h0_1 h0_5 h0_6 h0_7 h0_11 h0_12 x3 o4 x6 v66 = some o7 → TL (1, 0) Tryd.prog 92 uri_reader_authority_L1_c (JP2 (1, 0) 92 o7 (.exit 0) (uri_reader_authority_L1_x0 h0_1 h0_5 h0_6 h0_7 h0_11 h0_12 x3 o4 x6) .ret (uri_reader_authority_L1_x1 h0_1 h0_5 h0_6 h0_7 h0_11 h0_12 x3 o4 x6)) (uri_reader_authority_L1_st h0_1 h0_5 h0_6 h0_7 h0_11 h0_12 x3 o4 x6 v66)) := by
  intro h0_1 h0_5 h0_6 h0_7 h0_11 h0_12 x3 o4 x6
  refine uri_reader_authority_L1.partial_correctness h0_1 h0_5 h0_6 h0_7 h0_11 h0_12 x3 o4 x6 _ ?_
  intro uri_reader_authority_L1' ih_uri_reader_authority_L1 v66 o7 h
  refine TL.round (bwp_sound mixed tbOk (lv := uri_reader_authority_lv) _ _ _ ?_)
  refine st_test h (fun hb h => ?_) (fun hb h => ?_)
  · refine st_sidx h (fun x10 hi h => ?_)
    refine st_call [nV .u8 (x10.toNat : Int)] t_uri_digit h (fun x11 hy => (uri_digit_ok (x10.toNat : Int) x11 hy)) (fun x11 hy h => ?_)
    refine st_test h (fun hb h => ?_) (fun hb h => ?_)
    · exact JP2.b h (Le.tow 1 0 rfl (.cons rfl (.refl _) (.nil)) (.refl _) rfl)
    · refine TL.le (τ := uri_reader_authority_L1_st h0_1 h0_5 h0_6 h0_7 h0_11 h0_12 x3 o4 x6 (wr (v66 + 1))) ?_ ((ih_uri_reader_authority_L1 (wr (v66 + 1)) _ h))
      exact Le.tow 1 0 rfl (.cons rfl (.refl _) (.cons rfl (.refl _) (.cons rfl (.refl _) (.nil)))) (.refl _) rfl
  · exact JP2.a h (Le.tow 1 0 rfl (.cons rfl (.refl _) (.nil)) (.refl _) rfl)
theorem uri_reader_authority_L1_ok : ∀ (h0_1 : (List UInt8)) (h0_5 : (List UInt8)) (h0_6 : (List UInt8)) (h0_7 : (List UInt8)) (h0_11 : Bool) (h0_12 : Bool) (x3 : (List UInt8) × (List UInt8)) (o4 : (List UInt8) × (List UInt8) × Bool) (x6 : (List UInt8) × (List UInt8) × Bool) (v66 : Int) (o7 : Unit ⊕ Unit), uri_reader_authority_L1 h0_1 h0_5 h0_6 h0_7 h0_11 h0_12 x3 o4 x6 v66 = some o7 → TL (1, 0) Tryd.prog 92 uri_reader_authority_L1_c (JP2 (1, 0) 92 o7 (.exit 0) (uri_reader_authority_L1_x0 h0_1 h0_5 h0_6 h0_7 h0_11 h0_12 x3 o4 x6) .ret (uri_reader_authority_L1_x1 h0_1 h0_5 h0_6 h0_7 h0_11 h0_12 x3 o4 x6)) (uri_reader_authority_L1_st h0_1 h0_5 h0_6 h0_7 h0_11 h0_12 x3 o4 x6 v66) := fun h0_1 h0_5 h0_6 h0_7 h0_11 h0_12 x3 o4 x6 v66 o7 h => (uri_reader_authority_L1_grp h0_1 h0_5 h0_6 h0_7 h0_11 h0_12 x3 o4 x6) v66 o7 h
noncomputable def uri_reader_authority (h0_0 : (List UInt8)) (h0_1 : (List UInt8)) (h0_2 : (List UInt8)) (h0_3 : (List UInt8)) (h0_4 : (List UInt8)) (h0_5 : (List UInt8)) (h0_6 : (List UInt8)) (h0_7 : (List UInt8)) (h0_8 : Bool) (h0_9 : Bool) (h0_10 : Bool) (h0_11 : Bool) (h0_12 : Bool) : Option (Bool × (List UInt8) × (List UInt8) × (List UInt8) × (List UInt8) × Bool × Bool × Bool) :=
  strings_HasPrefix h0_0 [47, 47] >>= fun x1 =>
  if (!x1) then
    some (true, h0_0, h0_2, h0_3, h0_4, h0_8, h0_9, h0_10)
  else
    cutL h0_0 2 (h0_0.length : Int) >>= fun x2 =>
    uri_reader_upto [47, 63, 35] x2 h0_1 h0_2 h0_3 h0_4 h0_5 h0_6 h0_7 h0_8 h0_9 h0_10 h0_11 h0_12 >>= fun x3 =>
    ( strings_Cut x3.1 [64] >>= fun x5 =>
      if x5.2.2 then
        some (x5.2.1, x5.1, true)
      else
        some (x3.1, h0_2, h0_9) : Option (((List UInt8) × (List UInt8) × Bool))) >>= fun o4 =>
    strings_Cut o4.1 [58] >>= fun x6 =>
    (uri_reader_authority_L1 h0_1 h0_5 h0_6 h0_7 h0_11 h0_12 x3 o4 x6 0) >>= fun o7 =>
    match o7 with
    | .inl y8 =>
      ( uri_with [58] >>= fun x13 =>
        uri_fits_uri_with_1 o4.2.1 x13 >>= fun x14 =>
        if x14 then
          uri_with [] >>= fun x15 =>
          uri_fits_uri_with_1 x6.1 x15 >>= fun x16 =>
          some x16
        else
          some false : Option (Bool)) >>= fun o12 =>
      some (o12, x3.2, o4.2.1, x6.1, x6.2.1, true, o4.2.2, x6.2.2)
    | .inr y9 =>
      some (false, x3.2, o4.2.1, x6.1, x6.2.1, true, o4.2.2, x6.2.2)
set_option maxRecDepth 100000 in
set_option maxHeartbeats 4000000 in
theorem uri_reader_authority_ok : ∀ (h0_0 : (List UInt8)) (h0_1 : (List UInt8)) (h0_2 : (List UInt8)) (h0_3 : (List UInt8)) (h0_4 : (List UInt8)) (h0_5 : (List UInt8)) (h0_6 : (List UInt8)) (h0_7 : (List UInt8)) (h0_8 : Bool) (h0_9 : Bool) (h0_10 : Bool) (h0_11 : Bool) (h0_12 : Bool) (o : Bool × (List UInt8) × (List UInt8) × (List UInt8) × (List UInt8) × Bool × Bool × Bool), uri_reader_authority h0_0 h0_1 h0_2 h0_3 h0_4 h0_5 h0_6 h0_7 h0_8 h0_9 h0_10 h0_11 h0_12 = some o → CallOK Tryd.prog 48 [.ptr 0 0] ⟨[[.p (sV h0_0), .p (sV h0_1), .p (sV h0_2), .p (sV h0_3), .p (sV h0_4), .p (sV h0_5), .p (sV h0_6), .p (sV h0_7), .p (bV h0_8), .p (bV h0_9), .p (bV h0_10), .p (bV h0_11), .p (bV h0_12)]], []⟩ (t_uri_reader_authority o) ⟨[[.p (sV o.2.1), .p (sV h0_1), .p (sV o.2.2.1), .p (sV o.2.2.2.1), .p (sV o.2.2.2.2.1), .p (sV h0_5), .p (sV h0_6), .p (sV h0_7), .p (bV o.2.2.2.2.2.1), .p (bV o.2.2.2.2.2.2.1), .p (bV o.2.2.2.2.2.2.2), .p (bV h0_11), .p (bV h0_12)]], []⟩ := by
  intro h0_0 h0_1 h0_2 h0_3 h0_4 h0_5 h0_6 h0_7 h0_8 h0_9 h0_10 h0_11 h0_12 o h
  unfold uri_reader_authority at h
  refine CallOK.ofB mixed tbOk uri_reader_authority_lv Tryd.func48 rfl (by kernel_rfl) (Nat.le_of_ble_eq_true rfl) rfl rfl rfl ?_
  refine st_call [sV h0_0, sV [47, 47]] t_strings_HasPrefix h (fun x1 hy => (strings_HasPrefix_ok h0_0 [47, 47] x1 hy)) (fun x1 hy h => ?_)
  refine st_test h (fun hb h => ?_) (fun hb h => ?_)
  · refine Exists.intro _ (And.intro (Le.refl _ _ _) ?_)
    exact st_retc (t := t_uri_reader_authority) (ss := fun o => ⟨[[.p (sV o.2.1), .p (sV h0_1), .p (sV o.2.2.1), .p (sV o.2.2.2.1), .p (sV o.2.2.2.2.1), .p (sV h0_5), .p (sV h0_6), .p (sV h0_7), .p (bV o.2.2.2.2.2.1), .p (bV o.2.2.2.2.2.2.1), .p (bV o.2.2.2.2.2.2.2), .p (bV h0_11), .p (bV h0_12)]], []⟩) h ⟨[], rfl, .refl _, .refl _, rfl⟩
  · refine st_cuts (some 2) none h (fun x2 hi h => ?_)
    refine And.intro (by decide +kernel) (And.intro rfl ?_)
    refine st_callh _ _ h (fun x3 hy => ((uri_reader_upto_ok [47, 63, 35] x2 h0_1 h0_2 h0_3 h0_4 h0_5 h0_6 h0_7 h0_8 h0_9 h0_10 h0_11 h0_12 x3 hy).fr [0] [] rfl rfl rfl)) (fun x3 => Nat.le_of_ble_eq_true rfl) (fun x3 hy h => ?_)
    refine st_bind h (fun o4 ho hk => ?_)
    refine Exists.intro (JP1 _ _ o4 .normal (uri_reader_authority_J0_0 h0_1 h0_3 h0_4 h0_5 h0_6 h0_7 h0_10 h0_11 h0_12 x3)) (And.intro ?_ (join1 ?_))
    · have h := ho
      refine st_call [sV x3.1, sV [64]] t_strings_Cut h (fun x5 hy => (strings_Cut_ok x3.1 [64] x5 hy)) (fun x5 hy h => ?_)
      refine st_test h (fun hb h => ?_) (fun hb h => ?_)
      · exact JP1.a h (Le.tow 1 0 rfl (.cons rfl (.refl _) (.cons rfl (.refl _) (.nil))) (.refl _) rfl)
      · exact JP1.a h (Le.tow 1 0 rfl (.cons rfl (.refl _) (.cons rfl (.refl _) (.nil))) (.refl _) rfl)
    · have h := hk
      refine st_call [sV o4.1, sV [58]] t_strings_Cut h (fun x6 hy => (strings_Cut_ok o4.1 [58] x6 hy)) (fun x6 hy h => ?_)
      refine vrfl ?_
      refine st_bind h (fun o7 ho hk => ?_)
      refine Exists.intro (JP2 _ _ o7 (.exit 0) (uri_reader_authority_L1_x0 h0_1 h0_5 h0_6 h0_7 h0_11 h0_12 x3 o4 x6) .ret (uri_reader_authority_L1_x1 h0_1 h0_5 h0_6 h0_7 h0_11 h0_12 x3 o4 x6)) (And.intro (T_le (τ := uri_reader_authority_L1_st h0_1 h0_5 h0_6 h0_7 h0_11 h0_12 x3 o4 x6 0) ?_ (TL.loop (uri_reader_authority_L1_ok h0_1 h0_5 h0_6 h0_7 h0_11 h0_12 x3 o4 x6 0 o7 ho))) (join2 (fun y8 hy => ?_) (fun y9 hy => ?_)))
      · exact Le.tow 1 0 rfl (.cons rfl (.refl _) (.cons rfl (.refl _) (.cons rfl (.refl _) (.nil)))) (.refl _) rfl
      · have h := (by rw [hy] at hk; exact hk)
        refine st_bind h (fun o12 ho hk => ?_)
        refine Exists.intro (JP1 _ _ o12 .normal (uri_reader_authority_J1_0 h0_1 h0_5 h0_6 h0_7 h0_11 h0_12 x3 o4 x6)) (And.intro ?_ (join1 ?_))
        · have h := ho
          refine And.intro (by decide +kernel) (And.intro rfl ?_)
          refine st_calld [sV [58]] t_uri_with h (fun x13 hy => (uri_with_ok [58] x13 hy)) (fun x13 hy h => ?_)
          refine st_callq (fun x14 => (t_uri_fits_uri_with_1 x14).ren [] []) h (fun x14 hy => (uri_fits_uri_with_1_ok o4.2.1 x13 x14 hy).fd rfl rfl [] rfl rfl) (fun x14 hy h => ?_)
          refine st_test h (fun hb h => ?_) (fun hb h => ?_)
          · refine st_calld [sV []] t_uri_with h (fun x15 hy => (uri_with_ok [] x15 hy)) (fun x15 hy h => ?_)
            refine st_callq (fun x16 => (t_uri_fits_uri_with_1 x16).ren [] []) h (fun x16 hy => (uri_fits_uri_with_1_ok x6.1 x15 x16 hy).fd rfl rfl [] rfl rfl) (fun x16 hy h => ?_)
            exact JP1.a h (Le.tow 1 0 rfl (.cons rfl (.refl _) (.nil)) (.refl _) rfl)
          · exact JP1.a h (Le.tow 1 0 rfl (.cons rfl (.refl _) (.nil)) (.refl _) rfl)
        · have h := hk
          refine Exists.intro _ (And.intro (Le.refl _ _ _) ?_)
          exact st_retc (t := t_uri_reader_authority) (ss := fun o => ⟨[[.p (sV o.2.1), .p (sV h0_1), .p (sV o.2.2.1), .p (sV o.2.2.2.1), .p (sV o.2.2.2.2.1), .p (sV h0_5), .p (sV h0_6), .p (sV h0_7), .p (bV o.2.2.2.2.2.1), .p (bV o.2.2.2.2.2.2.1), .p (bV o.2.2.2.2.2.2.2), .p (bV h0_11), .p (bV h0_12)]], []⟩) h ⟨[], rfl, .refl _, .refl _, rfl⟩
      · have h := (by rw [hy] at hk; exact hk)
        refine Exists.intro _ (And.intro (Le.refl _ _ _) ?_)
        exact st_retc (t := t_uri_reader_authority) (ss := fun o => ⟨[[.p (sV o.2.1), .p (sV h0_1), .p (sV o.2.2.1), .p (sV o.2.2.2.1), .p (sV o.2.2.2.2.1), .p (sV h0_5), .p (sV h0_6), .p (sV h0_7), .p (bV o.2.2.2.2.2.1), .p (bV o.2.2.2.2.2.2.1), .p (bV o.2.2.2.2.2.2.2), .p (bV h0_11), .p (bV h0_12)]], []⟩) h ⟨[], rfl, .refl _, .refl _, rfl⟩
noncomputable def uri_Split_L1_r1 (p0 : (List UInt8)) (h1_0 : (List UInt8)) (h1_1 : (List UInt8)) : Option (((List UInt8) × (List UInt8) × (List UInt8) × (List UInt8) × (List UInt8) × (List UInt8) × (List UInt8) × (List UInt8) × Bool × Bool × Bool × Bool × Bool) ⊕ ((List UInt8) × (List UInt8) × (List UInt8) × (List UInt8) × (List UInt8) × (List UInt8) × (List UInt8) × (List UInt8) × Bool × Bool × Bool × Bool × Bool)) :=
  uri_reader_authority h1_0 h1_1 [] [] [] [] [] [] false false false false false >>= fun x7 =>
  if (!x7.1) then
    some (.inr (x7.2.1, h1_1, x7.2.2.1, x7.2.2.2.1, x7.2.2.2.2.1, [], [], [], x7.2.2.2.2.2.1, x7.2.2.2.2.2.2.1, x7.2.2.2.2.2.2.2, false, false))
  else
    uri_Split_L1_r2 p0 x7.2.1 h1_1 x7.2.2.1 x7.2.2.2.1 x7.2.2.2.2.1 x7.2.2.2.2.2.1 x7.2.2.2.2.2.2.1 x7.2.2.2.2.2.2.2
set_option maxRecDepth 100000 in
set_option maxHeartbeats 4000000 in
theorem uri_Split_L1_r1_ok : ∀ (p0 : (List UInt8)) (h1_0 : (List UInt8)) (h1_1 : (List UInt8)) (o1 : ((List UInt8) × (List UInt8) × (List UInt8) × (List UInt8) × (List UInt8) × (List UInt8) × (List UInt8) × (List UInt8) × Bool × Bool × Bool × Bool × Bool) ⊕ ((List UInt8) × (List UInt8) × (List UInt8) × (List UInt8) × (List UInt8) × (List UInt8) × (List UInt8) × (List UInt8) × Bool × Bool × Bool × Bool × Bool)), uri_Split_L1_r1 p0 h1_0 h1_1 = some o1 → TL (0, 0) Tryd.prog 35 uri_Split_L1_c (JP2 (0, 0) 35 o1 (.exit 0) (uri_Split_L1_x0 p0) .ret (uri_Split_L1_x1 p0)) (uri_Split_L1_r1_st p0 h1_0 h1_1) := by
  intro p0 h1_0 h1_1 o1 h
  unfold uri_Split_L1_r1 at h
  refine TL.round (bwp_sound mixed tbOk (lv := uri_Split_lv) _ _ _ ?_)
  refine bT ?_
  refine Exists.intro _ (And.intro (by decide) (And.intro rfl (And.intro rfl ?_)))
  refine And.intro rfl ?_
  refine st_callc _ _ h (fun x7 hy => ((uri_reader_authority_ok h1_0 h1_1 [] [] [] [] [] [] false false false false false x7 hy).fr [1] [] rfl rfl rfl)) (fun x7 hy h => ?_)
  refine st_test h (fun hb h => ?_) (fun hb h => ?_)
  · exact JP2.b h (Le.tow 2 0 rfl (.cons rfl (.refl _) (.cons rfl (.refl _) (.nil))) (.refl _) rfl)
  · refine TL.le (τ := uri_Split_L1_r2_st p0 x7.2.1 h1_1 x7.2.2.1 x7.2.2.2.1 x7.2.2.2.2.1 x7.2.2.2.2.2.1 x7.2.2.2.2.2.2.1 x7.2.2.2.2.2.2.2) ?_ ((uri_Split_L1_r2_ok p0 x7.2.1 h1_1 x7.2.2.1 x7.2.2.2.1 x7.2.2.2.2.1 x7.2.2.2.2.2.1 x7.2.2.2.2.2.2.1 x7.2.2.2.2.2.2.2 _ h))
    exact Le.tow 2 0 rfl (.cons rfl (.refl _) (.cons rfl (.refl _) (.cons rfl (.refl _) (.cons rfl (.refl _) (.cons rfl (.refl _) (.nil)))))) (.refl _) rfl
noncomputable def uri_reader_scheme_L1 (h0_0 : (List UInt8)) (h0_1 : (List UInt8)) (h0_2 : (List UInt8)) (h0_3 : (List UInt8)) (h0_4 : (List UInt8)) (h0_5 : (List UInt8)) (h0_6 : (List UInt8)) (h0_7 : (List UInt8)) (h0_8 : Bool) (h0_9 : Bool) (h0_10 : Bool) (h0_11 : Bool) (h0_12 : Bool) (x1 : Int) (x4 : (List UInt8)) (v30 : Int) : Option (Unit ⊕ Unit) :=
  if (decide (v30 < x1)) then
    idx x4 v30 >>= fun x8 =>
    ( uri_letter (x8.toNat : Int) >>= fun x10 =>
      if (!x10) then
        if (v30 == 0) then
          some true
        else
          uri_digit (x8.toNat : Int) >>= fun x11 =>
          if (!x11) then
            strings_IndexByte [43, 45, 46] (x8.toNat : Int) >>= fun x12 =>
            some (decide (x12 < 0))
          else
            some false
      else
        some false : Option (Bool)) >>= fun o9 =>
    if o9 then
      some (.inr ())
    else
      uri_reader_scheme_L1 h0_0 h0_1 h0_2 h0_3 h0_4 h0_5 h0_6 h0_7 h0_8 h0_9 h0_10 h0_11 h0_12 x1 x4 (wr (v30 + 1))
  else
    some (.inl ())
  partial_fixpoint
set_option maxRecDepth 100000 in
set_option maxHeartbeats 4000000 in
theorem uri_reader_scheme_L1_grp : ∀ (h0_0 : (List UInt8)) (h0_1 : (List UInt8)) (h0_2 : (List UInt8)) (h0_3 : (List UInt8)) (h0_4 : (List UInt8)) (h0_5 : (List UInt8)) (h0_6 : (List UInt8)) (h0_7 : (List UInt8)) (h0_8 : Bool) (h0_9 : Bool) (h0_10 : Bool) (h0_11 : Bool) (h0_12 : Bool) (x1 : Int) (x4 : (List UInt8)), (∀ (v30 : Int) (o5 : Unit ⊕ Unit), uri_reader_scheme_L1 h0_0 h0_1 h0_2 h0_3 h0_4 h0_5 h0_6 h0_7 h0_8 h0_9 h0_10 h0_11 h0_12 x1 x4 v30 = some o5 → TL (1, 0) Tryd.prog 71 uri_reader_scheme_L1_c (JP2 (1, 0) 71 o5 (.exit 0) (uri_reader_scheme_L1_x0 h0_0 h0_1 h0_2 h0_3 h0_4 h0_5 h0_6 h0_7 h0_8 h0_9 h0_10 h0_11 h0_12 x1 x4) .ret (uri_reader_scheme_L1_x1 h0_0 h0_1 h0_2 h0_3 h0_4 h0_5 h0_6 h0_7 h0_8 h0_9 h0_10 h0_11 h0_12 x1 x4)) (uri_reader_scheme_L1_st h0_0 h0_1 h0_2 h0_3 h0_4 h0_5 h0_6 h0_7 h0_8 h0_9 h0_10 h0_11 h0_12 x1 x4 v30)) := by
  intro h0_0 h0_1 h0_2 h0_3 h0_4 h0_5 h0_6 h0_7 h0_8 h0_9 h0_10 h0_11 h0_12 x1 x4
  refine uri_reader_scheme_L1.partial_correctness h0_0 h0_1 h0_2 h0_3 h0_4 h0_5 h0_6 h0_7 h0_8 h0_9 h0_10 h0_11 h0_12 x1 x4 _ ?_
  intro uri_reader_scheme_L1' ih_uri_reader_scheme_L1 v30 o5 h
  refine TL.round (bwp_sound mixed tbOk (lv := uri_reader_scheme_lv) _ _ _ ?_)
  refine st_test h (fun hb h => ?_) (fun hb h => ?_)
  · refine st_sidx h (fun x8 hi h => ?_)
    refine st_bind h (fun o9 ho hk => ?_)
    refine Exists.intro (JP1 _ _ o9 .normal (uri_reader_scheme_J1_0 h0_0 h0_1 h0_2 h0_3 h0_4 h0_5 h0_6 h0_7 h0_8 h0_9 h0_10 h0_11 h0_12 x1 x4 v30)) (And.intro ?_ (join1 ?_))
    · have h := ho
      refine st_call [nV .u8 (x8.toNat : Int)] t_uri_letter h (fun x10 hy => (uri_letter_ok (x8.toNat : Int) x10 hy)) (fun x10 hy h => ?_)
      refine st_test h (fun hb h => ?_) (fun hb h => ?_)
      · refine st_test h (fun hb h => ?_) (fun hb h => ?_)
        · exact JP1.a h (Le.tow 1 0 rfl (.cons rfl (.refl _) (.cons rfl (.refl _) (.cons rfl (.refl _) (.cons rfl (.refl _) (.cons rfl (.refl _) (.cons rfl (.refl _) (.nil))))))) (.refl _) rfl)
        · refine st_call [nV .u8 (x8.toNat : Int)] t_uri_digit h (fun x11 hy => (uri_digit_ok (x8.toNat : Int) x11 hy)) (fun x11 hy h => ?_)
          refine st_test h (fun hb h => ?_) (fun hb h => ?_)
          · refine st_call [sV [43, 45, 46], nV .u8 (x8.toNat : Int)] t_strings_IndexByte h (fun x12 hy => (strings_IndexByte_ok [43, 45, 46] (x8.toNat : Int) x12 hy)) (fun x12 hy h => ?_)
            exact JP1.a h (Le.tow 1 0 rfl (.cons rfl (.refl _) (.cons rfl (.refl _) (.cons rfl (.refl _) (.cons rfl (.refl _) (.cons rfl (.refl _) (.cons rfl (.refl _) (.nil))))))) (.refl _) rfl)
          · exact JP1.a h (Le.tow 1 0 rfl (.cons rfl (.refl _) (.cons rfl (.refl _) (.cons rfl (.refl _) (.cons rfl (.refl _) (.cons rfl (.refl _) (.cons rfl (.refl _) (.nil))))))) (.refl _) rfl)
      · exact JP1.a h (Le.tow 1 0 rfl (.cons rfl (.refl _) (.cons rfl (.refl _) (.cons rfl (.refl _) (.cons rfl (.refl _) (.cons rfl (.refl _) (.cons rfl (.refl _) (.nil))))))) (.refl _) rfl)
    · have h := hk
      refine st_test h (fun hb h => ?_) (fun hb h => ?_)
      · exact JP2.b h (Le.tow 1 0 rfl (.cons rfl (.refl _) (.nil)) (.refl _) rfl)
      · refine TL.le (τ := uri_reader_scheme_L1_st h0_0 h0_1 h0_2 h0_3 h0_4 h0_5 h0_6 h0_7 h0_8 h0_9 h0_10 h0_11 h0_12 x1 x4 (wr (v30 + 1))) ?_ ((ih_uri_reader_scheme_L1 (wr (v30 + 1)) _ h))
        exact Le.tow 1 0 rfl (.cons rfl (.refl _) (.cons rfl (.refl _) (.cons rfl (.refl _) (.cons rfl (.refl _) (.cons rfl (.refl _) (.nil)))))) (.refl _) rfl
  · exact JP2.a h (Le.tow 1 0 rfl (.cons rfl (.refl _) (.cons rfl (.refl _) (.cons rfl (.refl _) (.nil)))) (.refl _) rfl)
theorem uri_reader_scheme_L1_ok : ∀ (h0_0 : (List UInt8)) (h0_1 : (List UInt8)) (h0_2 : (List UInt8)) (h0_3 : (List UInt8)) (h0_4 : (List UInt8)) (h0_5 : (List UInt8)) (h0_6 : (List UInt8)) (h0_7 : (List UInt8)) (h0_8 : Bool) (h0_9 : Bool) (h0_10 : Bool) (h0_11 : Bool) (h0_12 : Bool) (x1 : Int) (x4 : (List UInt8)) (v30 : Int) (o5 : Unit ⊕ Unit), uri_reader_scheme_L1 h0_0 h0_1 h0_2 h0_3 h0_4 h0_5 h0_6 h0_7 h0_8 h0_9 h0_10 h0_11 h0_12 x1 x4 v30 = some o5 → TL (1, 0) Tryd.prog 71 uri_reader_scheme_L1_c (JP2 (1, 0) 71 o5 (.exit 0) (uri_reader_scheme_L1_x0 h0_0 h0_1 h0_2 h0_3 h0_4 h0_5 h0_6 h0_7 h0_8 h0_9 h0_10 h0_11 h0_12 x1 x4) .ret (uri_reader_scheme_L1_x1 h0_0 h0_1 h0_2 h0_3 h0_4 h0_5 h0_6 h0_7 h0_8 h0_9 h0_10 h0_11 h0_12 x1 x4)) (uri_reader_scheme_L1_st h0_0 h0_1 h0_2 h0_3 h0_4 h0_5 h0_6 h0_7 h0_8 h0_9 h0_10 h0_11 h0_12 x1 x4 v30) := fun h0_0 h0_1 h0_2 h0_3 h0_4 h0_5 h0_6 h0_7 h0_8 h0_9 h0_10 h0_11 h0_12 x1 x4 v30 o5 h => (uri_reader_scheme_L1_grp h0_0 h0_1 h0_2 h0_3 h0_4 h0_5 h0_6 h0_7 h0_8 h0_9 h0_10 h0_11 h0_12 x1 x4) v30 o5 h
noncomputable def uri_reader_scheme (h0_0 : (List UInt8)) (h0_1 : (List UInt8)) (h0_2 : (List UInt8)) (h0_3 : (List UInt8)) (h0_4 : (List UInt8)) (h0_5 : (List UInt8)) (h0_6 : (List UInt8)) (h0_7 : (List UInt8)) (h0_8 : Bool) (h0_9 : Bool) (h0_10 : Bool) (h0_11 : Bool) (h0_12 : Bool) : Option (Bool × (List UInt8) × (List UInt8)) :=
  strings_IndexAny h0_0 [58, 47, 63, 35] >>= fun x1 =>
  ( if (decide (x1 < 0)) then
      some true
    else
      idx h0_0 x1 >>= fun x3 =>
      some ((x3.toNat : Int) != 58) : Option (Bool)) >>= fun o2 =>
  if o2 then
    some (true, h0_0, h0_1)
  else
    cutL h0_0 0 x1 >>= fun x4 =>
    (uri_reader_scheme_L1 h0_0 h0_1 h0_2 h0_3 h0_4 h0_5 h0_6 h0_7 h0_8 h0_9 h0_10 h0_11 h0_12 x1 x4 0) >>= fun o5 =>
    match o5 with
    | .inl y6 =>
      cutL h0_0 (wr (x1 + 1)) (h0_0.length : Int) >>= fun x13 =>
      some ((!(x4 == [])), x13, x4)
    | .inr y7 =>
      some (false, h0_0, h0_1)
set_option maxRecDepth 100000 in
set_option maxHeartbeats 4000000 in
theorem uri_reader_scheme_ok : ∀ (h0_0 : (List UInt8)) (h0_1 : (List UInt8)) (h0_2 : (List UInt8)) (h0_3 : (List UInt8)) (h0_4 : (List UInt8)) (h0_5 : (List UInt8)) (h0_6 : (List UInt8)) (h0_7 : (List UInt8)) (h0_8 : Bool) (h0_9 : Bool) (h0_10 : Bool) (h0_11 : Bool) (h0_12 : Bool) (o : Bool × (List UInt8) × (List UInt8)), uri_reader_scheme h0_0 h0_1 h0_2 h0_3 h0_4 h0_5 h0_6 h0_7 h0_8 h0_9 h0_10 h0_11 h0_12 = some o → CallOK Tryd.prog 47 [.ptr 0 0] ⟨[[.p (sV h0_0), .p (sV h0_1), .p (sV h0_2), .p (sV h0_3), .p (sV h0_4), .p (sV h0_5), .p (sV h0_6), .p (sV h0_7), .p (bV h0_8), .p (bV h0_9), .p (bV h0_10), .p (bV h0_11), .p (bV h0_12)]], []⟩ (t_uri_reader_scheme o) ⟨[[.p (sV o.2.1), .p (sV o.2.2), .p (sV h0_2), .p (sV h0_3), .p (sV h0_4), .p (sV h0_5), .p (sV h0_6), .p (sV h0_7), .p (bV h0_8), .p (bV h0_9), .p (bV h0_10), .p (bV h0_11), .p (bV h0_12)]], []⟩ := by
  intro h0_0 h0_1 h0_2 h0_3 h0_4 h0_5 h0_6 h0_7 h0_8 h0_9 h0_10 h0_11 h0_12 o h
  unfold uri_reader_scheme at h
  refine CallOK.ofB mixed tbOk uri_reader_scheme_lv Tryd.func47 rfl (by kernel_rfl) (Nat.le_of_ble_eq_true rfl) rfl rfl rfl ?_
  refine st_call [sV h0_0, sV [58, 47, 63, 35]] t_strings_IndexAny h (fun x1 hy => (strings_IndexAny_ok h0_0 [58, 47, 63, 35] x1 hy)) (fun x1 hy h => ?_)
  refine st_bind h (fun o2 ho hk => ?_)
  refine Exists.intro (JP1 _ _ o2 .normal (uri_reader_scheme_J0_0 h0_0 h0_1 h0_2 h0_3 h0_4 h0_5 h0_6 h0_7 h0_8 h0_9 h0_10 h0_11 h0_12 x1)) (And.intro ?_ (join1 ?_))
  · have h := ho
    refine st_test h (fun hb h => ?_) (fun hb h => ?_)
    · exact JP1.a h (Le.tow 1 0 rfl (.cons rfl (.refl _) (.cons rfl (.refl _) (.cons rfl (.refl _) (.nil)))) (.refl _) rfl)
    · refine st_sidx h (fun x3 hi h => ?_)
      exact JP1.a h (Le.tow 1 0 rfl (.cons rfl (.refl _) (.cons rfl (.refl _) (.cons rfl (.refl _) (.nil)))) (.refl _) rfl)
  · have h := hk
    refine st_test h (fun hb h => ?_) (fun hb h => ?_)
    · refine Exists.intro _ (And.intro (Le.refl _ _ _) ?_)
      exact st_retc (t := t_uri_reader_scheme) (ss := fun o => ⟨[[.p (sV o.2.1), .p (sV o.2.2), .p (sV h0_2), .p (sV h0_3), .p (sV h0_4), .p (sV h0_5), .p (sV h0_6), .p (sV h0_7), .p (bV h0_8), .p (bV h0_9), .p (bV h0_10), .p (bV h0_11), .p (bV h0_12)]], []⟩) h ⟨[], rfl, .refl _, .refl _, rfl⟩
    · refine st_cuts none (some x1) h (fun x4 hi h => ?_)
      refine st_bind h (fun o5 ho hk => ?_)
      refine Exists.intro (JP2 _ _ o5 (.exit 0) (uri_reader_scheme_L1_x0 h0_0 h0_1 h0_2 h0_3 h0_4 h0_5 h0_6 h0_7 h0_8 h0_9 h0_10 h0_11 h0_12 x1 x4) .ret (uri_reader_scheme_L1_x1 h0_0 h0_1 h0_2 h0_3 h0_4 h0_5 h0_6 h0_7 h0_8 h0_9 h0_10 h0_11 h0_12 x1 x4)) (And.intro (T_le (τ := uri_reader_scheme_L1_st h0_0 h0_1 h0_2 h0_3 h0_4 h0_5 h0_6 h0_7 h0_8 h0_9 h0_10 h0_11 h0_12 x1 x4 0) ?_ (TL.loop (uri_reader_scheme_L1_ok h0_0 h0_1 h0_2 h0_3 h0_4 h0_5 h0_6 h0_7 h0_8 h0_9 h0_10 h0_11 h0_12 x1 x4 0 o5 ho))) (join2 (fun y6 hy => ?_) (fun y7 hy => ?_)))
      · exact Le.tow 1 0 rfl (.cons rfl (.refl _) (.cons rfl (.refl _) (.cons rfl (.refl _) (.cons rfl (.refl _) (.cons rfl (.refl _) (.nil)))))) (.refl _) rfl
      · have h := (by rw [hy] at hk; exact hk)
        refine And.intro (by decide +kernel) (And.intro rfl ?_)
        refine st_cuts (some (wr (x1 + 1))) none h (fun x13 hi h => ?_)
        refine Exists.intro _ (And.intro (Le.refl _ _ _) ?_)
        exact st_retc (t := t_uri_reader_scheme) (ss := fun o => ⟨[[.p (sV o.2.1), .p (sV o.2.2), .p (sV h0_2), .p (sV h0_3), .p (sV h0_4), .p (sV h0_5), .p (sV h0_6), .p (sV h0_7), .p (bV h0_8), .p (bV h0_9), .p (bV h0_10), .p (bV h0_11), .p (bV h0_12)]], []⟩) h ⟨[], rfl, .refl _, .refl _, rfl⟩
      · have h := (by rw [hy] at hk; exact hk)
        refine Exists.intro _ (And.intro (Le.refl _ _ _) ?_)
        exact st_retc (t := t_uri_reader_scheme) (ss := fun o => ⟨[[.p (sV o.2.1), .p (sV o.2.2), .p (sV h0_2), .p (sV h0_3), .p (sV h0_4), .p (sV h0_5), .p (sV h0_6), .p (sV h0_7), .p (bV h0_8), .p (bV h0_9), .p (bV h0_10), .p (bV h0_11), .p (bV h0_12)]], []⟩) h ⟨[], rfl, .refl _, .refl _, rfl⟩
noncomputable def uri_Split_L1_r0 (p0 : (List UInt8)) : Option (((List UInt8) × (List UInt8) × (List UInt8) × (List UInt8) × (List UInt8) × (List UInt8) × (List UInt8) × (List UInt8) × Bool × Bool × Bool × Bool × Bool) ⊕ ((List UInt8) × (List UInt8) × (List UInt8) × (List UInt8) × (List UInt8) × (List UInt8) × (List UInt8) × (List UInt8) × Bool × Bool × Bool × Bool × Bool)) :=
  uri_reader_scheme p0 [] [] [] [] [] [] [] false false false false false >>= fun x8 =>
  if (!x8.1) then
    some (.inr (x8.2.1, x8.2.2, [], [], [], [], [], [], false, false, false, false, false))
  else
    uri_Split_L1_r1 p0 x8.2.1 x8.2.2
set_option maxRecDepth 100000 in
set_option maxHeartbeats 4000000 in
theorem uri_Split_L1_r0_ok : ∀ (p0 : (List UInt8)) (o1 : ((List UInt8) × (List UInt8) × (List UInt8) × (List UInt8) × (List UInt8) × (List UInt8) × (List UInt8) × (List UInt8) × Bool × Bool × Bool × Bool × Bool) ⊕ ((List UInt8) × (List UInt8) × (List UInt8) × (List UInt8) × (List UInt8) × (List UInt8) × (List UInt8) × (List UInt8) × Bool × Bool × Bool × Bool × Bool)), uri_Split_L1_r0 p0 = some o1 → TL (0, 0) Tryd.prog 35 uri_Split_L1_c (JP2 (0, 0) 35 o1 (.exit 0) (uri_Split_L1_x0 p0) .ret (uri_Split_L1_x1 p0)) (uri_Split_L1_r0_st p0) := by
  intro p0 o1 h
  unfold uri_Split_L1_r0 at h
  refine TL.round (bwp_sound mixed tbOk (lv := uri_Split_lv) _ _ _ ?_)
  refine bT ?_
  refine Exists.intro _ (And.intro (by decide) (And.intro rfl (And.intro rfl ?_)))
  refine And.intro rfl ?_
  refine st_callc _ _ h (fun x8 hy => ((uri_reader_scheme_ok p0 [] [] [] [] [] [] [] false false false false false x8 hy).fr [1] [] rfl rfl rfl)) (fun x8 hy h => ?_)
  refine st_test h (fun hb h => ?_) (fun hb h => ?_)
  · exact JP2.b h (Le.tow 2 0 rfl (.cons rfl (.refl _) (.cons rfl (.refl _) (.nil))) (.refl _) rfl)
  · refine TL.le (τ := uri_Split_L1_r1_st p0 x8.2.1 x8.2.2) ?_ ((uri_Split_L1_r1_ok p0 x8.2.1 x8.2.2 _ h))
    exact Le.tow 2 0 rfl (.cons rfl (.refl _) (.cons rfl (.refl _) (.cons rfl (.refl _) (.cons rfl (.refl _) (.cons rfl (.refl _) (.nil)))))) (.refl _) rfl
noncomputable def uri_Split (p0 : (List UInt8)) : Option (uri_Uri × Int) :=
  (uri_Split_L1_r0 p0) >>= fun o1 =>
  match o1 with
  | .inl y2 =>
    some ((uri_Uri.mk y2.2.1 y2.2.2.1 y2.2.2.2.1 y2.2.2.2.2.1 y2.2.2.2.2.2.1 y2.2.2.2.2.2.2.1 y2.2.2.2.2.2.2.2.1 y2.2.2.2.2.2.2.2.2.1 y2.2.2.2.2.2.2.2.2.2.1 y2.2.2.2.2.2.2.2.2.2.2.1 y2.2.2.2.2.2.2.2.2.2.2.2.1 y2.2.2.2.2.2.2.2.2.2.2.2.2), 0)
  | .inr y3 =>
    some ((uri_Uri.mk [] [] [] [] [] [] [] false false false false false), 7)
set_option maxRecDepth 100000 in
set_option maxHeartbeats 4000000 in
theorem uri_Split_ok : ∀ (p0 : (List UInt8)) (o : uri_Uri × Int), uri_Split p0 = some o → PCall Tryd.prog 29 [sV p0] (t_uri_Split o) := by
  intro p0 o h
  unfold uri_Split at h
  refine PCall.ofB mixed tbOk uri_Split_lv Tryd.func29 rfl (by kernel_rfl) (Nat.le_of_ble_eq_true rfl) ?_
  refine vrfl ?_
  refine st_bind h (fun o1 ho hk => ?_)
  refine Exists.intro (JP2 _ _ o1 (.exit 0) (uri_Split_L1_x0 p0) .ret (uri_Split_L1_x1 p0)) (And.intro (T_le (τ := uri_Split_L1_r0_st p0) ?_ (TL.loop (uri_Split_L1_r0_ok p0 o1 ho))) (join2 (fun y2 hy => ?_) (fun y3 hy => ?_)))
  · exact Le.tow 2 0 rfl (.cons rfl (.refl _) (.cons rfl (.refl _) (.cons rfl (.refl _) (.cons rfl (.refl _) (.cons rfl (.refl _) (.nil)))))) (.refl _) rfl
  · have h := (by rw [hy] at hk; exact hk)
    refine st_ret (t := t_uri_Split) h ?_
    exact .refl _
  · have h := (by rw [hy] at hk; exact hk)
    refine st_ret (t := t_uri_Split) h ?_
    exact .refl _
noncomputable def nunciolaw12_awake : Option (Bool) :=
  uri_Split [104, 116, 116, 112, 115, 58, 47, 47, 117, 64, 104, 58, 56, 47, 97, 63, 98, 35, 99] >>= fun x1 =>
  uri_Split [97, 58, 98] >>= fun x2 =>
  uri_Split [49, 58, 98] >>= fun x3 =>
  uri_Split [97, 32, 98] >>= fun x4 =>
  ( if (x1.2 == 0) then
      if (x1.1.Scheme == [104, 116, 116, 112, 115]) then
        if (x1.1.User == [117]) then
          if (x1.1.Host == [104]) then
            if (x1.1.Port == [56]) then
              if (x1.1.Path == [47, 97]) then
                if (x1.1.Query == [98]) then
                  if (x1.1.Frag == [99]) then
                    if (x2.2 == 0) then
                      if (x2.1.Scheme == [97]) then
                        if (x2.1.Path == [98]) then
                          if (x3.2 == 7) then
                            some (x4.2 == 7)
                          else
                            some false
                        else
                          some false
                      else
                        some false
                    else
                      some false
                  else
                    some false
                else
                  some false
              else
                some false
            else
              some false
          else
            some false
        else
          some false
      else
        some false
    else
      some false : Option (Bool)) >>= fun o5 =>
  some o5
set_option maxRecDepth 100000 in
set_option maxHeartbeats 4000000 in
theorem nunciolaw12_awake_ok : ∀ (o : Bool), nunciolaw12_awake  = some o → PCall Tryd.prog 27 [] (t_nunciolaw12_awake o) := by
  intro o h
  unfold nunciolaw12_awake at h
  refine PCall.ofB mixed tbOk nunciolaw12_awake_lv Tryd.func27 rfl (by kernel_rfl) (Nat.le_of_ble_eq_true rfl) ?_
  refine st_call [sV [104, 116, 116, 112, 115, 58, 47, 47, 117, 64, 104, 58, 56, 47, 97, 63, 98, 35, 99]] t_uri_Split h (fun x1 hy => (uri_Split_ok [104, 116, 116, 112, 115, 58, 47, 47, 117, 64, 104, 58, 56, 47, 97, 63, 98, 35, 99] x1 hy)) (fun x1 hy h => ?_)
  refine st_call [sV [97, 58, 98]] t_uri_Split h (fun x2 hy => (uri_Split_ok [97, 58, 98] x2 hy)) (fun x2 hy h => ?_)
  refine st_call [sV [49, 58, 98]] t_uri_Split h (fun x3 hy => (uri_Split_ok [49, 58, 98] x3 hy)) (fun x3 hy h => ?_)
  refine st_call [sV [97, 32, 98]] t_uri_Split h (fun x4 hy => (uri_Split_ok [97, 32, 98] x4 hy)) (fun x4 hy h => ?_)
  refine st_bind h (fun o5 ho hk => ?_)
  refine Exists.intro (JP1 _ _ o5 .normal (nunciolaw12_awake_J0_0 x1 x2 x3 x4)) (And.intro ?_ (join1 ?_))
  · have h := ho
    refine st_test h (fun hb h => ?_) (fun hb h => ?_)
    · refine st_test h (fun hb h => ?_) (fun hb h => ?_)
      · refine st_test h (fun hb h => ?_) (fun hb h => ?_)
        · refine st_test h (fun hb h => ?_) (fun hb h => ?_)
          · refine st_test h (fun hb h => ?_) (fun hb h => ?_)
            · refine st_test h (fun hb h => ?_) (fun hb h => ?_)
              · refine st_test h (fun hb h => ?_) (fun hb h => ?_)
                · refine st_test h (fun hb h => ?_) (fun hb h => ?_)
                  · refine st_test h (fun hb h => ?_) (fun hb h => ?_)
                    · refine st_test h (fun hb h => ?_) (fun hb h => ?_)
                      · refine st_test h (fun hb h => ?_) (fun hb h => ?_)
                        · refine st_test h (fun hb h => ?_) (fun hb h => ?_)
                          · exact JP1.a h (Le.tow 4 0 rfl (.cons rfl (.refl _) (.nil)) (.refl _) rfl)
                          · exact JP1.a h (Le.tow 4 0 rfl (.cons rfl (.refl _) (.nil)) (.refl _) rfl)
                        · refine bF ?_
                          exact JP1.a h (Le.tow 4 0 rfl (.cons rfl (.refl _) (.nil)) (.refl _) rfl)
                      · refine bF ?_
                        refine bF ?_
                        exact JP1.a h (Le.tow 4 0 rfl (.cons rfl (.refl _) (.nil)) (.refl _) rfl)
                    · refine bF ?_
                      refine bF ?_
                      refine bF ?_
                      exact JP1.a h (Le.tow 4 0 rfl (.cons rfl (.refl _) (.nil)) (.refl _) rfl)
                  · refine bF ?_
                    refine bF ?_
                    refine bF ?_
                    refine bF ?_
                    exact JP1.a h (Le.tow 4 0 rfl (.cons rfl (.refl _) (.nil)) (.refl _) rfl)
                · refine bF ?_
                  refine bF ?_
                  refine bF ?_
                  refine bF ?_
                  refine bF ?_
                  exact JP1.a h (Le.tow 4 0 rfl (.cons rfl (.refl _) (.nil)) (.refl _) rfl)
              · refine bF ?_
                refine bF ?_
                refine bF ?_
                refine bF ?_
                refine bF ?_
                refine bF ?_
                exact JP1.a h (Le.tow 4 0 rfl (.cons rfl (.refl _) (.nil)) (.refl _) rfl)
            · refine bF ?_
              refine bF ?_
              refine bF ?_
              refine bF ?_
              refine bF ?_
              refine bF ?_
              refine bF ?_
              exact JP1.a h (Le.tow 4 0 rfl (.cons rfl (.refl _) (.nil)) (.refl _) rfl)
          · refine bF ?_
            refine bF ?_
            refine bF ?_
            refine bF ?_
            refine bF ?_
            refine bF ?_
            refine bF ?_
            refine bF ?_
            exact JP1.a h (Le.tow 4 0 rfl (.cons rfl (.refl _) (.nil)) (.refl _) rfl)
        · refine bF ?_
          refine bF ?_
          refine bF ?_
          refine bF ?_
          refine bF ?_
          refine bF ?_
          refine bF ?_
          refine bF ?_
          refine bF ?_
          exact JP1.a h (Le.tow 4 0 rfl (.cons rfl (.refl _) (.nil)) (.refl _) rfl)
      · refine bF ?_
        refine bF ?_
        refine bF ?_
        refine bF ?_
        refine bF ?_
        refine bF ?_
        refine bF ?_
        refine bF ?_
        refine bF ?_
        refine bF ?_
        exact JP1.a h (Le.tow 4 0 rfl (.cons rfl (.refl _) (.nil)) (.refl _) rfl)
    · refine bF ?_
      refine bF ?_
      refine bF ?_
      refine bF ?_
      refine bF ?_
      refine bF ?_
      refine bF ?_
      refine bF ?_
      refine bF ?_
      refine bF ?_
      refine bF ?_
      exact JP1.a h (Le.tow 4 0 rfl (.cons rfl (.refl _) (.nil)) (.refl _) rfl)
  · have h := hk
    refine st_ret (t := t_nunciolaw12_awake) h ?_
    exact .refl _
noncomputable def nunciolaw12_few (p0 : (List UInt8)) : Option ((List UInt8)) :=
  cutL p0 0 (if 300 < (p0.length : Int) then 300 else (p0.length : Int)) >>= fun x1 =>
  some x1
set_option maxRecDepth 100000 in
set_option maxHeartbeats 4000000 in
theorem nunciolaw12_few_ok : ∀ (p0 : (List UInt8)) (o : (List UInt8)), nunciolaw12_few p0 = some o → PCall Tryd.prog 18 [sV p0] (t_nunciolaw12_few o) := by
  intro p0 o h
  unfold nunciolaw12_few at h
  refine PCall.ofB mixed tbOk nunciolaw12_few_lv Tryd.func18 rfl (by kernel_rfl) (Nat.le_of_ble_eq_true rfl) ?_
  refine vrfl ?_
  refine st_cuts none (some (if 300 < (p0.length : Int) then 300 else (p0.length : Int))) h (fun x1 hi h => ?_)
  refine st_ret (t := t_nunciolaw12_few) h ?_
  exact .refl _
noncomputable def uri_Decode_L1 (p0 : (List UInt8)) (v4 : (List Int)) (v5 : Int) : Option ((List Int) ⊕ Unit) :=
  if (decide (v5 < (p0.length : Int))) then
    idx p0 v5 >>= fun x4 =>
    ( if ((x4.toNat : Int) == 37) then
        uri_coded p0 v5 >>= fun x8 =>
        if (!x8.2) then
          some (.inr ())
        else
          some (.inl ((wr (v5 + 2)), x8.1))
      else
        some (.inl (v5, (x4.toNat : Int))) : Option ((Int × Int) ⊕ Unit)) >>= fun o5 =>
    match o5 with
    | .inl y6 =>
      appL 1 v4 [y6.2] >>= fun x9 =>
      uri_Decode_L1 p0 x9 (wr (y6.1 + 1))
    | .inr y7 =>
      some (.inr ())
  else
    some (.inl v4)
  partial_fixpoint
set_option maxRecDepth 100000 in
set_option maxHeartbeats 4000000 in
theorem uri_Decode_L1_grp : ∀ (p0 : (List UInt8)), (∀ (v4 : (List Int)) (v5 : Int) (o1 : (List Int) ⊕ Unit), uri_Decode_L1 p0 v4 v5 = some o1 → TL (0, 0) Tryd.prog 37 uri_Decode_L1_c (JP2 (0, 0) 37 o1 (.exit 0) (uri_Decode_L1_x0 p0) .ret (uri_Decode_L1_x1 p0)) (uri_Decode_L1_st p0 v4 v5)) := by
  intro p0
  refine uri_Decode_L1.partial_correctness p0 _ ?_
  intro uri_Decode_L1' ih_uri_Decode_L1 v4 v5 o1 h
  refine TL.round (bwp_sound mixed tbOk (lv := uri_Decode_lv) _ _ _ ?_)
  refine vrfl ?_
  refine st_test h (fun hb h => ?_) (fun hb h => ?_)
  · refine st_sidx h (fun x4 hi h => ?_)
    refine st_bind h (fun o5 ho hk => ?_)
    refine Exists.intro (JP2 _ _ o5 .normal (uri_Decode_J0_0 p0 v4) .ret (uri_Decode_J0_1 p0 v4)) (And.intro ?_ (join2 (fun y6 hy => ?_) (fun y7 hy => ?_)))
    · have h := ho
      refine st_test h (fun hb h => ?_) (fun hb h => ?_)
      · refine st_call [sV p0, iV v5] t_uri_coded h (fun x8 hy => (uri_coded_ok p0 v5 x8 hy)) (fun x8 hy h => ?_)
        refine st_test h (fun hb h => ?_) (fun hb h => ?_)
        · exact JP2.b h (Le.tow 0 1 rfl (.cons rfl (.refl _) (.cons rfl (.refl _) (.nil))) (.refl _) rfl)
        · exact JP2.a h (Le.tow 0 1 rfl (.cons rfl (.refl _) (.cons rfl (.refl _) (.cons rfl (.refl _) (.cons rfl (.refl _) (.nil))))) (.refl _) rfl)
      · exact JP2.a h (Le.tow 0 1 rfl (.cons rfl (.refl _) (.cons rfl (.refl _) (.cons rfl (.refl _) (.cons rfl (.refl _) (.nil))))) (.refl _) rfl)
    · have h := (by rw [hy] at hk; exact hk)
      refine st_appo (a := v4) (b := [y6.2]) (c := (cNum .u8)) h (.refl _) (fun _ => rfl) rfl (fun x9 hi h => ?_)
      refine TL.le (τ := uri_Decode_L1_st p0 x9 (wr (y6.1 + 1))) ?_ ((ih_uri_Decode_L1 x9 (wr (y6.1 + 1)) _ h))
      exact Le.tow 0 1 rfl (.cons rfl (.refl _) (.cons rfl (.refl _) (.cons rfl (.refl _) (.nil)))) (.refl _) rfl
    · have h := (by rw [hy] at hk; exact hk)
      exact JP2.b h (Le.tow 0 0 rfl (.cons rfl (.refl _) (.cons rfl (.refl _) (.nil))) (.refl _) rfl)
  · exact JP2.a h (Le.tow 0 1 rfl (.cons rfl (.refl _) (.nil)) (.refl _) rfl)
theorem uri_Decode_L1_ok : ∀ (p0 : (List UInt8)) (v4 : (List Int)) (v5 : Int) (o1 : (List Int) ⊕ Unit), uri_Decode_L1 p0 v4 v5 = some o1 → TL (0, 0) Tryd.prog 37 uri_Decode_L1_c (JP2 (0, 0) 37 o1 (.exit 0) (uri_Decode_L1_x0 p0) .ret (uri_Decode_L1_x1 p0)) (uri_Decode_L1_st p0 v4 v5) := fun p0 v4 v5 o1 h => (uri_Decode_L1_grp p0) v4 v5 o1 h
noncomputable def uri_Decode (p0 : (List UInt8)) : Option ((List UInt8) × Int) :=
  (uri_Decode_L1 p0 [] 0) >>= fun o1 =>
  match o1 with
  | .inl y2 =>
    b2s y2 >>= fun x10 =>
    some (x10, 0)
  | .inr y3 =>
    some ([], 7)
set_option maxRecDepth 100000 in
set_option maxHeartbeats 4000000 in
theorem uri_Decode_ok : ∀ (p0 : (List UInt8)) (o : (List UInt8) × Int), uri_Decode p0 = some o → PCall Tryd.prog 23 [sV p0] (t_uri_Decode o) := by
  intro p0 o h
  unfold uri_Decode at h
  refine PCall.ofB mixed tbOk uri_Decode_lv Tryd.func23 rfl (by kernel_rfl) (Nat.le_of_ble_eq_true rfl) ?_
  refine st_bind h (fun o1 ho hk => ?_)
  refine Exists.intro (JP2 _ _ o1 (.exit 0) (uri_Decode_L1_x0 p0) .ret (uri_Decode_L1_x1 p0)) (And.intro (T_le (τ := uri_Decode_L1_st p0 [] 0) ?_ (TL.loop (uri_Decode_L1_ok p0 [] 0 o1 ho))) (join2 (fun y2 hy => ?_) (fun y3 hy => ?_)))
  · exact (Le.own 4 5 1 rfl sizeNil).trans (Le.tow 0 1 rfl (.cons rfl (.refl _) (.cons rfl (.refl _) (.cons rfl (.refl _) (.nil)))) (.refl _) rfl)
  · have h := (by rw [hy] at hk; exact hk)
    refine st_b2s (l := y2) h (fun x10 hi h => ?_)
    refine st_ret (t := t_uri_Decode) h ?_
    exact .refl _
  · have h := (by rw [hy] at hk; exact hk)
    refine st_ret (t := t_uri_Decode) h ?_
    exact .refl _
noncomputable def strings_Split (p0 : (List UInt8)) (p1 : (List UInt8)) : Option ((List (List UInt8))) :=
  need (p0.length < 4294967281) >>= fun _ =>
  need (1 ≤ p1.length) >>= fun _ =>
  some (Lib.split p0 p1)
set_option maxRecDepth 100000 in
set_option maxHeartbeats 4000000 in
theorem strings_Split_ok : ∀ (p0 : (List UInt8)) (p1 : (List UInt8)) (o : (List (List UInt8))), strings_Split p0 p1 = some o → PCall Tryd.prog 40 [sV p0, sV p1] (t_strings_Split o) := by
  intro p0 p1 o h
  unfold strings_Split at h
  obtain ⟨h1, h⟩ := need_some h
  obtain ⟨h2, h⟩ := need_some h
  cases h
  exact split_ok _ _ h1 h2
noncomputable def uri_Segments_L1 (x1 : (List (List UInt8))) (v4 : (List (List UInt8))) (v12 : Int) : Option ((List (List UInt8)) ⊕ Int) :=
  if (decide (v12 < (x1.length : Int))) then
    idx x1 v12 >>= fun x5 =>
    uri_Decode x5 >>= fun x6 =>
    if (x6.2 != 0) then
      some (.inr x6.2)
    else
      appL 16 v4 [x6.1] >>= fun x7 =>
      uri_Segments_L1 x1 x7 (wr (v12 + 1))
  else
    some (.inl v4)
  partial_fixpoint
set_option maxRecDepth 100000 in
set_option maxHeartbeats 4000000 in
theorem uri_Segments_L1_grp : ∀ (x1 : (List (List UInt8))), (∀ (v4 : (List (List UInt8))) (v12 : Int) (o2 : (List (List UInt8)) ⊕ Int), uri_Segments_L1 x1 v4 v12 = some o2 → TL (0, 0) Tryd.prog 30 uri_Segments_L1_c (JP2 (0, 0) 30 o2 (.exit 0) (uri_Segments_L1_x0 x1) .ret (uri_Segments_L1_x1 x1)) (uri_Segments_L1_st x1 v4 v12)) := by
  intro x1
  refine uri_Segments_L1.partial_correctness x1 _ ?_
  intro uri_Segments_L1' ih_uri_Segments_L1 v4 v12 o2 h
  refine TL.round (bwp_sound mixed tbOk (lv := uri_Segments_lv) _ _ _ ?_)
  refine st_test h (fun hb h => ?_) (fun hb h => ?_)
  · refine st_idx (l := x1) (c := cStr) (c' := cStr) h (fun _ => rfl) (fun _ => rfl) (by decide) (fun x5 hi h => ?_)
    refine st_call [sV x5] t_uri_Decode h (fun x6 hy => (uri_Decode_ok x5 x6 hy)) (fun x6 hy h => ?_)
    refine st_test h (fun hb h => ?_) (fun hb h => ?_)
    · exact JP2.b h (Le.tow 0 0 rfl (.cons rfl (.refl _) (.cons rfl (.refl _) (.nil))) (.refl _) rfl)
    · refine st_appo (a := v4) (b := [x6.1]) (c := cStr) h (.refl _) (fun _ => rfl) rfl (fun x7 hi h => ?_)
      refine TL.le (τ := uri_Segments_L1_st x1 x7 (wr (v12 + 1))) ?_ ((ih_uri_Segments_L1 x7 (wr (v12 + 1)) _ h))
      exact Le.tow 0 1 rfl (.cons rfl (.refl _) (.cons rfl (.refl _) (.cons rfl (.refl _) (.cons rfl (.refl _) (.nil))))) (.refl _) rfl
  · exact JP2.a h (Le.tow 0 1 rfl (.cons rfl (.refl _) (.nil)) (.refl _) rfl)
theorem uri_Segments_L1_ok : ∀ (x1 : (List (List UInt8))) (v4 : (List (List UInt8))) (v12 : Int) (o2 : (List (List UInt8)) ⊕ Int), uri_Segments_L1 x1 v4 v12 = some o2 → TL (0, 0) Tryd.prog 30 uri_Segments_L1_c (JP2 (0, 0) 30 o2 (.exit 0) (uri_Segments_L1_x0 x1) .ret (uri_Segments_L1_x1 x1)) (uri_Segments_L1_st x1 v4 v12) := fun x1 v4 v12 o2 h => (uri_Segments_L1_grp x1) v4 v12 o2 h
noncomputable def uri_Segments (p0 : (List UInt8)) : Option ((List (List UInt8)) × Int) :=
  strings_Split p0 [47] >>= fun x1 =>
  (uri_Segments_L1 x1 [] 0) >>= fun o2 =>
  match o2 with
  | .inl y3 =>
    some (y3, 0)
  | .inr y4 =>
    some ([], y4)
set_option maxRecDepth 100000 in
set_option maxHeartbeats 4000000 in
theorem uri_Segments_ok : ∀ (p0 : (List UInt8)) (o : (List (List UInt8)) × Int), uri_Segments p0 = some o → PCall Tryd.prog 19 [sV p0] (t_uri_Segments o) := by
  intro p0 o h
  unfold uri_Segments at h
  refine PCall.ofB mixed tbOk uri_Segments_lv Tryd.func19 rfl (by kernel_rfl) (Nat.le_of_ble_eq_true rfl) ?_
  refine st_call [sV p0, sV [47]] t_strings_Split h (fun x1 hy => (strings_Split_ok p0 [47] x1 hy)) (fun x1 hy h => ?_)
  refine view (lenMap _ _) rfl ?_
  refine st_bind h (fun o2 ho hk => ?_)
  refine Exists.intro (JP2 _ _ o2 (.exit 0) (uri_Segments_L1_x0 x1) .ret (uri_Segments_L1_x1 x1)) (And.intro (T_le (τ := uri_Segments_L1_st x1 [] 0) ?_ (TL.loop (uri_Segments_L1_ok x1 [] 0 o2 ho))) (join2 (fun y3 hy => ?_) (fun y4 hy => ?_)))
  · exact (Le.own 4 9 1 rfl sizeNil).trans (Le.tow 0 1 rfl (.cons rfl (.refl _) (.cons rfl (.refl _) (.cons rfl (.refl _) (.cons rfl (.refl _) (.nil))))) (.refl _) rfl)
  · have h := (by rw [hy] at hk; exact hk)
    refine st_ret (t := t_uri_Segments) h ?_
    exact .refl _
  · have h := (by rw [hy] at hk; exact hk)
    refine st_ret (t := t_uri_Segments) h ?_
    exact .tup (xs := [.sl true [], iV y4]) (ys := [.sl false [], iV y4]) (.cons (.not) (.cons (.refl _) (.nil)))
noncomputable def uri_Values_L1 (x1 : (List (List UInt8))) (v4 : (List api_Pair)) (v19 : Int) : Option ((List api_Pair) ⊕ Unit) :=
  if (decide (v19 < (x1.length : Int))) then
    idx x1 v19 >>= fun x5 =>
    strings_Cut x5 [61] >>= fun x6 =>
    uri_Decode x6.1 >>= fun x7 =>
    uri_Decode x6.2.1 >>= fun x8 =>
    ( if (x7.2 != 0) then
        some true
      else
        some (x8.2 != 0) : Option (Bool)) >>= fun o9 =>
    if o9 then
      some (.inr ())
    else
      appL 32 v4 [(api_Pair.mk x7.1 x8.1)] >>= fun x10 =>
      uri_Values_L1 x1 x10 (wr (v19 + 1))
  else
    some (.inl v4)
  partial_fixpoint
set_option maxRecDepth 100000 in
set_option maxHeartbeats 4000000 in
theorem uri_Values_L1_grp : ∀ (x1 : (List (List UInt8))), (∀ (v4 : (List api_Pair)) (v19 : Int) (o2 : (List api_Pair) ⊕ Unit), uri_Values_L1 x1 v4 v19 = some o2 → TL (0, 0) Tryd.prog 53 uri_Values_L1_c (JP2 (0, 0) 53 o2 (.exit 0) (uri_Values_L1_x0 x1) .ret (uri_Values_L1_x1 x1)) (uri_Values_L1_st x1 v4 v19)) := by
  intro x1
  refine uri_Values_L1.partial_correctness x1 _ ?_
  intro uri_Values_L1' ih_uri_Values_L1 v4 v19 o2 h
  refine TL.round (bwp_sound mixed tbOk (lv := uri_Values_lv) _ _ _ ?_)
  refine st_test h (fun hb h => ?_) (fun hb h => ?_)
  · refine st_idx (l := x1) (c := cStr) (c' := cStr) h (fun _ => rfl) (fun _ => rfl) (by decide) (fun x5 hi h => ?_)
    refine st_call [sV x5, sV [61]] t_strings_Cut h (fun x6 hy => (strings_Cut_ok x5 [61] x6 hy)) (fun x6 hy h => ?_)
    refine st_call [sV x6.1] t_uri_Decode h (fun x7 hy => (uri_Decode_ok x6.1 x7 hy)) (fun x7 hy h => ?_)
    refine st_call [sV x6.2.1] t_uri_Decode h (fun x8 hy => (uri_Decode_ok x6.2.1 x8 hy)) (fun x8 hy h => ?_)
    refine st_bind h (fun o9 ho hk => ?_)
    refine Exists.intro (JP1 _ _ o9 .normal (uri_Values_J0_0 x1 v4 v19 x7 x8)) (And.intro ?_ (join1 ?_))
    · have h := ho
      refine st_test h (fun hb h => ?_) (fun hb h => ?_)
      · exact JP1.a h (Le.tow 0 1 rfl (.cons rfl (.refl _) (.cons rfl (.refl _) (.cons rfl (.refl _) (.cons rfl (.refl _) (.cons rfl (.refl _) (.cons rfl (.refl _) (.cons rfl (.refl _) (.nil)))))))) (.refl _) rfl)
      · exact JP1.a h (Le.tow 0 1 rfl (.cons rfl (.refl _) (.cons rfl (.refl _) (.cons rfl (.refl _) (.cons rfl (.refl _) (.cons rfl (.refl _) (.cons rfl (.refl _) (.cons rfl (.refl _) (.nil)))))))) (.refl _) rfl)
    · have h := hk
      refine st_test h (fun hb h => ?_) (fun hb h => ?_)
      · exact JP2.b h (Le.tow 0 0 rfl (.cons rfl (.refl _) (.cons rfl (.refl _) (.nil))) (.refl _) rfl)
      · refine st_appo (a := v4) (b := [(api_Pair.mk x7.1 x8.1)]) (c := c_api_Pair) h (.refl _) (fun _ => rfl) rfl (fun x10 hi h => ?_)
        refine TL.le (τ := uri_Values_L1_st x1 x10 (wr (v19 + 1))) ?_ ((ih_uri_Values_L1 x10 (wr (v19 + 1)) _ h))
        exact Le.tow 0 1 rfl (.cons rfl (.refl _) (.cons rfl (.refl _) (.cons rfl (.refl _) (.cons rfl (.refl _) (.nil))))) (.refl _) rfl
  · exact JP2.a h (Le.tow 0 1 rfl (.cons rfl (.refl _) (.nil)) (.refl _) rfl)
theorem uri_Values_L1_ok : ∀ (x1 : (List (List UInt8))) (v4 : (List api_Pair)) (v19 : Int) (o2 : (List api_Pair) ⊕ Unit), uri_Values_L1 x1 v4 v19 = some o2 → TL (0, 0) Tryd.prog 53 uri_Values_L1_c (JP2 (0, 0) 53 o2 (.exit 0) (uri_Values_L1_x0 x1) .ret (uri_Values_L1_x1 x1)) (uri_Values_L1_st x1 v4 v19) := fun x1 v4 v19 o2 h => (uri_Values_L1_grp x1) v4 v19 o2 h
noncomputable def uri_Values (p0 : (List UInt8)) : Option ((List api_Pair) × Int) :=
  if (p0 == []) then
    some ([], 0)
  else
    strings_Split p0 [38] >>= fun x1 =>
    (uri_Values_L1 x1 [] 0) >>= fun o2 =>
    match o2 with
    | .inl y3 =>
      some (y3, 0)
    | .inr y4 =>
      some ([], 7)
set_option maxRecDepth 100000 in
set_option maxHeartbeats 4000000 in
theorem uri_Values_ok : ∀ (p0 : (List UInt8)) (o : (List api_Pair) × Int), uri_Values p0 = some o → PCall Tryd.prog 21 [sV p0] (t_uri_Values o) := by
  intro p0 o h
  unfold uri_Values at h
  refine PCall.ofB mixed tbOk uri_Values_lv Tryd.func21 rfl (by kernel_rfl) (Nat.le_of_ble_eq_true rfl) ?_
  refine st_test h (fun hb h => ?_) (fun hb h => ?_)
  · refine st_ret (t := t_uri_Values) h ?_
    exact .tup (xs := [.sl true [], iV 0]) (ys := [.sl false [], iV 0]) (.cons (.not) (.cons (.refl _) (.nil)))
  · refine st_call [sV p0, sV [38]] t_strings_Split h (fun x1 hy => (strings_Split_ok p0 [38] x1 hy)) (fun x1 hy h => ?_)
    refine view (lenMap _ _) rfl ?_
    refine st_bind h (fun o2 ho hk => ?_)
    refine Exists.intro (JP2 _ _ o2 (.exit 0) (uri_Values_L1_x0 x1) .ret (uri_Values_L1_x1 x1)) (And.intro (T_le (τ := uri_Values_L1_st x1 [] 0) ?_ (TL.loop (uri_Values_L1_ok x1 [] 0 o2 ho))) (join2 (fun y3 hy => ?_) (fun y4 hy => ?_)))
    · exact (Le.own 4 45 2 rfl sizeNil).trans (Le.tow 0 1 rfl (.cons rfl (.refl _) (.cons rfl (.refl _) (.cons rfl (.refl _) (.cons rfl (.refl _) (.nil))))) (.refl _) rfl)
    · have h := (by rw [hy] at hk; exact hk)
      refine st_ret (t := t_uri_Values) h ?_
      exact .refl _
    · have h := (by rw [hy] at hk; exact hk)
      refine st_ret (t := t_uri_Values) h ?_
      exact .tup (xs := [.sl true [], iV 7]) (ys := [.sl false [], iV 7]) (.cons (.not) (.cons (.refl _) (.nil)))
noncomputable def nunciolaw12_UriHolds (p0 : (List UInt8)) : Option (Bool) :=
  nunciolaw12_few p0 >>= fun x1 =>
  R08_Write x1 >>= fun x2 =>
  need ([104, 116, 116, 112, 115, 58, 47, 47, 104, 46, 101, 120, 97, 109, 112, 108, 101, 47, 97, 47].length + x2.length ≤ 9223372036854775807) >>= fun _ =>
  need (([104, 116, 116, 112, 115, 58, 47, 47, 104, 46, 101, 120, 97, 109, 112, 108, 101, 47, 97, 47] ++ x2).length + [47, 98, 63, 113, 61].length ≤ 9223372036854775807) >>= fun _ =>
  need ((([104, 116, 116, 112, 115, 58, 47, 47, 104, 46, 101, 120, 97, 109, 112, 108, 101, 47, 97, 47] ++ x2) ++ [47, 98, 63, 113, 61]).length + x2.length ≤ 9223372036854775807) >>= fun _ =>
  need (((([104, 116, 116, 112, 115, 58, 47, 47, 104, 46, 101, 120, 97, 109, 112, 108, 101, 47, 97, 47] ++ x2) ++ [47, 98, 63, 113, 61]) ++ x2).length + [38, 114, 61, 49, 35].length ≤ 9223372036854775807) >>= fun _ =>
  need ((((([104, 116, 116, 112, 115, 58, 47, 47, 104, 46, 101, 120, 97, 109, 112, 108, 101, 47, 97, 47] ++ x2) ++ [47, 98, 63, 113, 61]) ++ x2) ++ [38, 114, 61, 49, 35]).length + x2.length ≤ 9223372036854775807) >>= fun _ =>
  uri_Split ((((([104, 116, 116, 112, 115, 58, 47, 47, 104, 46, 101, 120, 97, 109, 112, 108, 101, 47, 97, 47] ++ x2) ++ [47, 98, 63, 113, 61]) ++ x2) ++ [38, 114, 61, 49, 35]) ++ x2) >>= fun x3 =>
  ( if (x3.2 != 0) then
      some true
    else
      if (!(x3.1.Scheme == [104, 116, 116, 112, 115])) then
        some true
      else
        if (!(x3.1.Host == [104, 46, 101, 120, 97, 109, 112, 108, 101])) then
          some true
        else
          if x3.1.HasUser then
            some true
          else
            if x3.1.HasPort then
              some true
            else
              if (!x3.1.HasQuery) then
                some true
              else
                some (!x3.1.HasFrag) : Option (Bool)) >>= fun o4 =>
  if o4 then
    some false
  else
    uri_Segments x3.1.Path >>= fun x5 =>
    uri_Values x3.1.Query >>= fun x6 =>
    uri_Decode x3.1.Frag >>= fun x7 =>
    ( if (x5.2 == 0) then
        if (x6.2 == 0) then
          if (x7.2 == 0) then
            R01_Same x5.1 ([[], [97], x1, [98]]) >>= fun x9 =>
            if x9 then
              R12_SamePairs x6.1 ([(api_Pair.mk [113] x1), (api_Pair.mk [114] [49])]) >>= fun x10 =>
              if x10 then
                if (x7.1 == x1) then
                  nunciolaw12_awake >>= fun x11 =>
                  some x11
                else
                  some false
              else
                some false
            else
              some false
          else
            some false
        else
          some false
      else
        some false : Option (Bool)) >>= fun o8 =>
    some o8
set_option maxRecDepth 100000 in
set_option maxHeartbeats 4000000 in
theorem nunciolaw12_UriHolds_ok : ∀ (p0 : (List UInt8)) (o : Bool), nunciolaw12_UriHolds p0 = some o → PCall Tryd.prog 7 [sV p0] (t_nunciolaw12_UriHolds o) := by
  intro p0 o h
  unfold nunciolaw12_UriHolds at h
  refine PCall.ofB mixed tbOk nunciolaw12_UriHolds_lv Tryd.func7 rfl (by kernel_rfl) (Nat.le_of_ble_eq_true rfl) ?_
  refine st_call [sV p0] t_nunciolaw12_few h (fun x1 hy => (nunciolaw12_few_ok p0 x1 hy)) (fun x1 hy h => ?_)
  refine st_call [sV x1] t_R08_Write h (fun x2 hy => (R08_Write_ok x1 x2 hy)) (fun x2 hy h => ?_)
  refine st_need h (fun h => ?_)
  refine st_need h (fun h => ?_)
  refine st_need h (fun h => ?_)
  refine st_need h (fun h => ?_)
  refine st_need h (fun h => ?_)
  refine st_call [sV ((((([104, 116, 116, 112, 115, 58, 47, 47, 104, 46, 101, 120, 97, 109, 112, 108, 101, 47, 97, 47] ++ x2) ++ [47, 98, 63, 113, 61]) ++ x2) ++ [38, 114, 61, 49, 35]) ++ x2)] t_uri_Split h (fun x3 hy => (uri_Split_ok ((((([104, 116, 116, 112, 115, 58, 47, 47, 104, 46, 101, 120, 97, 109, 112, 108, 101, 47, 97, 47] ++ x2) ++ [47, 98, 63, 113, 61]) ++ x2) ++ [38, 114, 61, 49, 35]) ++ x2) x3 hy)) (fun x3 hy h => ?_)
  refine st_bind h (fun o4 ho hk => ?_)
  refine Exists.intro (JP1 _ _ o4 .normal (nunciolaw12_UriHolds_J0_0 x1 x3)) (And.intro ?_ (join1 ?_))
  · have h := ho
    refine st_test h (fun hb h => ?_) (fun hb h => ?_)
    · refine bT ?_
      refine bT ?_
      refine bT ?_
      refine bT ?_
      refine bT ?_
      exact JP1.a h (Le.tow 1 0 rfl (.cons rfl (.refl _) (.cons rfl (.refl _) (.cons rfl (.refl _) (.nil)))) (.refl _) rfl)
    · refine st_test h (fun hb h => ?_) (fun hb h => ?_)
      · refine bT ?_
        refine bT ?_
        refine bT ?_
        refine bT ?_
        exact JP1.a h (Le.tow 1 0 rfl (.cons rfl (.refl _) (.cons rfl (.refl _) (.cons rfl (.refl _) (.nil)))) (.refl _) rfl)
      · refine st_test h (fun hb h => ?_) (fun hb h => ?_)
        · refine bT ?_
          refine bT ?_
          refine bT ?_
          exact JP1.a h (Le.tow 1 0 rfl (.cons rfl (.refl _) (.cons rfl (.refl _) (.cons rfl (.refl _) (.nil)))) (.refl _) rfl)
        · refine st_test h (fun hb h => ?_) (fun hb h => ?_)
          · refine bT ?_
            refine bT ?_
            exact JP1.a h (Le.tow 1 0 rfl (.cons rfl (.refl _) (.cons rfl (.refl _) (.cons rfl (.refl _) (.nil)))) (.refl _) rfl)
          · refine st_test h (fun hb h => ?_) (fun hb h => ?_)
            · refine bT ?_
              exact JP1.a h (Le.tow 1 0 rfl (.cons rfl (.refl _) (.cons rfl (.refl _) (.cons rfl (.refl _) (.nil)))) (.refl _) rfl)
            · refine st_test h (fun hb h => ?_) (fun hb h => ?_)
              · exact JP1.a h (Le.tow 1 0 rfl (.cons rfl (.refl _) (.cons rfl (.refl _) (.cons rfl (.refl _) (.nil)))) (.refl _) rfl)
              · exact JP1.a h (Le.tow 1 0 rfl (.cons rfl (.refl _) (.cons rfl (.refl _) (.cons rfl (.refl _) (.nil)))) (.refl _) rfl)
  · have h := hk
    refine st_test h (fun hb h => ?_) (fun hb h => ?_)
    · refine st_ret (t := t_nunciolaw12_UriHolds) h ?_
      exact .refl _
    · refine st_call [sV x3.1.Path] t_uri_Segments h (fun x5 hy => (uri_Segments_ok x3.1.Path x5 hy)) (fun x5 hy h => ?_)
      refine st_call [sV x3.1.Query] t_uri_Values h (fun x6 hy => (uri_Values_ok x3.1.Query x6 hy)) (fun x6 hy h => ?_)
      refine st_call [sV x3.1.Frag] t_uri_Decode h (fun x7 hy => (uri_Decode_ok x3.1.Frag x7 hy)) (fun x7 hy h => ?_)
      refine st_bind h (fun o8 ho hk => ?_)
      refine Exists.intro (JP1 _ _ o8 .normal (nunciolaw12_UriHolds_J1_0 x3)) (And.intro ?_ (join1 ?_))
      · have h := ho
        refine st_test h (fun hb h => ?_) (fun hb h => ?_)
        · refine st_test h (fun hb h => ?_) (fun hb h => ?_)
          · refine st_test h (fun hb h => ?_) (fun hb h => ?_)
            · refine st_call [.sl false (x5.1.map cStr), .sl true [[sV []], [sV [97]], [sV x1], [sV [98]]]] t_R01_Same h (fun x9 hy => (R01_Same_ok x5.1 ([[], [97], x1, [98]]) x9 hy).weak (.cons (.refl _) (.cons (.not) (.nil)))) (fun x9 hy h => ?_)
              refine st_test h (fun hb h => ?_) (fun hb h => ?_)
              · refine st_call [.sl false (x6.1.map c_api_Pair), .sl true [[sV [113], sV x1], [sV [114], sV [49]]]] t_R12_SamePairs h (fun x10 hy => (R12_SamePairs_ok x6.1 ([(api_Pair.mk [113] x1), (api_Pair.mk [114] [49])]) x10 hy).weak (.cons (.refl _) (.cons (.not) (.nil)))) (fun x10 hy h => ?_)
                refine st_test h (fun hb h => ?_) (fun hb h => ?_)
                · refine st_test h (fun hb h => ?_) (fun hb h => ?_)
                  · refine st_call [] t_nunciolaw12_awake h (fun x11 hy => (nunciolaw12_awake_ok x11 hy)) (fun x11 hy h => ?_)
                    exact JP1.a h (Le.tow 1 0 rfl (.cons rfl (.refl _) (.nil)) (.refl _) rfl)
                  · exact JP1.a h (Le.tow 1 0 rfl (.cons rfl (.refl _) (.nil)) (.refl _) rfl)
                · refine bF ?_
                  exact JP1.a h (Le.tow 1 0 rfl (.cons rfl (.refl _) (.nil)) (.refl _) rfl)
              · refine bF ?_
                refine bF ?_
                exact JP1.a h (Le.tow 1 0 rfl (.cons rfl (.refl _) (.nil)) (.refl _) rfl)
            · refine bF ?_
              refine bF ?_
              refine bF ?_
              exact JP1.a h (Le.tow 1 0 rfl (.cons rfl (.refl _) (.nil)) (.refl _) rfl)
          · refine bF ?_
            refine bF ?_
            refine bF ?_
            refine bF ?_
            exact JP1.a h (Le.tow 1 0 rfl (.cons rfl (.refl _) (.nil)) (.refl _) rfl)
        · refine bF ?_
          refine bF ?_
          refine bF ?_
          refine bF ?_
          refine bF ?_
          exact JP1.a h (Le.tow 1 0 rfl (.cons rfl (.refl _) (.nil)) (.refl _) rfl)
      · have h := hk
        refine st_ret (t := t_nunciolaw12_UriHolds) h ?_
        exact .refl _
end Go.Proofs.YtlhjieapkcnghaaDoor
end

section
namespace Go.Proofs.YtlhjieapkcnghaaDoor
open Go.RowKit

abbrev mx : Nat := 9223372036854775807
@[simp] theorem idx_nat {α : Type} (l : List α) (i : Nat) : idx l (i : Int) = l[i]? := by
  unfold idx
  rw [if_pos (by omega)]
  rfl
@[simp] theorem idx_0 {α : Type} (l : List α) : idx l 0 = l[0]? := idx_nat l 0
@[simp] theorem idx_1 {α : Type} (l : List α) : idx l 1 = l[1]? := idx_nat l 1
@[simp] theorem bind_some' {α β : Type} (x : α) (f : α → Option β) : (some x >>= f) = f x := rfl
theorem wr_in {n : Int} (h1 : -9223372036854775808 ≤ n) (h2 : n ≤ 9223372036854775807) : wr n = n := w64 h1 h2
theorem wr_succ {i : Nat} (h : i < 9223372036854775807) : wr ((i : Int) + 1) = ((i + 1 : Nat) : Int) := by rw [wr_in (by omega) (by omega)]; rfl
theorem appL_ok {α : Type} {bytes : Nat} {a b : List α} (h : (a.length + b.length) * bytes ≤ 140737488355328) (h2 : a.length + b.length ≤ 9223372036854775807) : appL bytes a b = some (a ++ b) := by
  unfold appL; rw [if_pos ⟨h, h2⟩]
theorem cutL_ok {α : Type} {l : List α} {lo hi : Int} (h1 : 0 ≤ lo) (h2 : lo ≤ hi) (h3 : hi ≤ l.length) : cutL l lo hi = some ((l.take hi.toNat).drop lo.toNat) := by
  unfold cutL; rw [if_pos ⟨h1, h2, h3⟩]
theorem need_ok {p : Prop} [Decidable p] (h : p) : need p = some () := by unfold need; rw [if_pos h]
theorem getE {α : Type} {l : List α} {i : Nat} (h : i < l.length) : l[i]? = some l[i] := List.getElem?_eq_getElem h
theorem ltI (a b : Nat) : decide ((a : Int) < (b : Int)) = decide (a < b) := by
  congr 1; exact propext Int.ofNat_lt
/-- A loop over a list's places: what holds of the tail from i on. -/
theorem upto {α : Type} {l : List α} {φ : Nat → Prop} (h0 : φ l.length) (h : ∀ i, i < l.length → φ (i + 1) → φ i) : ∀ i, i ≤ l.length → φ i := by
  have key : ∀ n i, l.length - i = n → i ≤ l.length → φ i := by
    intro n
    induction n with
    | zero => intro i h1 h2; have : i = l.length := by omega
              subst this; exact h0
    | succ n ih => intro i h1 h2; exact h i (by omega) (ih (i + 1) (by omega) (by omega))
  exact fun i hi => key _ i rfl hi
theorem dropE {α : Type} {l : List α} {i : Nat} (h : i < l.length) : l.drop i = l[i] :: l.drop (i + 1) := List.drop_eq_getElem_cons h
end Go.Proofs.YtlhjieapkcnghaaDoor
end

section
namespace Go.Proofs.YtlhjieapkcnghaaDoor
open Go.RowKit

def letB (c : UInt8) : Bool := (decide (97 ≤ c.toNat) && decide (c.toNat ≤ 122)) || (decide (65 ≤ c.toNat) && decide (c.toNat ≤ 90))
def digB (c : UInt8) : Bool := decide (48 ≤ c.toNat) && decide (c.toNat ≤ 57)
def hexB (c : UInt8) : Bool := digB c || (decide (97 ≤ c.toNat) && decide (c.toNat ≤ 102)) || (decide (65 ≤ c.toNat) && decide (c.toNat ≤ 70))
theorem eachB {p : UInt8 → Prop} (h : ∀ n : Fin 256, p (UInt8.ofNat n.1)) (c : UInt8) : p c := by
  have := h ⟨c.toNat, c.toNat_lt⟩
  simpa using this
theorem letE : ∀ c : UInt8, uri_letter (c.toNat : Int) = some (letB c) := eachB (by decide +kernel)
theorem digE : ∀ c : UInt8, uri_digit (c.toNat : Int) = some (digB c) := eachB (by decide +kernel)
theorem worthE : ∀ c : UInt8, (uri_worth (c.toNat : Int)).map (·.2) = some (hexB c) := eachB (by decide +kernel)
theorem idxB (l : List UInt8) (c : UInt8) : strings_IndexByte l (c.toNat : Int) = some (Lib.indexByte l c) := by
  rw [strings_IndexByte, internal_stringslite_IndexByte]
  simp
/-- What may stand in a part: free bytes, and some more. -/
def takesB (more : List UInt8) (c : UInt8) : Bool := letB c || digB c || decide (Lib.indexByte [45, 46, 95, 126, 33, 36, 38, 39, 40, 41, 42, 43, 44, 59, 61] c ≥ 0) || decide (Lib.indexByte more c ≥ 0)
theorem takesE (more : List UInt8) (c : UInt8) : uri_with_1 (c.toNat : Int) more = some (takesB more c) := by
  rw [uri_with_1, letE, digE, idxB, idxB]
  unfold takesB
  cases letB c <;> cases digB c <;> simp only [bind_some', if_true, if_false, Bool.false_eq_true, Bool.true_or, Bool.false_or, Bool.or_true]
  cases decide (Lib.indexByte [45, 46, 95, 126, 33, 36, 38, 39, 40, 41, 42, 43, 44, 59, 61] c ≥ 0) <;> rfl
def fitsP (more : List UInt8) : List UInt8 → Bool
  | [] => true
  | c :: t => if c == 37 then (match t with
    | a :: b :: r => hexB a && hexB b && fitsP more r
    | _ => false) else takesB more c && fitsP more t
theorem fitsP_cons (more : List UInt8) (c : UInt8) (t : List UInt8) : fitsP more (c :: t) = if (c == 37) = true then (match t with
    | a :: b :: r => hexB a && hexB b && fitsP more r
    | _ => false) else (takesB more c && fitsP more t) := by
  cases t with
  | nil => simp [fitsP]
  | cons a t => cases t with
    | nil => simp [fitsP]
    | cons b r => simp [fitsP]
theorem chr37 (c : UInt8) : ((c.toNat : Int) == 37) = (c == 37) := by
  revert c
  exact eachB (by decide +kernel)
theorem codedE (l : List UInt8) (k : Nat) (hk : k < l.length) (hl : l.length ≤ 1000000000) : ∃ v, uri_coded l (k : Int) = some (v, match l.drop (k + 1) with
    | a :: b :: _ => hexB a && hexB b
    | _ => false) := by
  have e1 : wr ((l.length : Int) - k) = ((l.length - k : Nat) : Int) := by rw [wr_in (by omega) (by omega)]; omega
  have e2 : wr ((k : Int) + 1) = ((k + 1 : Nat) : Int) := by rw [wr_in (by omega) (by omega)]; rfl
  have e3 : wr ((k : Int) + 2) = ((k + 2 : Nat) : Int) := by rw [wr_in (by omega) (by omega)]; rfl
  rw [uri_coded, e1, e2, e3]
  by_cases h : l.length - k < 3
  · rw [decide_eq_true (by omega : ((l.length - k : Nat) : Int) < 3), if_pos rfl]
    have hd : (l.drop (k + 1)).length < 2 := by rw [List.length_drop]; omega
    refine ⟨0, ?_⟩
    cases hx : l.drop (k + 1) with
    | nil => rfl
    | cons a t =>
      cases t with
      | nil => rfl
      | cons b r => rw [hx] at hd; simp at hd; omega
  · have h1 : k + 1 < l.length := by omega
    have h2 : k + 2 < l.length := by omega
    rw [decide_eq_false (by omega : ¬ ((l.length - k : Nat) : Int) < 3), if_neg (by simp)]
    simp only [idx_nat, getE h1, getE h2, bind_some']
    obtain ⟨⟨v1, b1⟩, w1, w2⟩ := Option.map_eq_some_iff.1 (worthE l[k + 1])
    obtain ⟨⟨v2, b2⟩, w3, w4⟩ := Option.map_eq_some_iff.1 (worthE l[k + 2])
    simp only at w2 w4
    rw [w1, w3, dropE h1, dropE h2]
    simp only [bind_some', ← w2, ← w4]
    cases b1 <;> exact ⟨_, rfl⟩
theorem fitsL (l more : List UInt8) (hl : l.length ≤ 1000000000) : ∀ n k, k + n = l.length → uri_fits_uri_with_1_L1 l more (k : Int) = some (if fitsP more (l.drop k) then .inl () else .inr ()) := by
  intro n
  induction n using Nat.strongRecOn with
  | ind n ih =>
    intro k hn
    rw [uri_fits_uri_with_1_L1, ltI]
    by_cases hk : k < l.length
    · obtain ⟨v, hv⟩ := codedE l k hk hl
      have e1 : wr (wr ((k : Int) + 2) + 1) = ((k + 3 : Nat) : Int) := by rw [wr_in (n := (k : Int) + 2) (by omega) (by omega), wr_in (by omega) (by omega)]; omega
      rw [decide_eq_true hk, if_pos rfl, idx_nat, getE hk, dropE hk, e1, wr_succ (by omega)]
      simp only [bind_some', chr37, takesE, hv]
      rw [fitsP_cons]
      by_cases h37 : (l[k] == 37) = true
      · rw [if_pos h37, if_pos h37]
        cases hx : l.drop (k + 1) with
        | nil => rfl
        | cons a t =>
          cases t with
          | nil => rfl
          | cons b r =>
            have hlen : k + 3 ≤ l.length := by have := congrArg List.length hx; simp at this; omega
            have hr : r = l.drop (k + 3) := by
              have := congrArg (List.drop 2) hx
              rw [List.drop_drop] at this
              simpa using this.symm
            simp only
            by_cases hab : (hexB a && hexB b) = true
            · simp only [hab, Bool.not_true, Bool.false_eq_true, if_false, Bool.true_and]
              rw [ih (n - 3) (by omega) (k + 3) (by omega), hr]
            · simp only [Bool.eq_false_iff.2 hab, Bool.not_false, if_true, Bool.false_and, Bool.false_eq_true, if_false]
      · rw [if_neg h37, if_neg h37]
        cases ht : takesB more l[k] with
        | false => rfl
        | true =>
          simp only [Bool.not_true, Bool.false_eq_true, if_false, Bool.true_and]
          exact ih (n - 1) (by omega) (k + 1) (by omega)
    · rw [decide_eq_false hk, if_neg (by simp), List.drop_eq_nil_of_le (by omega)]
      rfl
theorem fitsE (l more : List UInt8) (hl : l.length ≤ 1000000000) : uri_fits_uri_with_1 l more = some (fitsP more l) := by
  have := fitsL l more hl l.length 0 (by omega)
  rw [List.drop_zero] at this
  rw [uri_fits_uri_with_1]
  show (uri_fits_uri_with_1_L1 l more ((0 : Nat) : Int) >>= _) = _
  rw [this]
  cases fitsP more l <;> rfl
def schB (i : Nat) (c : UInt8) : Bool := letB c || (decide (0 < i) && (digB c || decide (Lib.indexByte [43, 45, 46] c ≥ 0)))
def schP : List UInt8 → Nat → Bool
  | [], _ => true
  | c :: t, i => schB i c && schP t (i + 1)
theorem schL (a0 a1 a2 a3 a4 a5 a6 a7 : List UInt8) (b0 b1 b2 b3 b4 : Bool) (l : List UInt8) (hl : l.length ≤ 1000000000) : ∀ k, k ≤ l.length → uri_reader_scheme_L1 a0 a1 a2 a3 a4 a5 a6 a7 b0 b1 b2 b3 b4 (l.length : Int) l (k : Int) = some (if schP (l.drop k) k then .inl () else .inr ()) := by
  refine upto ?_ fun k hk ih => ?_
  · rw [uri_reader_scheme_L1]; simp [schP]
  · rw [uri_reader_scheme_L1, ltI, decide_eq_true hk, wr_succ (by omega), dropE hk, schP, ih]
    simp only [if_true, idx_nat, getE hk, bind_some', letE, digE, idxB]
    have e0 : ((k : Int) == 0) = decide (k = 0) := by
      by_cases h : k = 0
      · subst h; rfl
      · rw [decide_eq_false h]; exact beq_eq_false_iff_ne.2 (by omega)
    have e1 : decide (0 < k) = !decide (k = 0) := by
      by_cases h : k = 0
      · subst h; rfl
      · rw [decide_eq_false h, decide_eq_true (by omega)]; rfl
    have e2 : decide (Lib.indexByte [43, 45, 46] l[k] < 0) = !decide (Lib.indexByte [43, 45, 46] l[k] ≥ 0) := by
      by_cases h : Lib.indexByte [43, 45, 46] l[k] < 0
      · rw [decide_eq_true h, decide_eq_false (by omega)]; rfl
      · rw [decide_eq_false h, decide_eq_true (by omega)]; rfl
    rw [e0, e2]
    unfold schB
    rw [e1]
    cases letB l[k] <;> cases decide (k = 0) <;> cases digB l[k] <;> cases decide (Lib.indexByte [43, 45, 46] l[k] ≥ 0) <;> rfl
theorem digL (a b c : List UInt8) (d : List UInt8) (e f : Bool) (x3 : List UInt8 × List UInt8) (o4 x6 : List UInt8 × List UInt8 × Bool) (hl : x6.2.1.length ≤ 1000000000) : ∀ k, k ≤ x6.2.1.length →
    uri_reader_authority_L1 a b c d e f x3 o4 x6 (k : Int) = some (if (x6.2.1.drop k).all digB then .inl () else .inr ()) := by
  refine upto ?_ fun k hk ih => ?_
  · rw [uri_reader_authority_L1]; simp
  · rw [uri_reader_authority_L1, ltI, decide_eq_true hk, wr_succ (by omega), dropE hk, List.all_cons, ih]
    simp only [if_true, idx_nat, getE hk, bind_some', digE]
    cases digB x6.2.1[k] <;> rfl
end Go.Proofs.YtlhjieapkcnghaaDoor
end

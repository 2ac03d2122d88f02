/-
 DERIVED: THE SHELF's CONTRACTS AT THIS DUMP, IN PLAIN WORDS (tools/lay-plain.mjs out of 'TryzShelf.lean', which tools/lay-shelf.mjs wrote): THE SAME DECLARATIONS UNDER THE SAME NAMES: 'import', 'namespace', 'open', 'def', 'theorem' AND NOTHING ELSE: no command of the shelf's: FOR A HAND-IN. Each laying: the table of numbers ('.._ren') and one theorem, a field a fact of the dump's own or the kernel's comparison; each contract: ONE APPLICATION.
-/
import Derived.Shelf.Strings.Builder1
import Derived.Shelf.Strings.Builder2
import Derived.Shelf.Strings.OnBuilder
import Derived.Shelf.Strings.Trim
import Derived.Shelf.Small.Utf8
import Derived.Shelf.Small.Bits
import Derived.Shelf.Small.Strs
import Derived.Shelf.Small.Wraps
import Derived.Shelf.Strings.Builder2Cap
import Derived.Shelf.Strconv.Atoi
import Derived.Shelf.Strconv.Itoa0
import Derived.Shelf.Strconv.Itoa1
import Derived.Shelf.LaysM
import Derived.Shelf.Strconv.Itoa2
import Derived.Shelf.Strconv.Itoa3
import Derived.Shelf.Strconv.AtoiErrFast
import Derived.Shelf.Strconv.ParseIntEmpty
import Derived.Shelf.Strconv.AtoiFail
import Derived.Shelf.Strconv.Clone
import Derived.Shelf.Strconv.SyntaxError
import Derived.Shelf.LaysC
import Derived.Shelf.Strconv.ToError
import Derived.Shelf.Strconv.Lower
import Derived.Shelf.Strconv.ParseUint10
import Derived.Shelf.Strconv.ParseUint10Empty
import Derived.Shelf.Strconv.ParseUint10Any
import Derived.Shelf.Strconv.ParseInt10
import Derived.Shelf.Strconv.AtoiLong
import Derived.Shelf.Strconv.AtoiInnerAll
import Derived.Shelf.Strconv.RangeError
import Derived.Shelf.Strconv.ToErrorRange
import Derived.Shelf.Strconv.AtoiAll
import Derived.Shelf.Strconv.ParseUintEmpty
import Derived.Shelf.Strconv.ParseUint10b64
import Derived.Shelf.Strconv.ParseUint10b32
import Derived.Shelf.Strconv.ParseUint10b16
import Derived.Shelf.Strconv.ParseUint10b8
import Derived.Shelf.Strconv.ParseUint10At
import Derived.Shelf.Strconv.ParseInt10At64
import Derived.Shelf.Strconv.ParseInt10At32
import Derived.Shelf.Strconv.ParseInt10At16
import Derived.Shelf.Strconv.ParseInt10At8
import Derived.Shelf.Strconv.ParseInt10All
import Derived.Shelf.Strings.Search1
import Derived.Shelf.Strings.Search2
import Derived.Shelf.Strings.Search3
import Derived.Shelf.Strings.Count
import Derived.Shelf.Strings.Shaped
import Derived.Shelf.Sort.Plain
import Derived.Ground.GgsProg
import Derived.Shelf.GgSortFunc.Insertion
import Derived.Shelf.GgSortFunc.Small
import Derived.Shelf.GgSortFunc.InsertionK
import Derived.Shelf.GgSortFunc.SmallK
import Derived.Shelf.GgSortFunc.Tiny
import Derived.Shelf.GgSortFunc.Compose
import Derived.Shelf.GgSortFunc.LotD
import Derived.Shelf.Strings.Prefix
import Derived.Shelf.Strings.Split
import Derived.Shelf.Strings.SplitShaped
import Derived.Shelf.Strings.Runes
import Derived.Shelf.Strings.AsciiSet
import Derived.Shelf.Unicode.DecodeSlow
import Derived.Ground.Names2Prog
import Derived.Shelf.Slices.SearchI
import Derived.Shelf.Slices.In.SortNone
import Derived.Shelf.Slices.In.SortNone2
import Derived.Shelf.SlSortFunc.Xorshift
import Derived.Shelf.SlSortFuncK.ComposeK
import Derived.Shelf.SlSortFuncK.SiftDownK
import Derived.Shelf.SlSortFuncK.HeapSortK
import Derived.Shelf.SlSortFuncK.PartialInsertionK
import Derived.Shelf.SlSortFuncK.LotDK
import Derived.Shelf.SlSortFuncK.PivotK
import Derived.Shelf.SlSortFuncK.PartitionK
import Derived.Shelf.SlSortFuncK.PdqK
import Derived.Shelf.SlSortFuncK.WholeK
import Derived.Test.YtflhpmgjehjjkaaGreatDoorProg
namespace Go.Proofs
open Go.Shelf
def Tryz.lays156_ren : Go.Shelf.Ren := ⟨fun | 156 => 93 | 165 => 138 | 166 => 139 | 169 => 140 | 240 => 178 | 241 => 179 | 276 => 245 | 277 => 246 | n => n, fun | 31 => 114 | 9 => 9 | 3 => 3 | 4 => 4 | 0 => 0 | 20 => 20 | 72 => 233 | 76 => 215 | 70 => 230 | 37 => 231 | 75 => 31 | 127 => 288 | 164 => 191 | 5 => 5 | 80 => 234 | n => n, fun | n => n⟩
theorem Tryz.lays156 : Go.Proofs.Lays.n156 Tryz.prog Tryz.lays156_ren := {
 mixed := by kernel_rfl
 f156 := Tryz.func93.trans (congrArg some (by kernel_rfl))
 f165 := Tryz.func138.trans (congrArg some (by kernel_rfl))
 f166 := Tryz.func139.trans (congrArg some (by kernel_rfl))
 f169 := Tryz.func140.trans (congrArg some (by kernel_rfl))
 f240 := Tryz.func178.trans (congrArg some (by kernel_rfl))
 f241 := Tryz.func179.trans (congrArg some (by kernel_rfl))
 f276 := Tryz.func245.trans (congrArg some (by kernel_rfl))
 f277 := Tryz.func246.trans (congrArg some (by kernel_rfl))
 t0 := Tryz.underlying0
 a0 := Tryz.isAgg0
 z0 := Tryz.sizeOf0
 v0 := Tryz.zeroValue0
 t3 := Tryz.underlying3
 a3 := Tryz.isAgg3
 z3 := Tryz.sizeOf3
 v3 := Tryz.zeroValue3
 t4 := Tryz.underlying4
 a4 := Tryz.isAgg4
 z4 := Tryz.sizeOf4
 v4 := Tryz.zeroValue4
 t9 := Tryz.underlying9
 a9 := Tryz.isAgg9
 z9 := Tryz.sizeOf9
 v9 := Tryz.zeroValue9
 t20 := Tryz.underlying20
 a20 := Tryz.isAgg20
 z20 := Tryz.sizeOf20
 v20 := Tryz.zeroValue20
 t31 := Tryz.underlying114
 a31 := Tryz.isAgg114
 z31 := Tryz.sizeOf114
 v31 := Tryz.zeroValue114
 t37 := Tryz.underlying231
 a37 := Tryz.isAgg231
 z37 := Tryz.sizeOf231
 v37 := Tryz.zeroValue231
 t70 := Tryz.underlying230
 a70 := Tryz.isAgg230
 z70 := Tryz.sizeOf230
 v70 := Tryz.zeroValue230
 t72 := Tryz.underlying233
 a72 := Tryz.isAgg233
 z72 := Tryz.sizeOf233
 v72 := Tryz.zeroValue233
 t75 := Tryz.underlying31
 a75 := Tryz.isAgg31
 z75 := Tryz.sizeOf31
 v75 := Tryz.zeroValue31
 t76 := Tryz.underlying215
 a76 := Tryz.isAgg215
 z76 := Tryz.sizeOf215
 v76 := Tryz.zeroValue215
 t127 := Tryz.underlying288
 a127 := Tryz.isAgg288
 z127 := Tryz.sizeOf288
 v127 := Tryz.zeroValue288
 t164 := Tryz.underlying191
 a164 := Tryz.isAgg191
 z164 := Tryz.sizeOf191
 v164 := Tryz.zeroValue191 }
theorem Tryz.Builder_Extra_156 : Builder.Extra Tryz.prog Tryz.lays156_ren := {
 sizeBuilder := by kernel_rfl
 liesBuilder := by kernel_rfl
 t5 := Tryz.underlying5
 a5 := Tryz.isAgg5
 z5 := Tryz.sizeOf5
 v5 := Tryz.zeroValue5
 infoByte := by kernel_rfl
 cellsByte := by kernel_rfl
 sizeByte := by kernel_rfl
 neB5 := by decide }
open Go.RowKit in
theorem Tryz.strings_Join_none (a : Option Addr) (c : Nat) (sep : ByteArray) (w : World) :
  Calls Tryz.prog 93 #[.slice a 0 c, .string sep] w fun e w' => e = .returned (.string ⟨#[]⟩) /\ w' = w := Any.strings_Join_none Tryz.lays156 Tryz.Builder_Extra_156 a c sep w
open Go.RowKit in
theorem Tryz.strings_Join (bk o c : Nat) (xs : List ByteArray) (sep : ByteArray) (w : World) (hcells : ∀ (j : Nat) x, xs[j]? = some x -> w.cell? ⟨bk, o + j, none⟩ = some (.string x)) (hbk : bk < w.heap.size) (hN : xs.length <= 140737488355328) (hcap : xs.length <= c) (hlen : (Lib.join (xs.map (·.data.toList)) sep.data.toList).length <= 140737488355328) :
  Calls Tryz.prog 93 #[.slice (some ⟨bk, o, none⟩) xs.length c, .string sep] w fun e w' => e = .returned (.string ⟨(Lib.join (xs.map (·.data.toList)) sep.data.toList).toArray⟩) /\ Below w.heap.size w w' := Any.strings_Join Tryz.lays156 Tryz.Builder_Extra_156 bk o c xs sep w hcells hbk hN hcap hlen
def Tryz.lays160_ren : Go.Shelf.Ren := ⟨fun | 160 => 171 | 232 => 225 | 231 => 224 | 227 => 226 | 234 => 228 | 233 => 227 | 236 => 230 | 235 => 229 | 228 => 270 | 271 => 272 | 151 => 271 | 197 => 263 | 120 => 299 | 152 => 298 | 260 => 291 | 137 => 309 | 119 => 310 | 224 => 294 | 225 => 293 | 217 => 292 | 266 => 307 | n => n, fun | 9 => 9 | 4 => 4 | 3 => 3 | 5 => 5 | 117 => 322 | 116 => 321 | 0 => 0 | 124 => 325 | 21 => 21 | 105 => 350 | 46 => 127 | 119 => 382 | 139 => 385 | 138 => 384 | n => n, fun | 3 => 5 | 4 => 6 | n => n⟩
theorem Tryz.lays160 : Go.Proofs.Lays.n160 Tryz.prog Tryz.lays160_ren := {
 mixed := by kernel_rfl
 f119 := Tryz.func310.trans (congrArg some (by kernel_rfl))
 f120 := Tryz.func299.trans (congrArg some (by kernel_rfl))
 f137 := Tryz.func309.trans (congrArg some (by kernel_rfl))
 f151 := Tryz.func271.trans (congrArg some (by kernel_rfl))
 f152 := Tryz.func298.trans (congrArg some (by kernel_rfl))
 f160 := Tryz.func171.trans (congrArg some (by kernel_rfl))
 f197 := Tryz.func263.trans (congrArg some (by kernel_rfl))
 f217 := Tryz.func292.trans (congrArg some (by kernel_rfl))
 f224 := Tryz.func294.trans (congrArg some (by kernel_rfl))
 f225 := Tryz.func293.trans (congrArg some (by kernel_rfl))
 f227 := Tryz.func226.trans (congrArg some (by kernel_rfl))
 f228 := Tryz.func270.trans (congrArg some (by kernel_rfl))
 f231 := Tryz.func224.trans (congrArg some (by kernel_rfl))
 f232 := Tryz.func225.trans (congrArg some (by kernel_rfl))
 f233 := Tryz.func227.trans (congrArg some (by kernel_rfl))
 f234 := Tryz.func228.trans (congrArg some (by kernel_rfl))
 f235 := Tryz.func229.trans (congrArg some (by kernel_rfl))
 f236 := Tryz.func230.trans (congrArg some (by kernel_rfl))
 f260 := Tryz.func291.trans (congrArg some (by kernel_rfl))
 f266 := Tryz.func307.trans (congrArg some (by kernel_rfl))
 f271 := Tryz.func272.trans (congrArg some (by kernel_rfl))
 t0 := Tryz.underlying0
 a0 := Tryz.isAgg0
 z0 := Tryz.sizeOf0
 v0 := Tryz.zeroValue0
 t3 := Tryz.underlying3
 a3 := Tryz.isAgg3
 z3 := Tryz.sizeOf3
 v3 := Tryz.zeroValue3
 t4 := Tryz.underlying4
 a4 := Tryz.isAgg4
 z4 := Tryz.sizeOf4
 v4 := Tryz.zeroValue4
 t5 := Tryz.underlying5
 a5 := Tryz.isAgg5
 z5 := Tryz.sizeOf5
 v5 := Tryz.zeroValue5
 t9 := Tryz.underlying9
 a9 := Tryz.isAgg9
 z9 := Tryz.sizeOf9
 v9 := Tryz.zeroValue9
 t21 := Tryz.underlying21
 a21 := Tryz.isAgg21
 z21 := Tryz.sizeOf21
 v21 := Tryz.zeroValue21
 t46 := Tryz.underlying127
 a46 := Tryz.isAgg127
 z46 := Tryz.sizeOf127
 v46 := Tryz.zeroValue127
 t105 := Tryz.underlying350
 a105 := Tryz.isAgg350
 z105 := Tryz.sizeOf350
 v105 := Tryz.zeroValue350
 t116 := Tryz.underlying321
 a116 := Tryz.isAgg321
 z116 := Tryz.sizeOf321
 t117 := Tryz.underlying322
 a117 := Tryz.isAgg322
 z117 := Tryz.sizeOf322
 v117 := Tryz.zeroValue322
 t119 := Tryz.underlying382
 a119 := Tryz.isAgg382
 z119 := Tryz.sizeOf382
 t124 := Tryz.underlying325
 a124 := Tryz.isAgg325
 z124 := Tryz.sizeOf325
 v124 := Tryz.zeroValue325
 t138 := Tryz.underlying384
 a138 := Tryz.isAgg384
 z138 := Tryz.sizeOf384
 v138 := Tryz.zeroValue384
 t139 := Tryz.underlying385
 a139 := Tryz.isAgg385
 z139 := Tryz.sizeOf385
 v139 := Tryz.zeroValue385
 g3 := by kernel_rfl
 g4 := by kernel_rfl }
def Tryz.lays103_ren : Go.Shelf.Ren := ⟨fun | 103 => 122 | 210 => 167 | 206 => 217 | n => n, fun | 9 => 9 | 4 => 4 | 24 => 125 | 3 => 3 | n => n, fun | n => n⟩
theorem Tryz.lays103 : Go.Proofs.Lays.n103 Tryz.prog Tryz.lays103_ren := {
 mixed := by kernel_rfl
 f103 := Tryz.func122.trans (congrArg some (by kernel_rfl))
 f206 := Tryz.func217.trans (congrArg some (by kernel_rfl))
 f210 := Tryz.func167.trans (congrArg some (by kernel_rfl))
 t3 := Tryz.underlying3
 a3 := Tryz.isAgg3
 z3 := Tryz.sizeOf3
 v3 := Tryz.zeroValue3
 t4 := Tryz.underlying4
 a4 := Tryz.isAgg4
 z4 := Tryz.sizeOf4
 v4 := Tryz.zeroValue4
 t9 := Tryz.underlying9
 a9 := Tryz.isAgg9
 z9 := Tryz.sizeOf9
 v9 := Tryz.zeroValue9
 t24 := Tryz.underlying125
 a24 := Tryz.isAgg125
 z24 := Tryz.sizeOf125
 v24 := Tryz.zeroValue125 }
open Go.RowKit in
theorem Tryz.strings_CutPrefix (s p : ByteArray) (w : World) :
  Calls Tryz.prog 122 #[.string s, .string p] w fun e w' => e = .returned (.tuple #[.string ⟨(Lib.trimPrefix s.data.toList p.data.toList).toArray⟩, .bool (Lib.hasPrefix s.data.toList p.data.toList)]) /\ w' = w := Any.strings_CutPrefix Tryz.lays103 s p w
def Tryz.lays122_ren : Go.Shelf.Ren := ⟨fun | 122 => 248 | 215 => 196 | n => n, fun | 3 => 3 | 4 => 4 | n => n, fun | n => n⟩
theorem Tryz.lays122 : Go.Proofs.Lays.n122 Tryz.prog Tryz.lays122_ren := {
 mixed := by kernel_rfl
 f122 := Tryz.func248.trans (congrArg some (by kernel_rfl))
 f215 := Tryz.func196.trans (congrArg some (by kernel_rfl))
 t3 := Tryz.underlying3
 a3 := Tryz.isAgg3
 z3 := Tryz.sizeOf3
 v3 := Tryz.zeroValue3
 t4 := Tryz.underlying4
 a4 := Tryz.isAgg4
 z4 := Tryz.sizeOf4
 v4 := Tryz.zeroValue4 }
open Go.RowKit in
theorem Tryz.cmp_Compare_int (x y : Int) (w : World) :
  Calls Tryz.prog 248 #[.int .i64 x, .int .i64 y] w fun e w' => e = .returned (.int .i64 (Lib.compareInt x y)) /\ w' = w := Any.cmp_Compare_int Tryz.lays122 x y w
def Tryz.laysM171_ren : Go.Shelf.Ren := ⟨fun | 171 => 80 | 243 => 130 | 246 => 173 | 283 => 239 | 284 => 240 | 285 => 241 | 286 => 242 | 129 => 157 | 317 => 276 | 318 => 277 | 319 => 278 | 320 => 279 | 337 => 301 | 338 => 302 | n => n, fun | 3 => 3 | 9 => 9 | 2 => 2 | 4 => 4 | 171 => 331 | 0 => 0 | 53 => 260 | 37 => 231 | 5 => 5 | 173 => 333 | 212 => 363 | 51 => 258 | 20 => 20 | 213 => 364 | 46 => 127 | 232 => 389 | 233 => 390 | n => n, fun | 17 => 3 | 18 => 7 | 19 => 8 | n => n⟩
theorem Tryz.laysM171 : Go.Proofs.LaysM.n171 Tryz.prog Tryz.laysM171_ren := {
 mixed := by kernel_rfl
 f129 := Tryz.func157.trans (congrArg some (by kernel_rfl))
 f171 := Tryz.func80.trans (congrArg some (by kernel_rfl))
 f243 := Tryz.func130.trans (congrArg some (by kernel_rfl))
 f246 := Tryz.func173.trans (congrArg some (by kernel_rfl))
 f283 := Tryz.func239.trans (congrArg some (by kernel_rfl))
 f284 := Tryz.func240.trans (congrArg some (by kernel_rfl))
 f285 := Tryz.func241.trans (congrArg some (by kernel_rfl))
 f286 := Tryz.func242.trans (congrArg some (by kernel_rfl))
 f317 := Tryz.func276.trans (congrArg some (by kernel_rfl))
 f318 := Tryz.func277.trans (congrArg some (by kernel_rfl))
 f319 := Tryz.func278.trans (congrArg some (by kernel_rfl))
 f320 := Tryz.func279.trans (congrArg some (by kernel_rfl))
 f337 := Tryz.func301.trans (congrArg some (by kernel_rfl))
 f338 := Tryz.func302.trans (congrArg some (by kernel_rfl))
 t0 := Tryz.underlying0
 a0 := Tryz.isAgg0
 z0 := Tryz.sizeOf0
 v0 := Tryz.zeroValue0
 t2 := Tryz.underlying2
 a2 := Tryz.isAgg2
 z2 := Tryz.sizeOf2
 v2 := Tryz.zeroValue2
 t3 := Tryz.underlying3
 a3 := Tryz.isAgg3
 z3 := Tryz.sizeOf3
 v3 := Tryz.zeroValue3
 t4 := Tryz.underlying4
 a4 := Tryz.isAgg4
 z4 := Tryz.sizeOf4
 v4 := Tryz.zeroValue4
 t5 := Tryz.underlying5
 a5 := Tryz.isAgg5
 z5 := Tryz.sizeOf5
 v5 := Tryz.zeroValue5
 t9 := Tryz.underlying9
 a9 := Tryz.isAgg9
 z9 := Tryz.sizeOf9
 v9 := Tryz.zeroValue9
 t20 := Tryz.underlying20
 a20 := Tryz.isAgg20
 z20 := Tryz.sizeOf20
 v20 := Tryz.zeroValue20
 t37 := Tryz.underlying231
 a37 := Tryz.isAgg231
 z37 := Tryz.sizeOf231
 v37 := Tryz.zeroValue231
 t46 := Tryz.underlying127
 a46 := Tryz.isAgg127
 z46 := Tryz.sizeOf127
 v46 := Tryz.zeroValue127
 t51 := Tryz.underlying258
 a51 := Tryz.isAgg258
 z51 := Tryz.sizeOf258
 v51 := Tryz.zeroValue258
 t53 := Tryz.underlying260
 a53 := Tryz.isAgg260
 z53 := Tryz.sizeOf260
 v53 := Tryz.zeroValue260
 t171 := Tryz.underlying331
 a171 := Tryz.isAgg331
 z171 := Tryz.sizeOf331
 v171 := Tryz.zeroValue331
 t173 := Tryz.underlying333
 a173 := Tryz.isAgg333
 z173 := Tryz.sizeOf333
 v173 := Tryz.zeroValue333
 t212 := Tryz.underlying363
 a212 := Tryz.isAgg363
 z212 := Tryz.sizeOf363
 v212 := Tryz.zeroValue363
 t213 := Tryz.underlying364
 a213 := Tryz.isAgg364
 z213 := Tryz.sizeOf364
 t232 := Tryz.underlying389
 a232 := Tryz.isAgg389
 z232 := Tryz.sizeOf389
 v232 := Tryz.zeroValue389
 t233 := Tryz.underlying390
 a233 := Tryz.isAgg390
 z233 := Tryz.sizeOf390
 v233 := Tryz.zeroValue390
 g17 := by kernel_rfl
 g18 := by kernel_rfl
 g19 := by kernel_rfl
 i0 := by kernel_rfl
 i2 := by kernel_rfl
 i3 := by kernel_rfl
 i4 := by kernel_rfl
 i5 := by kernel_rfl
 i9 := by kernel_rfl
 i20 := by kernel_rfl
 i37 := by kernel_rfl
 i46 := by kernel_rfl
 i51 := by kernel_rfl
 i53 := by kernel_rfl
 i171 := by kernel_rfl
 i173 := by kernel_rfl
 i212 := by kernel_rfl
 i232 := by kernel_rfl
 i233 := by kernel_rfl
 m17 := by kernel_rfl
 m18 := by kernel_rfl
 m19 := by kernel_rfl }
open Go.RowKit Go.Sort Go.Lib in
theorem Tryz.strconv_Itoa (n : Int) (h0 : -9223372036854775808 <= n) (h1 : n <= 9223372036854775807) (w : World) (htab : Lib.TabIs Tryz.prog w "internal/strconv.uint64pow10" .u64 Lib.pow10Tab) :
  Calls Tryz.prog 80 #[.int .i64 n] w fun e w' => e = .returned (.string ⟨(Lib.itoa n).toArray⟩) /\ ∃ k os, w' = grow (w.drewN k) os := Any.strconv_Itoa Tryz.laysM171 n h0 h1 w htab
def Tryz.laysC172_ren : Go.Shelf.Ren := ⟨fun | 172 => 123 | 244 => 168 | 245 => 169 | 247 => 218 | 279 => 219 | 280 => 220 | 281 => 221 | 282 => 222 | 287 => 266 | 316 => 267 | 171 => 80 | 205 => 268 | 321 => 296 | 322 => 297 | 243 => 130 | 246 => 173 | 283 => 239 | 284 => 240 | 285 => 241 | 286 => 242 | 129 => 157 | 317 => 276 | 318 => 277 | 319 => 278 | 320 => 279 | 337 => 301 | 338 => 302 | n => n, fun | 9 => 9 | 3 => 3 | 75 => 31 | 76 => 215 | 4 => 4 | 5 => 5 | 167 => 312 | 37 => 231 | 0 => 0 | 85 => 313 | 2 => 2 | 168 => 315 | 53 => 260 | 175 => 353 | 46 => 127 | 210 => 356 | 127 => 288 | 145 => 377 | 143 => 375 | 21 => 21 | 171 => 331 | 173 => 333 | 212 => 363 | 51 => 258 | 20 => 20 | 213 => 364 | 232 => 389 | 233 => 390 | 80 => 234 | n => n, fun | 15 => 1 | 16 => 2 | 17 => 3 | 18 => 7 | 19 => 8 | n => n⟩
theorem Tryz.laysC172 : Go.Proofs.LaysC.n172 Tryz.prog Tryz.laysC172_ren := {
 mixed := by kernel_rfl
 f129 := Tryz.func157.trans (congrArg some (by kernel_rfl))
 f171 := Tryz.func80.trans (congrArg some (by kernel_rfl))
 f172 := Tryz.func123.trans (congrArg some (by kernel_rfl))
 f205 := Tryz.func268.trans (congrArg some (by kernel_rfl))
 f243 := Tryz.func130.trans (congrArg some (by kernel_rfl))
 f244 := Tryz.func168.trans (congrArg some (by kernel_rfl))
 f245 := Tryz.func169.trans (congrArg some (by kernel_rfl))
 f246 := Tryz.func173.trans (congrArg some (by kernel_rfl))
 f247 := Tryz.func218.trans (congrArg some (by kernel_rfl))
 f279 := Tryz.func219.trans (congrArg some (by kernel_rfl))
 f280 := Tryz.func220.trans (congrArg some (by kernel_rfl))
 f281 := Tryz.func221.trans (congrArg some (by kernel_rfl))
 f282 := Tryz.func222.trans (congrArg some (by kernel_rfl))
 f283 := Tryz.func239.trans (congrArg some (by kernel_rfl))
 f284 := Tryz.func240.trans (congrArg some (by kernel_rfl))
 f285 := Tryz.func241.trans (congrArg some (by kernel_rfl))
 f286 := Tryz.func242.trans (congrArg some (by kernel_rfl))
 f287 := Tryz.func266.trans (congrArg some (by kernel_rfl))
 f316 := Tryz.func267.trans (congrArg some (by kernel_rfl))
 f317 := Tryz.func276.trans (congrArg some (by kernel_rfl))
 f318 := Tryz.func277.trans (congrArg some (by kernel_rfl))
 f319 := Tryz.func278.trans (congrArg some (by kernel_rfl))
 f320 := Tryz.func279.trans (congrArg some (by kernel_rfl))
 f321 := Tryz.func296.trans (congrArg some (by kernel_rfl))
 f322 := Tryz.func297.trans (congrArg some (by kernel_rfl))
 f337 := Tryz.func301.trans (congrArg some (by kernel_rfl))
 f338 := Tryz.func302.trans (congrArg some (by kernel_rfl))
 t0 := Tryz.underlying0
 a0 := Tryz.isAgg0
 z0 := Tryz.sizeOf0
 v0 := Tryz.zeroValue0
 t2 := Tryz.underlying2
 a2 := Tryz.isAgg2
 z2 := Tryz.sizeOf2
 v2 := Tryz.zeroValue2
 t3 := Tryz.underlying3
 a3 := Tryz.isAgg3
 z3 := Tryz.sizeOf3
 v3 := Tryz.zeroValue3
 t4 := Tryz.underlying4
 a4 := Tryz.isAgg4
 z4 := Tryz.sizeOf4
 v4 := Tryz.zeroValue4
 t5 := Tryz.underlying5
 a5 := Tryz.isAgg5
 z5 := Tryz.sizeOf5
 v5 := Tryz.zeroValue5
 t9 := Tryz.underlying9
 a9 := Tryz.isAgg9
 z9 := Tryz.sizeOf9
 v9 := Tryz.zeroValue9
 t20 := Tryz.underlying20
 a20 := Tryz.isAgg20
 z20 := Tryz.sizeOf20
 v20 := Tryz.zeroValue20
 t21 := Tryz.underlying21
 a21 := Tryz.isAgg21
 z21 := Tryz.sizeOf21
 v21 := Tryz.zeroValue21
 t37 := Tryz.underlying231
 a37 := Tryz.isAgg231
 z37 := Tryz.sizeOf231
 v37 := Tryz.zeroValue231
 t46 := Tryz.underlying127
 a46 := Tryz.isAgg127
 z46 := Tryz.sizeOf127
 v46 := Tryz.zeroValue127
 t51 := Tryz.underlying258
 a51 := Tryz.isAgg258
 z51 := Tryz.sizeOf258
 v51 := Tryz.zeroValue258
 t53 := Tryz.underlying260
 a53 := Tryz.isAgg260
 z53 := Tryz.sizeOf260
 v53 := Tryz.zeroValue260
 t75 := Tryz.underlying31
 a75 := Tryz.isAgg31
 z75 := Tryz.sizeOf31
 v75 := Tryz.zeroValue31
 t76 := Tryz.underlying215
 a76 := Tryz.isAgg215
 z76 := Tryz.sizeOf215
 v76 := Tryz.zeroValue215
 t85 := Tryz.underlying313
 a85 := Tryz.isAgg313
 z85 := Tryz.sizeOf313
 v85 := Tryz.zeroValue313
 t127 := Tryz.underlying288
 a127 := Tryz.isAgg288
 z127 := Tryz.sizeOf288
 v127 := Tryz.zeroValue288
 t143 := Tryz.underlying375
 a143 := Tryz.isAgg375
 z143 := Tryz.sizeOf375
 v143 := Tryz.zeroValue375
 t145 := Tryz.underlying377
 a145 := Tryz.isAgg377
 z145 := Tryz.sizeOf377
 v145 := Tryz.zeroValue377
 t167 := Tryz.underlying312
 a167 := Tryz.isAgg312
 z167 := Tryz.sizeOf312
 v167 := Tryz.zeroValue312
 t168 := Tryz.underlying315
 a168 := Tryz.isAgg315
 z168 := Tryz.sizeOf315
 v168 := Tryz.zeroValue315
 t171 := Tryz.underlying331
 a171 := Tryz.isAgg331
 z171 := Tryz.sizeOf331
 v171 := Tryz.zeroValue331
 t173 := Tryz.underlying333
 a173 := Tryz.isAgg333
 z173 := Tryz.sizeOf333
 v173 := Tryz.zeroValue333
 t175 := Tryz.underlying353
 a175 := Tryz.isAgg353
 z175 := Tryz.sizeOf353
 v175 := Tryz.zeroValue353
 t210 := Tryz.underlying356
 a210 := Tryz.isAgg356
 z210 := Tryz.sizeOf356
 v210 := Tryz.zeroValue356
 t212 := Tryz.underlying363
 a212 := Tryz.isAgg363
 z212 := Tryz.sizeOf363
 v212 := Tryz.zeroValue363
 t213 := Tryz.underlying364
 a213 := Tryz.isAgg364
 z213 := Tryz.sizeOf364
 t232 := Tryz.underlying389
 a232 := Tryz.isAgg389
 z232 := Tryz.sizeOf389
 v232 := Tryz.zeroValue389
 t233 := Tryz.underlying390
 a233 := Tryz.isAgg390
 z233 := Tryz.sizeOf390
 v233 := Tryz.zeroValue390
 g15 := by kernel_rfl
 g16 := by kernel_rfl
 g17 := by kernel_rfl
 g18 := by kernel_rfl
 g19 := by kernel_rfl
 t80 := Tryz.underlying234
 a80 := Tryz.isAgg234
 z80 := Tryz.sizeOf234
 v80 := Tryz.zeroValue234
 i0 := by kernel_rfl
 i2 := by kernel_rfl
 i3 := by kernel_rfl
 i4 := by kernel_rfl
 i5 := by kernel_rfl
 i9 := by kernel_rfl
 i20 := by kernel_rfl
 i21 := by kernel_rfl
 i37 := by kernel_rfl
 i46 := by kernel_rfl
 i51 := by kernel_rfl
 i53 := by kernel_rfl
 i75 := by kernel_rfl
 i76 := by kernel_rfl
 i80 := by kernel_rfl
 i85 := by kernel_rfl
 i127 := by kernel_rfl
 i143 := by kernel_rfl
 i145 := by kernel_rfl
 i167 := by kernel_rfl
 i168 := by kernel_rfl
 i171 := by kernel_rfl
 i173 := by kernel_rfl
 i175 := by kernel_rfl
 i210 := by kernel_rfl
 i212 := by kernel_rfl
 i232 := by kernel_rfl
 i233 := by kernel_rfl
 m15 := by kernel_rfl
 m16 := by kernel_rfl
 m17 := by kernel_rfl
 m18 := by kernel_rfl
 m19 := by kernel_rfl
 c0 := by kernel_rfl
 c2 := by kernel_rfl
 c3 := by kernel_rfl
 c4 := by kernel_rfl
 c5 := by kernel_rfl
 c9 := by kernel_rfl
 c20 := by kernel_rfl
 c21 := by kernel_rfl
 c37 := by kernel_rfl
 c46 := by kernel_rfl
 c51 := by kernel_rfl
 c53 := by kernel_rfl
 c75 := by kernel_rfl
 c76 := by kernel_rfl
 c80 := by kernel_rfl
 c85 := by kernel_rfl
 c127 := by kernel_rfl
 c143 := by kernel_rfl
 c145 := by kernel_rfl
 c167 := by kernel_rfl
 c168 := by kernel_rfl
 c171 := by kernel_rfl
 c173 := by kernel_rfl
 c175 := by kernel_rfl
 c210 := by kernel_rfl
 c212 := by kernel_rfl
 c213 := by kernel_rfl
 c232 := by kernel_rfl
 c233 := by kernel_rfl }
open Go.RowKit in
theorem Tryz.strconv_Atoi_ok (s : ByteArray) (hmax : s.size <= 9223372036854775806) (v : Int) (h : Lib.atoiAll s.data.toList = .ok v) (w : World) :
  Calls Tryz.prog 123 #[.string s] w fun e w' => e = .returned (.tuple #[.int .i64 v, .nilIface]) /\ (w' = w \/ ∃ t, w' = Lib.bytesWorld w 5 t) := Any.strconv_Atoi_ok Tryz.laysC172 s hmax v h w
open Go.RowKit in
theorem Tryz.strconv_Atoi_syntax (s : ByteArray) (hlim : s.size <= 281474976710656) (h : Lib.atoiAll s.data.toList = .«syntax») (ev : Value) (w : World) (hv : w.cell? ⟨1, 0, none⟩ = some ev) (hev : ev = .nilIface \/ ∃ te pe, ev = .iface te pe) :
  Calls Tryz.prog 123 #[.string s] w fun e w' => ∃ N, e = .returned (.tuple #[.int .i64 (0), .iface 315 (.pointer (some ⟨N, 0, none⟩))]) /\ w.heap.size <= N /\ w'.heap[N]? = some (.cells #[.string ⟨#[65, 116, 111, 105]⟩, .string s, ev] 356 (0, 0)) /\ Below w.heap.size w w' := Any.strconv_Atoi_syntax Tryz.laysC172 s hlim h ev w hv hev
open Go.RowKit in
theorem Tryz.strconv_Atoi_range (s : ByteArray) (hlim : s.size <= 281474976710656) (h : Lib.atoiAll s.data.toList = .range) (ev : Value) (w : World) (hv : w.cell? ⟨2, 0, none⟩ = some ev) (hev : ev = .nilIface \/ ∃ te pe, ev = .iface te pe) :
  Calls Tryz.prog 123 #[.string s] w fun e w' => ∃ N, e = .returned (.tuple #[.int .i64 (Lib.atoiSat s.data.toList), .iface 315 (.pointer (some ⟨N, 0, none⟩))]) /\ w.heap.size <= N /\ w'.heap[N]? = some (.cells #[.string ⟨#[65, 116, 111, 105]⟩, .string s, ev] 356 (0, 0)) /\ Below w.heap.size w w' := Any.strconv_Atoi_range Tryz.laysC172 s hlim h ev w hv hev
def Tryz.lays143_ren : Go.Shelf.Ren := ⟨fun | 143 => 216 | 219 => 265 | 217 => 292 | 225 => 293 | 224 => 294 | 267 => 295 | 266 => 307 | 314 => 308 | n => n, fun | 9 => 9 | 3 => 3 | 4 => 4 | 5 => 5 | 46 => 127 | 146 => 386 | 51 => 258 | n => n, fun | 1 => 4 | n => n⟩
theorem Tryz.lays143 : Go.Proofs.Lays.n143 Tryz.prog Tryz.lays143_ren := {
 mixed := by kernel_rfl
 f143 := Tryz.func216.trans (congrArg some (by kernel_rfl))
 f217 := Tryz.func292.trans (congrArg some (by kernel_rfl))
 f219 := Tryz.func265.trans (congrArg some (by kernel_rfl))
 f224 := Tryz.func294.trans (congrArg some (by kernel_rfl))
 f225 := Tryz.func293.trans (congrArg some (by kernel_rfl))
 f266 := Tryz.func307.trans (congrArg some (by kernel_rfl))
 f267 := Tryz.func295.trans (congrArg some (by kernel_rfl))
 f314 := Tryz.func308.trans (congrArg some (by kernel_rfl))
 t3 := Tryz.underlying3
 a3 := Tryz.isAgg3
 z3 := Tryz.sizeOf3
 v3 := Tryz.zeroValue3
 t4 := Tryz.underlying4
 a4 := Tryz.isAgg4
 z4 := Tryz.sizeOf4
 v4 := Tryz.zeroValue4
 t5 := Tryz.underlying5
 a5 := Tryz.isAgg5
 z5 := Tryz.sizeOf5
 v5 := Tryz.zeroValue5
 t9 := Tryz.underlying9
 a9 := Tryz.isAgg9
 z9 := Tryz.sizeOf9
 v9 := Tryz.zeroValue9
 t46 := Tryz.underlying127
 a46 := Tryz.isAgg127
 z46 := Tryz.sizeOf127
 v46 := Tryz.zeroValue127
 t51 := Tryz.underlying258
 a51 := Tryz.isAgg258
 z51 := Tryz.sizeOf258
 v51 := Tryz.zeroValue258
 t146 := Tryz.underlying386
 a146 := Tryz.isAgg386
 z146 := Tryz.sizeOf386
 v146 := Tryz.zeroValue386
 g1 := by kernel_rfl }
open Go.RowKit Go.Lib in
theorem Tryz.strings_Index_one (s : ByteArray) (c : UInt8) (w : World) :
  Calls Tryz.prog 216 #[.string s, .string ⟨#[c]⟩] w fun e w' => e = .returned (.int .i64 (Lib.indexByte s.data.toList c)) /\ w' = w := Any.strings_Index_one Tryz.lays143 s c w
def Tryz.lays189_ren : Go.Shelf.Ren := ⟨fun | 189 => 55 | 125 => 105 | 257 => 104 | 128 => 156 | 129 => 157 | 294 => 147 | 295 => 148 | 296 => 149 | 297 => 150 | 298 => 151 | 299 => 152 | 216 => 153 | 300 => 154 | 301 => 155 | 328 => 191 | 329 => 192 | 330 => 193 | 331 => 194 | 332 => 195 | 215 => 196 | 343 => 256 | n => n, fun | 28 => 46 | 3 => 3 | 46 => 127 | 0 => 0 | 51 => 258 | 53 => 260 | 4 => 4 | 183 => 252 | 182 => 251 | 131 => 133 | 5 => 5 | 9 => 9 | 218 => 296 | 222 => 300 | 228 => 344 | 229 => 345 | n => n, fun | n => n⟩
theorem Tryz.lays189 : Go.Proofs.Lays.n189 Tryz.prog Tryz.lays189_ren := {
 mixed := by kernel_rfl
 f125 := Tryz.func105.trans (congrArg some (by kernel_rfl))
 f128 := Tryz.func156.trans (congrArg some (by kernel_rfl))
 f129 := Tryz.func157.trans (congrArg some (by kernel_rfl))
 f189 := Tryz.func55.trans (congrArg some (by kernel_rfl))
 f215 := Tryz.func196.trans (congrArg some (by kernel_rfl))
 f216 := Tryz.func153.trans (congrArg some (by kernel_rfl))
 f257 := Tryz.func104.trans (congrArg some (by kernel_rfl))
 f294 := Tryz.func147.trans (congrArg some (by kernel_rfl))
 f295 := Tryz.func148.trans (congrArg some (by kernel_rfl))
 f296 := Tryz.func149.trans (congrArg some (by kernel_rfl))
 f297 := Tryz.func150.trans (congrArg some (by kernel_rfl))
 f298 := Tryz.func151.trans (congrArg some (by kernel_rfl))
 f299 := Tryz.func152.trans (congrArg some (by kernel_rfl))
 f300 := Tryz.func154.trans (congrArg some (by kernel_rfl))
 f301 := Tryz.func155.trans (congrArg some (by kernel_rfl))
 f328 := Tryz.func191.trans (congrArg some (by kernel_rfl))
 f329 := Tryz.func192.trans (congrArg some (by kernel_rfl))
 f330 := Tryz.func193.trans (congrArg some (by kernel_rfl))
 f331 := Tryz.func194.trans (congrArg some (by kernel_rfl))
 f332 := Tryz.func195.trans (congrArg some (by kernel_rfl))
 f343 := Tryz.func256.trans (congrArg some (by kernel_rfl))
 t0 := Tryz.underlying0
 a0 := Tryz.isAgg0
 z0 := Tryz.sizeOf0
 v0 := Tryz.zeroValue0
 t3 := Tryz.underlying3
 a3 := Tryz.isAgg3
 z3 := Tryz.sizeOf3
 v3 := Tryz.zeroValue3
 t4 := Tryz.underlying4
 a4 := Tryz.isAgg4
 z4 := Tryz.sizeOf4
 v4 := Tryz.zeroValue4
 t5 := Tryz.underlying5
 a5 := Tryz.isAgg5
 z5 := Tryz.sizeOf5
 v5 := Tryz.zeroValue5
 t9 := Tryz.underlying9
 a9 := Tryz.isAgg9
 z9 := Tryz.sizeOf9
 v9 := Tryz.zeroValue9
 t28 := Tryz.underlying46
 a28 := Tryz.isAgg46
 z28 := Tryz.sizeOf46
 v28 := Tryz.zeroValue46
 t46 := Tryz.underlying127
 a46 := Tryz.isAgg127
 z46 := Tryz.sizeOf127
 v46 := Tryz.zeroValue127
 t51 := Tryz.underlying258
 a51 := Tryz.isAgg258
 z51 := Tryz.sizeOf258
 v51 := Tryz.zeroValue258
 t53 := Tryz.underlying260
 a53 := Tryz.isAgg260
 z53 := Tryz.sizeOf260
 v53 := Tryz.zeroValue260
 t131 := Tryz.underlying133
 a131 := Tryz.isAgg133
 z131 := Tryz.sizeOf133
 v131 := Tryz.zeroValue133
 t182 := Tryz.underlying251
 a182 := Tryz.isAgg251
 z182 := Tryz.sizeOf251
 v182 := Tryz.zeroValue251
 t183 := Tryz.underlying252
 a183 := Tryz.isAgg252
 z183 := Tryz.sizeOf252
 v183 := Tryz.zeroValue252
 t218 := Tryz.underlying296
 a218 := Tryz.isAgg296
 z218 := Tryz.sizeOf296
 v218 := Tryz.zeroValue296
 t222 := Tryz.underlying300
 a222 := Tryz.isAgg300
 z222 := Tryz.sizeOf300
 v222 := Tryz.zeroValue300
 t228 := Tryz.underlying344
 a228 := Tryz.isAgg344
 z228 := Tryz.sizeOf344
 v228 := Tryz.zeroValue344
 t229 := Tryz.underlying345
 a229 := Tryz.isAgg345
 z229 := Tryz.sizeOf345
 v229 := Tryz.zeroValue345 }
open Go.Sort Go.RowKit in
theorem Tryz.slices_Sort_int (blk off cap : Nat) (zs : List Int) (w : World) (hH : Holds (Value.int .i64) w blk off zs.toArray) (hblk : blk < w.heap.size) (hsz : zs.length < 4611686018427387904) :
  Calls Tryz.prog 55 #[.slice (some ⟨blk, off, none⟩) zs.length cap] w fun e w' =>
   e = .returned (.tuple #[]) /\ ∃ n os, w' = grow (putRow (Value.int .i64) (Sort.ahead w n) blk off (zs.mergeSort fun x y => decide (x <= y)).toArray) os := Any.slices_Sort_int Tryz.lays189 blk off cap zs w hH hblk hsz
def Tryz.lays191_ren : Go.Shelf.Ren := ⟨fun | 191 => 68 | 189 => 55 | 125 => 105 | 257 => 104 | 128 => 156 | 129 => 157 | 294 => 147 | 295 => 148 | 296 => 149 | 297 => 150 | 298 => 151 | 299 => 152 | 216 => 153 | 300 => 154 | 301 => 155 | 328 => 191 | 329 => 192 | 330 => 193 | 331 => 194 | 332 => 195 | 215 => 196 | 343 => 256 | n => n, fun | 28 => 46 | 0 => 0 | 3 => 3 | 46 => 127 | 51 => 258 | 53 => 260 | 4 => 4 | 183 => 252 | 182 => 251 | 131 => 133 | 5 => 5 | 9 => 9 | 218 => 296 | 222 => 300 | 228 => 344 | 229 => 345 | n => n, fun | n => n⟩
theorem Tryz.lays191 : Go.Proofs.Lays.n191 Tryz.prog Tryz.lays191_ren := {
 mixed := by kernel_rfl
 f125 := Tryz.func105.trans (congrArg some (by kernel_rfl))
 f128 := Tryz.func156.trans (congrArg some (by kernel_rfl))
 f129 := Tryz.func157.trans (congrArg some (by kernel_rfl))
 f189 := Tryz.func55.trans (congrArg some (by kernel_rfl))
 f191 := Tryz.func68.trans (congrArg some (by kernel_rfl))
 f215 := Tryz.func196.trans (congrArg some (by kernel_rfl))
 f216 := Tryz.func153.trans (congrArg some (by kernel_rfl))
 f257 := Tryz.func104.trans (congrArg some (by kernel_rfl))
 f294 := Tryz.func147.trans (congrArg some (by kernel_rfl))
 f295 := Tryz.func148.trans (congrArg some (by kernel_rfl))
 f296 := Tryz.func149.trans (congrArg some (by kernel_rfl))
 f297 := Tryz.func150.trans (congrArg some (by kernel_rfl))
 f298 := Tryz.func151.trans (congrArg some (by kernel_rfl))
 f299 := Tryz.func152.trans (congrArg some (by kernel_rfl))
 f300 := Tryz.func154.trans (congrArg some (by kernel_rfl))
 f301 := Tryz.func155.trans (congrArg some (by kernel_rfl))
 f328 := Tryz.func191.trans (congrArg some (by kernel_rfl))
 f329 := Tryz.func192.trans (congrArg some (by kernel_rfl))
 f330 := Tryz.func193.trans (congrArg some (by kernel_rfl))
 f331 := Tryz.func194.trans (congrArg some (by kernel_rfl))
 f332 := Tryz.func195.trans (congrArg some (by kernel_rfl))
 f343 := Tryz.func256.trans (congrArg some (by kernel_rfl))
 t0 := Tryz.underlying0
 a0 := Tryz.isAgg0
 z0 := Tryz.sizeOf0
 v0 := Tryz.zeroValue0
 t3 := Tryz.underlying3
 a3 := Tryz.isAgg3
 z3 := Tryz.sizeOf3
 v3 := Tryz.zeroValue3
 t4 := Tryz.underlying4
 a4 := Tryz.isAgg4
 z4 := Tryz.sizeOf4
 v4 := Tryz.zeroValue4
 t5 := Tryz.underlying5
 a5 := Tryz.isAgg5
 z5 := Tryz.sizeOf5
 v5 := Tryz.zeroValue5
 t9 := Tryz.underlying9
 a9 := Tryz.isAgg9
 z9 := Tryz.sizeOf9
 v9 := Tryz.zeroValue9
 t28 := Tryz.underlying46
 a28 := Tryz.isAgg46
 z28 := Tryz.sizeOf46
 v28 := Tryz.zeroValue46
 t46 := Tryz.underlying127
 a46 := Tryz.isAgg127
 z46 := Tryz.sizeOf127
 v46 := Tryz.zeroValue127
 t51 := Tryz.underlying258
 a51 := Tryz.isAgg258
 z51 := Tryz.sizeOf258
 v51 := Tryz.zeroValue258
 t53 := Tryz.underlying260
 a53 := Tryz.isAgg260
 z53 := Tryz.sizeOf260
 v53 := Tryz.zeroValue260
 t131 := Tryz.underlying133
 a131 := Tryz.isAgg133
 z131 := Tryz.sizeOf133
 v131 := Tryz.zeroValue133
 t182 := Tryz.underlying251
 a182 := Tryz.isAgg251
 z182 := Tryz.sizeOf251
 v182 := Tryz.zeroValue251
 t183 := Tryz.underlying252
 a183 := Tryz.isAgg252
 z183 := Tryz.sizeOf252
 v183 := Tryz.zeroValue252
 t218 := Tryz.underlying296
 a218 := Tryz.isAgg296
 z218 := Tryz.sizeOf296
 v218 := Tryz.zeroValue296
 t222 := Tryz.underlying300
 a222 := Tryz.isAgg300
 z222 := Tryz.sizeOf300
 v222 := Tryz.zeroValue300
 t228 := Tryz.underlying344
 a228 := Tryz.isAgg344
 z228 := Tryz.sizeOf344
 v228 := Tryz.zeroValue344
 t229 := Tryz.underlying345
 a229 := Tryz.isAgg345
 z229 := Tryz.sizeOf345
 v229 := Tryz.zeroValue345 }
open Go.Sort Go.RowKit in
theorem Tryz.sort_Ints (blk off cap : Nat) (zs : List Int) (w : World) (hH : Holds (Value.int .i64) w blk off zs.toArray) (hblk : blk < w.heap.size) (hsz : zs.length < 4611686018427387904) :
  Calls Tryz.prog 68 #[.slice (some ⟨blk, off, none⟩) zs.length cap] w fun e w' =>
   e = .returned (.tuple #[]) /\ ∃ n os, w' = grow (putRow (Value.int .i64) (Sort.ahead w n) blk off (zs.mergeSort fun x y => decide (x <= y)).toArray) os := Any.sort_Ints Tryz.lays191 blk off cap zs w hH hblk hsz
def Tryz.lays190_ren : Go.Shelf.Ren := ⟨fun | 190 => 175 | 125 => 105 | 258 => 243 | 128 => 156 | 129 => 157 | 302 => 280 | 303 => 281 | 304 => 282 | 305 => 283 | 306 => 284 | 307 => 285 | 308 => 286 | 309 => 287 | 310 => 288 | 333 => 303 | 329 => 192 | 330 => 193 | 334 => 304 | 335 => 305 | 336 => 306 | 344 => 311 | n => n, fun | 31 => 114 | 9 => 9 | 3 => 3 | 46 => 127 | 0 => 0 | 51 => 258 | 53 => 260 | 4 => 4 | 183 => 252 | 182 => 251 | 131 => 133 | 5 => 5 | 218 => 296 | 222 => 300 | 228 => 344 | 229 => 345 | n => n, fun | n => n⟩
theorem Tryz.lays190 : Go.Proofs.Lays.n190 Tryz.prog Tryz.lays190_ren := {
 mixed := by kernel_rfl
 f125 := Tryz.func105.trans (congrArg some (by kernel_rfl))
 f128 := Tryz.func156.trans (congrArg some (by kernel_rfl))
 f129 := Tryz.func157.trans (congrArg some (by kernel_rfl))
 f190 := Tryz.func175.trans (congrArg some (by kernel_rfl))
 f258 := Tryz.func243.trans (congrArg some (by kernel_rfl))
 f302 := Tryz.func280.trans (congrArg some (by kernel_rfl))
 f303 := Tryz.func281.trans (congrArg some (by kernel_rfl))
 f304 := Tryz.func282.trans (congrArg some (by kernel_rfl))
 f305 := Tryz.func283.trans (congrArg some (by kernel_rfl))
 f306 := Tryz.func284.trans (congrArg some (by kernel_rfl))
 f307 := Tryz.func285.trans (congrArg some (by kernel_rfl))
 f308 := Tryz.func286.trans (congrArg some (by kernel_rfl))
 f309 := Tryz.func287.trans (congrArg some (by kernel_rfl))
 f310 := Tryz.func288.trans (congrArg some (by kernel_rfl))
 f329 := Tryz.func192.trans (congrArg some (by kernel_rfl))
 f330 := Tryz.func193.trans (congrArg some (by kernel_rfl))
 f333 := Tryz.func303.trans (congrArg some (by kernel_rfl))
 f334 := Tryz.func304.trans (congrArg some (by kernel_rfl))
 f335 := Tryz.func305.trans (congrArg some (by kernel_rfl))
 f336 := Tryz.func306.trans (congrArg some (by kernel_rfl))
 f344 := Tryz.func311.trans (congrArg some (by kernel_rfl))
 t0 := Tryz.underlying0
 a0 := Tryz.isAgg0
 z0 := Tryz.sizeOf0
 v0 := Tryz.zeroValue0
 t3 := Tryz.underlying3
 a3 := Tryz.isAgg3
 z3 := Tryz.sizeOf3
 v3 := Tryz.zeroValue3
 t4 := Tryz.underlying4
 a4 := Tryz.isAgg4
 z4 := Tryz.sizeOf4
 v4 := Tryz.zeroValue4
 t5 := Tryz.underlying5
 a5 := Tryz.isAgg5
 z5 := Tryz.sizeOf5
 v5 := Tryz.zeroValue5
 t9 := Tryz.underlying9
 a9 := Tryz.isAgg9
 z9 := Tryz.sizeOf9
 v9 := Tryz.zeroValue9
 t31 := Tryz.underlying114
 a31 := Tryz.isAgg114
 z31 := Tryz.sizeOf114
 v31 := Tryz.zeroValue114
 t46 := Tryz.underlying127
 a46 := Tryz.isAgg127
 z46 := Tryz.sizeOf127
 v46 := Tryz.zeroValue127
 t51 := Tryz.underlying258
 a51 := Tryz.isAgg258
 z51 := Tryz.sizeOf258
 v51 := Tryz.zeroValue258
 t53 := Tryz.underlying260
 a53 := Tryz.isAgg260
 z53 := Tryz.sizeOf260
 v53 := Tryz.zeroValue260
 t131 := Tryz.underlying133
 a131 := Tryz.isAgg133
 z131 := Tryz.sizeOf133
 v131 := Tryz.zeroValue133
 t182 := Tryz.underlying251
 a182 := Tryz.isAgg251
 z182 := Tryz.sizeOf251
 v182 := Tryz.zeroValue251
 t183 := Tryz.underlying252
 a183 := Tryz.isAgg252
 z183 := Tryz.sizeOf252
 v183 := Tryz.zeroValue252
 t218 := Tryz.underlying296
 a218 := Tryz.isAgg296
 z218 := Tryz.sizeOf296
 v218 := Tryz.zeroValue296
 t222 := Tryz.underlying300
 a222 := Tryz.isAgg300
 z222 := Tryz.sizeOf300
 v222 := Tryz.zeroValue300
 t228 := Tryz.underlying344
 a228 := Tryz.isAgg344
 z228 := Tryz.sizeOf344
 v228 := Tryz.zeroValue344
 t229 := Tryz.underlying345
 a229 := Tryz.isAgg345
 z229 := Tryz.sizeOf345
 v229 := Tryz.zeroValue345 }
open Go.Sort Go.RowKit in
theorem Tryz.slices_Sort_string (blk off cap : Nat) (ss : List (List UInt8)) (w : World) (hH : Holds encStr w blk off ss.toArray) (hblk : blk < w.heap.size) (hsz : ss.length < 4611686018427387904) :
  Calls Tryz.prog 175 #[.slice (some ⟨blk, off, none⟩) ss.length cap] w fun e w' =>
   e = .returned (.tuple #[]) /\ ∃ n os, w' = grow (putRow encStr (Sort.ahead w n) blk off (ss.mergeSort fun x y => decide (x <= y)).toArray) os := Any.slices_Sort_string Tryz.lays190 blk off cap ss w hH hblk hsz
def Tryz.lays192_ren : Go.Shelf.Ren := ⟨fun | 192 => 134 | 190 => 175 | 125 => 105 | 258 => 243 | 128 => 156 | 129 => 157 | 302 => 280 | 303 => 281 | 304 => 282 | 305 => 283 | 306 => 284 | 307 => 285 | 308 => 286 | 309 => 287 | 310 => 288 | 333 => 303 | 329 => 192 | 330 => 193 | 334 => 304 | 335 => 305 | 336 => 306 | 344 => 311 | n => n, fun | 31 => 114 | 0 => 0 | 9 => 9 | 3 => 3 | 46 => 127 | 51 => 258 | 53 => 260 | 4 => 4 | 183 => 252 | 182 => 251 | 131 => 133 | 5 => 5 | 218 => 296 | 222 => 300 | 228 => 344 | 229 => 345 | n => n, fun | n => n⟩
theorem Tryz.lays192 : Go.Proofs.Lays.n192 Tryz.prog Tryz.lays192_ren := {
 mixed := by kernel_rfl
 f125 := Tryz.func105.trans (congrArg some (by kernel_rfl))
 f128 := Tryz.func156.trans (congrArg some (by kernel_rfl))
 f129 := Tryz.func157.trans (congrArg some (by kernel_rfl))
 f190 := Tryz.func175.trans (congrArg some (by kernel_rfl))
 f192 := Tryz.func134.trans (congrArg some (by kernel_rfl))
 f258 := Tryz.func243.trans (congrArg some (by kernel_rfl))
 f302 := Tryz.func280.trans (congrArg some (by kernel_rfl))
 f303 := Tryz.func281.trans (congrArg some (by kernel_rfl))
 f304 := Tryz.func282.trans (congrArg some (by kernel_rfl))
 f305 := Tryz.func283.trans (congrArg some (by kernel_rfl))
 f306 := Tryz.func284.trans (congrArg some (by kernel_rfl))
 f307 := Tryz.func285.trans (congrArg some (by kernel_rfl))
 f308 := Tryz.func286.trans (congrArg some (by kernel_rfl))
 f309 := Tryz.func287.trans (congrArg some (by kernel_rfl))
 f310 := Tryz.func288.trans (congrArg some (by kernel_rfl))
 f329 := Tryz.func192.trans (congrArg some (by kernel_rfl))
 f330 := Tryz.func193.trans (congrArg some (by kernel_rfl))
 f333 := Tryz.func303.trans (congrArg some (by kernel_rfl))
 f334 := Tryz.func304.trans (congrArg some (by kernel_rfl))
 f335 := Tryz.func305.trans (congrArg some (by kernel_rfl))
 f336 := Tryz.func306.trans (congrArg some (by kernel_rfl))
 f344 := Tryz.func311.trans (congrArg some (by kernel_rfl))
 t0 := Tryz.underlying0
 a0 := Tryz.isAgg0
 z0 := Tryz.sizeOf0
 v0 := Tryz.zeroValue0
 t3 := Tryz.underlying3
 a3 := Tryz.isAgg3
 z3 := Tryz.sizeOf3
 v3 := Tryz.zeroValue3
 t4 := Tryz.underlying4
 a4 := Tryz.isAgg4
 z4 := Tryz.sizeOf4
 v4 := Tryz.zeroValue4
 t5 := Tryz.underlying5
 a5 := Tryz.isAgg5
 z5 := Tryz.sizeOf5
 v5 := Tryz.zeroValue5
 t9 := Tryz.underlying9
 a9 := Tryz.isAgg9
 z9 := Tryz.sizeOf9
 v9 := Tryz.zeroValue9
 t31 := Tryz.underlying114
 a31 := Tryz.isAgg114
 z31 := Tryz.sizeOf114
 v31 := Tryz.zeroValue114
 t46 := Tryz.underlying127
 a46 := Tryz.isAgg127
 z46 := Tryz.sizeOf127
 v46 := Tryz.zeroValue127
 t51 := Tryz.underlying258
 a51 := Tryz.isAgg258
 z51 := Tryz.sizeOf258
 v51 := Tryz.zeroValue258
 t53 := Tryz.underlying260
 a53 := Tryz.isAgg260
 z53 := Tryz.sizeOf260
 v53 := Tryz.zeroValue260
 t131 := Tryz.underlying133
 a131 := Tryz.isAgg133
 z131 := Tryz.sizeOf133
 v131 := Tryz.zeroValue133
 t182 := Tryz.underlying251
 a182 := Tryz.isAgg251
 z182 := Tryz.sizeOf251
 v182 := Tryz.zeroValue251
 t183 := Tryz.underlying252
 a183 := Tryz.isAgg252
 z183 := Tryz.sizeOf252
 v183 := Tryz.zeroValue252
 t218 := Tryz.underlying296
 a218 := Tryz.isAgg296
 z218 := Tryz.sizeOf296
 v218 := Tryz.zeroValue296
 t222 := Tryz.underlying300
 a222 := Tryz.isAgg300
 z222 := Tryz.sizeOf300
 v222 := Tryz.zeroValue300
 t228 := Tryz.underlying344
 a228 := Tryz.isAgg344
 z228 := Tryz.sizeOf344
 v228 := Tryz.zeroValue344
 t229 := Tryz.underlying345
 a229 := Tryz.isAgg345
 z229 := Tryz.sizeOf345
 v229 := Tryz.zeroValue345 }
open Go.Sort Go.RowKit in
theorem Tryz.sort_Strings (blk off cap : Nat) (ss : List (List UInt8)) (w : World) (hH : Holds encStr w blk off ss.toArray) (hblk : blk < w.heap.size) (hsz : ss.length < 4611686018427387904) :
  Calls Tryz.prog 134 #[.slice (some ⟨blk, off, none⟩) ss.length cap] w fun e w' =>
   e = .returned (.tuple #[]) /\ ∃ n os, w' = grow (putRow encStr (Sort.ahead w n) blk off (ss.mergeSort fun x y => decide (x <= y)).toArray) os := Any.sort_Strings Tryz.lays192 blk off cap ss w hH hblk hsz
def Tryz.laysGg6_ren : Go.Shelf.Ren := ⟨fun | 6 => 116 | 10 => 106 | 11 => 162 | 12 => 163 | 13 => 105 | 14 => 164 | 24 => 156 | 25 => 157 | 26 => 206 | 27 => 207 | 28 => 208 | 29 => 209 | 30 => 210 | 31 => 211 | 32 => 212 | 33 => 213 | 34 => 257 | 35 => 258 | 36 => 259 | 37 => 260 | 38 => 261 | 39 => 290 | n => n, fun | 20 => 20 | 26 => 210 | 35 => 194 | 0 => 0 | 37 => 273 | 3 => 3 | 41 => 127 | 44 => 277 | 49 => 258 | 51 => 260 | 4 => 4 | 54 => 304 | 53 => 303 | 58 => 133 | 5 => 5 | 9 => 9 | 60 => 347 | 64 => 300 | 66 => 372 | 67 => 345 | 17 => 17 | 32 => 191 | 33 => 192 | 82 => 403 | 12 => 12 | 75 => 398 | 76 => 199 | 77 => 399 | 78 => 288 | 79 => 400 | 80 => 401 | n => n, fun | n => n⟩
theorem Tryz.laysGg6 : Go.Proofs.LaysGg.n6 Tryz.prog Tryz.laysGg6_ren := {
 mixed := by kernel_rfl
 f6 := Tryz.func116.trans (congrArg some (by kernel_rfl))
 f10 := Tryz.func106.trans (congrArg some (by kernel_rfl))
 f11 := Tryz.func162.trans (congrArg some (by kernel_rfl))
 f12 := Tryz.func163.trans (congrArg some (by kernel_rfl))
 f13 := Tryz.func105.trans (congrArg some (by kernel_rfl))
 f14 := Tryz.func164.trans (congrArg some (by kernel_rfl))
 f24 := Tryz.func156.trans (congrArg some (by kernel_rfl))
 f25 := Tryz.func157.trans (congrArg some (by kernel_rfl))
 f26 := Tryz.func206.trans (congrArg some (by kernel_rfl))
 f27 := Tryz.func207.trans (congrArg some (by kernel_rfl))
 f28 := Tryz.func208.trans (congrArg some (by kernel_rfl))
 f29 := Tryz.func209.trans (congrArg some (by kernel_rfl))
 f30 := Tryz.func210.trans (congrArg some (by kernel_rfl))
 f31 := Tryz.func211.trans (congrArg some (by kernel_rfl))
 f32 := Tryz.func212.trans (congrArg some (by kernel_rfl))
 f33 := Tryz.func213.trans (congrArg some (by kernel_rfl))
 f34 := Tryz.func257.trans (congrArg some (by kernel_rfl))
 f35 := Tryz.func258.trans (congrArg some (by kernel_rfl))
 f36 := Tryz.func259.trans (congrArg some (by kernel_rfl))
 f37 := Tryz.func260.trans (congrArg some (by kernel_rfl))
 f38 := Tryz.func261.trans (congrArg some (by kernel_rfl))
 f39 := Tryz.func290.trans (congrArg some (by kernel_rfl))
 t0 := Tryz.underlying0
 a0 := Tryz.isAgg0
 z0 := Tryz.sizeOf0
 v0 := Tryz.zeroValue0
 i0 := by kernel_rfl
 t3 := Tryz.underlying3
 a3 := Tryz.isAgg3
 z3 := Tryz.sizeOf3
 v3 := Tryz.zeroValue3
 i3 := by kernel_rfl
 t4 := Tryz.underlying4
 a4 := Tryz.isAgg4
 z4 := Tryz.sizeOf4
 v4 := Tryz.zeroValue4
 i4 := by kernel_rfl
 t5 := Tryz.underlying5
 a5 := Tryz.isAgg5
 z5 := Tryz.sizeOf5
 v5 := Tryz.zeroValue5
 i5 := by kernel_rfl
 t9 := Tryz.underlying9
 a9 := Tryz.isAgg9
 z9 := Tryz.sizeOf9
 v9 := Tryz.zeroValue9
 i9 := by kernel_rfl
 t12 := Tryz.underlying12
 a12 := Tryz.isAgg12
 z12 := Tryz.sizeOf12
 v12 := Tryz.zeroValue12
 i12 := by kernel_rfl
 t17 := Tryz.underlying17
 a17 := Tryz.isAgg17
 z17 := Tryz.sizeOf17
 v17 := Tryz.zeroValue17
 i17 := by kernel_rfl
 t20 := Tryz.underlying20
 a20 := Tryz.isAgg20
 z20 := Tryz.sizeOf20
 v20 := Tryz.zeroValue20
 i20 := by kernel_rfl
 t26 := Tryz.underlying210
 a26 := Tryz.isAgg210
 z26 := Tryz.sizeOf210
 v26 := Tryz.zeroValue210
 i26 := by kernel_rfl
 t32 := Tryz.underlying191
 a32 := Tryz.isAgg191
 z32 := Tryz.sizeOf191
 v32 := Tryz.zeroValue191
 i32 := by kernel_rfl
 t33 := Tryz.underlying192
 a33 := Tryz.isAgg192
 z33 := Tryz.sizeOf192
 v33 := Tryz.zeroValue192
 i33 := by kernel_rfl
 t35 := Tryz.underlying194
 a35 := Tryz.isAgg194
 z35 := Tryz.sizeOf194
 v35 := Tryz.zeroValue194
 i35 := by kernel_rfl
 t37 := Tryz.underlying273
 a37 := Tryz.isAgg273
 z37 := Tryz.sizeOf273
 v37 := Tryz.zeroValue273
 i37 := by kernel_rfl
 t41 := Tryz.underlying127
 a41 := Tryz.isAgg127
 z41 := Tryz.sizeOf127
 v41 := Tryz.zeroValue127
 i41 := by kernel_rfl
 t44 := Tryz.underlying277
 a44 := Tryz.isAgg277
 z44 := Tryz.sizeOf277
 v44 := Tryz.zeroValue277
 i44 := by kernel_rfl
 t49 := Tryz.underlying258
 a49 := Tryz.isAgg258
 z49 := Tryz.sizeOf258
 v49 := Tryz.zeroValue258
 i49 := by kernel_rfl
 t51 := Tryz.underlying260
 a51 := Tryz.isAgg260
 z51 := Tryz.sizeOf260
 v51 := Tryz.zeroValue260
 i51 := by kernel_rfl
 t53 := Tryz.underlying303
 a53 := Tryz.isAgg303
 z53 := Tryz.sizeOf303
 v53 := Tryz.zeroValue303
 i53 := by kernel_rfl
 t54 := Tryz.underlying304
 a54 := Tryz.isAgg304
 z54 := Tryz.sizeOf304
 v54 := Tryz.zeroValue304
 i54 := by kernel_rfl
 t58 := Tryz.underlying133
 a58 := Tryz.isAgg133
 z58 := Tryz.sizeOf133
 v58 := Tryz.zeroValue133
 i58 := by kernel_rfl
 t60 := Tryz.underlying347
 a60 := Tryz.isAgg347
 z60 := Tryz.sizeOf347
 v60 := Tryz.zeroValue347
 i60 := by kernel_rfl
 t64 := Tryz.underlying300
 a64 := Tryz.isAgg300
 z64 := Tryz.sizeOf300
 v64 := Tryz.zeroValue300
 i64 := by kernel_rfl
 t66 := Tryz.underlying372
 a66 := Tryz.isAgg372
 z66 := Tryz.sizeOf372
 v66 := Tryz.zeroValue372
 i66 := by kernel_rfl
 t67 := Tryz.underlying345
 a67 := Tryz.isAgg345
 z67 := Tryz.sizeOf345
 v67 := Tryz.zeroValue345
 i67 := by kernel_rfl
 t75 := Tryz.underlying398
 a75 := Tryz.isAgg398
 z75 := Tryz.sizeOf398
 v75 := Tryz.zeroValue398
 i75 := by kernel_rfl
 t76 := Tryz.underlying199
 a76 := Tryz.isAgg199
 z76 := Tryz.sizeOf199
 v76 := Tryz.zeroValue199
 i76 := by kernel_rfl
 t77 := Tryz.underlying399
 a77 := Tryz.isAgg399
 z77 := Tryz.sizeOf399
 v77 := Tryz.zeroValue399
 i77 := by kernel_rfl
 t78 := Tryz.underlying288
 a78 := Tryz.isAgg288
 z78 := Tryz.sizeOf288
 v78 := Tryz.zeroValue288
 i78 := by kernel_rfl
 t79 := Tryz.underlying400
 a79 := Tryz.isAgg400
 z79 := Tryz.sizeOf400
 v79 := Tryz.zeroValue400
 i79 := by kernel_rfl
 t80 := Tryz.underlying401
 a80 := Tryz.isAgg401
 z80 := Tryz.sizeOf401
 v80 := Tryz.zeroValue401
 i80 := by kernel_rfl
 t82 := Tryz.underlying403
 a82 := Tryz.isAgg403
 z82 := Tryz.sizeOf403
 v82 := Tryz.zeroValue403
 i82 := by kernel_rfl }
def Tryz.laysGg30_ren : Go.Shelf.Ren := ⟨fun | 30 => 210 | n => n, fun | 44 => 277 | 3 => 3 | 0 => 0 | 4 => 4 | 37 => 273 | 26 => 210 | n => n, fun | n => n⟩
theorem Tryz.laysGg30 : Go.Proofs.LaysGg.n30 Tryz.prog Tryz.laysGg30_ren := {
 mixed := by kernel_rfl
 f30 := Tryz.func210.trans (congrArg some (by kernel_rfl))
 t0 := Tryz.underlying0
 a0 := Tryz.isAgg0
 z0 := Tryz.sizeOf0
 v0 := Tryz.zeroValue0
 i0 := by kernel_rfl
 t3 := Tryz.underlying3
 a3 := Tryz.isAgg3
 z3 := Tryz.sizeOf3
 v3 := Tryz.zeroValue3
 i3 := by kernel_rfl
 t4 := Tryz.underlying4
 a4 := Tryz.isAgg4
 z4 := Tryz.sizeOf4
 v4 := Tryz.zeroValue4
 i4 := by kernel_rfl
 t26 := Tryz.underlying210
 a26 := Tryz.isAgg210
 z26 := Tryz.sizeOf210
 v26 := Tryz.zeroValue210
 i26 := by kernel_rfl
 t37 := Tryz.underlying273
 a37 := Tryz.isAgg273
 z37 := Tryz.sizeOf273
 v37 := Tryz.zeroValue273
 i37 := by kernel_rfl
 t44 := Tryz.underlying277
 a44 := Tryz.isAgg277
 z44 := Tryz.sizeOf277
 v44 := Tryz.zeroValue277
 i44 := by kernel_rfl }
def Tryz.lays146_ren : Go.Shelf.Ren := ⟨fun | 146 => 120 | 221 => 165 | 268 => 214 | 138 => 215 | 143 => 216 | 195 => 262 | 197 => 263 | 218 => 264 | 219 => 265 | 260 => 291 | 217 => 292 | 225 => 293 | 224 => 294 | 267 => 295 | 266 => 307 | 314 => 308 | n => n, fun | 9 => 9 | 31 => 114 | 3 => 3 | 4 => 4 | 0 => 0 | 105 => 350 | 21 => 21 | 5 => 5 | 46 => 127 | 119 => 382 | 139 => 385 | 138 => 384 | 146 => 386 | 51 => 258 | n => n, fun | 1 => 4 | 3 => 5 | 4 => 6 | n => n⟩
theorem Tryz.lays146 : Go.Proofs.Lays.n146 Tryz.prog Tryz.lays146_ren := {
 mixed := by kernel_rfl
 f138 := Tryz.func215.trans (congrArg some (by kernel_rfl))
 f143 := Tryz.func216.trans (congrArg some (by kernel_rfl))
 f146 := Tryz.func120.trans (congrArg some (by kernel_rfl))
 f195 := Tryz.func262.trans (congrArg some (by kernel_rfl))
 f197 := Tryz.func263.trans (congrArg some (by kernel_rfl))
 f217 := Tryz.func292.trans (congrArg some (by kernel_rfl))
 f218 := Tryz.func264.trans (congrArg some (by kernel_rfl))
 f219 := Tryz.func265.trans (congrArg some (by kernel_rfl))
 f221 := Tryz.func165.trans (congrArg some (by kernel_rfl))
 f224 := Tryz.func294.trans (congrArg some (by kernel_rfl))
 f225 := Tryz.func293.trans (congrArg some (by kernel_rfl))
 f260 := Tryz.func291.trans (congrArg some (by kernel_rfl))
 f266 := Tryz.func307.trans (congrArg some (by kernel_rfl))
 f267 := Tryz.func295.trans (congrArg some (by kernel_rfl))
 f268 := Tryz.func214.trans (congrArg some (by kernel_rfl))
 f314 := Tryz.func308.trans (congrArg some (by kernel_rfl))
 t0 := Tryz.underlying0
 a0 := Tryz.isAgg0
 z0 := Tryz.sizeOf0
 v0 := Tryz.zeroValue0
 t3 := Tryz.underlying3
 a3 := Tryz.isAgg3
 z3 := Tryz.sizeOf3
 v3 := Tryz.zeroValue3
 t4 := Tryz.underlying4
 a4 := Tryz.isAgg4
 z4 := Tryz.sizeOf4
 v4 := Tryz.zeroValue4
 t5 := Tryz.underlying5
 a5 := Tryz.isAgg5
 z5 := Tryz.sizeOf5
 v5 := Tryz.zeroValue5
 t9 := Tryz.underlying9
 a9 := Tryz.isAgg9
 z9 := Tryz.sizeOf9
 v9 := Tryz.zeroValue9
 t21 := Tryz.underlying21
 a21 := Tryz.isAgg21
 z21 := Tryz.sizeOf21
 v21 := Tryz.zeroValue21
 t31 := Tryz.underlying114
 a31 := Tryz.isAgg114
 z31 := Tryz.sizeOf114
 v31 := Tryz.zeroValue114
 t46 := Tryz.underlying127
 a46 := Tryz.isAgg127
 z46 := Tryz.sizeOf127
 v46 := Tryz.zeroValue127
 t51 := Tryz.underlying258
 a51 := Tryz.isAgg258
 z51 := Tryz.sizeOf258
 v51 := Tryz.zeroValue258
 t105 := Tryz.underlying350
 a105 := Tryz.isAgg350
 z105 := Tryz.sizeOf350
 v105 := Tryz.zeroValue350
 t119 := Tryz.underlying382
 a119 := Tryz.isAgg382
 z119 := Tryz.sizeOf382
 t138 := Tryz.underlying384
 a138 := Tryz.isAgg384
 z138 := Tryz.sizeOf384
 v138 := Tryz.zeroValue384
 t139 := Tryz.underlying385
 a139 := Tryz.isAgg385
 z139 := Tryz.sizeOf385
 v139 := Tryz.zeroValue385
 t146 := Tryz.underlying386
 a146 := Tryz.isAgg386
 z146 := Tryz.sizeOf386
 v146 := Tryz.zeroValue386
 g1 := by kernel_rfl
 g3 := by kernel_rfl
 g4 := by kernel_rfl }
open Go.RowKit Go.Lib in
theorem Tryz.strings_Split (s sep : ByteArray) (m : Int) (w : World) (hs : s.size < 4294967281) (hm : w.cell? ⟨4, 0, none⟩ = some (.int .i64 m)) (h1 : 1 <= sep.size) :
  Calls Tryz.prog 120 #[.string s, .string sep] w fun e w' =>
   e = .returned (.slice (some ⟨w.heap.size, 0, none⟩) (Lib.countB s sep + 1) (Lib.countB s sep + 1)) /\ w' = w.alloc (.cells ((Lib.splitB sep 0 (Lib.countB s sep) s).map Value.string).toArray 9) := Any.strings_Split Tryz.lays146 (by kernel_rfl) s sep m w hs hm h1
open Go.RowKit Go.Sort in
theorem Tryz.slices_Sort_string_none (p : Option Addr) (cap : Nat) (w : World) :
  Calls Tryz.prog 175 #[.slice p 0 cap] w fun e w' => e = .returned (.tuple #[]) /\ w' = w := Any.slices_Sort_string_none Tryz.lays190 p cap w
open Go.RowKit Go.Sort in
theorem Tryz.slices_Sort_int_none (p : Option Addr) (cap : Nat) (w : World) :
  Calls Tryz.prog 55 #[.slice p 0 cap] w fun e w' => e = .returned (.tuple #[]) /\ w' = w := Any.slices_Sort_int_none Tryz.lays189 p cap w
open Go.RowKit Go.Sort in
theorem Tryz.sort_Strings_none (p : Option Addr) (cap : Nat) (w : World) :
  Calls Tryz.prog 134 #[.slice p 0 cap] w fun e w' => e = .returned (.tuple #[]) /\ w' = w := Any.sort_Strings_none Tryz.lays192 p cap w
open Go.RowKit Go.Sort in
theorem Tryz.sort_Ints_none (p : Option Addr) (cap : Nat) (w : World) :
  Calls Tryz.prog 68 #[.slice p 0 cap] w fun e w' => e = .returned (.tuple #[]) /\ w' = w := Any.sort_Ints_none Tryz.lays191 p cap w
open Go.RowKit Go.Lib Go.Sort in
theorem Tryz.reverseRange_func_cells_w {α : Type} [Inhabited α] (enc : α -> List Value) (k : Nat) (hk : ∀ x, (enc x).length = k) (lf : Fn) (la lb : Array Value) (sf : Nat) (sb : Array Value) (blk off a b : Nat) (d : Array α) (w : World) (hswap : SwapSwapsK Tryz.prog sf sb enc k blk off d.size) (hH : HoldsK enc k w blk off d) (hblk : blk < w.heap.size) (hab : a <= b) (hb : b <= d.size) (hsz : d.size < 4611686018427387904) :
  Calls Tryz.prog 210 #[.agg #[.func lf la lb, .func (.func sf) #[] sb], .int .i64 a, .int .i64 b] w fun e w' => e = .returned (.tuple #[]) /\ ∃ n os, w' = sortWorldK enc k w blk off n (reverseRange d a b) os := Any.reverseRange_func_cells_w Tryz.laysGg30 enc k hk lf la lb sf sb blk off a b d w hswap hH hblk hab hb hsz
end Go.Proofs

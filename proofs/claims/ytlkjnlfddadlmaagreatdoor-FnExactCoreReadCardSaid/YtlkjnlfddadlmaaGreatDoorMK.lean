/-
  DERIVED: THE SHELF's CONTRACTS AT THIS DUMP, IN PLAIN WORDS (tools/lay-plain.mjs out of 'TryzShelf.lean', which tools/lay-shelf.mjs wrote): THE SAME DECLARATIONS UNDER THE SAME NAMES: 'import', 'namespace', 'open', 'def', 'theorem' AND NOTHING ELSE: no command of the shelf's: FOR A HAND-IN. Each laying: the table of numbers ('.._ren') and one theorem, a field a fact of the dump's own or the kernel's comparison; each contract: ONE APPLICATION.
-/
import Derived.Shelf.Strings.Builder1
import Derived.Shelf.Strings.Builder2
import Derived.Shelf.Strings.OnBuilder
import Derived.Shelf.Small.Utf8
import Derived.Shelf.Small.Strs
import Derived.Shelf.Small.Wraps
import Derived.Shelf.Strings.BuilderF
import Derived.Shelf.Strings.BuilderK
import Derived.Shelf.Strings.Builder2Cap
import Derived.Shelf.Strconv.Atoi
import Derived.Shelf.Strconv.Itoa0
import Derived.Shelf.Strconv.Itoa1
import Derived.Shelf.LaysM
import Derived.Shelf.Strconv.Itoa2
import Derived.Shelf.Strconv.Itoa3
import Derived.Shelf.Strconv.AtoiErrFast
import Derived.Shelf.Strconv.ParseIntEmpty
import Derived.Shelf.Strconv.AtoiFail
import Derived.Shelf.Strconv.Clone
import Derived.Shelf.Strconv.SyntaxError
import Derived.Shelf.LaysC
import Derived.Shelf.Strconv.ToError
import Derived.Shelf.Strconv.Lower
import Derived.Shelf.Strconv.ParseUint10
import Derived.Shelf.Strconv.ParseUint10Empty
import Derived.Shelf.Strconv.ParseUint10Any
import Derived.Shelf.Strconv.ParseInt10
import Derived.Shelf.Strconv.AtoiLong
import Derived.Shelf.Strconv.AtoiInnerAll
import Derived.Shelf.Strconv.RangeError
import Derived.Shelf.Strconv.ToErrorRange
import Derived.Shelf.Strconv.AtoiAll
import Derived.Shelf.Strconv.ErrVarAll
import Derived.Shelf.Strconv.ParseUintEmpty
import Derived.Shelf.Strconv.ParseUint10b64
import Derived.Shelf.Strconv.ParseUint10b32
import Derived.Shelf.Strconv.ParseUint10b16
import Derived.Shelf.Strconv.ParseUint10b8
import Derived.Shelf.Strings.Search1
import Derived.Shelf.Strings.Prefix
import Derived.Shelf.Strings.Runes
import Derived.Shelf.Strings.IndexAny
import Derived.Shelf.Strings.AsciiSet
import Derived.Shelf.Strings.IndexAnyAll
import Derived.Shelf.Slices.Turned
import Derived.Test.YtlkjnlfddadlmaaGreatDoorProg
import Derived.Test.YtlkjnlfddadlmaaGreatDoorM6
import Derived.Laws.RangeAny
import Derived.Laws.Runes
import Derived.Lib.OthersKept
import Derived.Lib.DecodeN
import Derived.Lib.MapLaws
import Derived.WalkKit
import Derived.WalkMore
import Derived.Deep.LoopGhost
import Derived.Deep.QuietTactic
import Derived.KernelRfl
import Derived.Lib.Strings
import Derived.Lib.Slices
import Derived.Lib.Walk
import Derived.Lib.Bytealg
import Derived.Lib.AtoiErrMem
import Derived.Lib.AppendZeros
import Derived.Lib.AppendZerosOnto
import Derived.Lib.SliceRun
import Derived.Shelf.RegionOpenPlain
set_option linter.unusedVariables false
set_option linter.unusedSimpArgs false
namespace Go.Proofs
open Go.Shelf
def Tryz.lays156_ren : Go.Shelf.Ren := ⟨fun | 156 => 43 | 165 => 64 | 166 => 65 | 169 => 66 | 240 => 84 | 241 => 85 | 276 => 94 | 277 => 95 | n => n, fun | 31 => 31 | 9 => 9 | 3 => 3 | 4 => 4 | 0 => 0 | 20 => 20 | 72 => 78 | 76 => 55 | 70 => 76 | 37 => 66 | 75 => 54 | 127 => 95 | 164 => 107 | 5 => 5 | 80 => 52 | n => n, fun | n => n⟩
theorem Tryz.lays156 : Go.Proofs.Lays.n156 Tryz.prog Tryz.lays156_ren := {
 mixed := by kernel_rfl
 f156 := Tryz.func43.trans (congrArg some (by kernel_rfl))
 f165 := Tryz.func64.trans (congrArg some (by kernel_rfl))
 f166 := Tryz.func65.trans (congrArg some (by kernel_rfl))
 f169 := Tryz.func66.trans (congrArg some (by kernel_rfl))
 f240 := Tryz.func84.trans (congrArg some (by kernel_rfl))
 f241 := Tryz.func85.trans (congrArg some (by kernel_rfl))
 f276 := Tryz.func94.trans (congrArg some (by kernel_rfl))
 f277 := Tryz.func95.trans (congrArg some (by kernel_rfl))
 t0 := Tryz.underlying0
 a0 := Tryz.isAgg0
 z0 := Tryz.sizeOf0
 v0 := Tryz.zeroValue0
 t3 := Tryz.underlying3
 a3 := Tryz.isAgg3
 z3 := Tryz.sizeOf3
 v3 := Tryz.zeroValue3
 t4 := Tryz.underlying4
 a4 := Tryz.isAgg4
 z4 := Tryz.sizeOf4
 v4 := Tryz.zeroValue4
 t9 := Tryz.underlying9
 a9 := Tryz.isAgg9
 z9 := Tryz.sizeOf9
 v9 := Tryz.zeroValue9
 t20 := Tryz.underlying20
 a20 := Tryz.isAgg20
 z20 := Tryz.sizeOf20
 v20 := Tryz.zeroValue20
 t31 := Tryz.underlying31
 a31 := Tryz.isAgg31
 z31 := Tryz.sizeOf31
 v31 := Tryz.zeroValue31
 t37 := Tryz.underlying66
 a37 := Tryz.isAgg66
 z37 := Tryz.sizeOf66
 v37 := Tryz.zeroValue66
 t70 := Tryz.underlying76
 a70 := Tryz.isAgg76
 z70 := Tryz.sizeOf76
 v70 := Tryz.zeroValue76
 t72 := Tryz.underlying78
 a72 := Tryz.isAgg78
 z72 := Tryz.sizeOf78
 v72 := Tryz.zeroValue78
 t75 := Tryz.underlying54
 a75 := Tryz.isAgg54
 z75 := Tryz.sizeOf54
 v75 := Tryz.zeroValue54
 t76 := Tryz.underlying55
 a76 := Tryz.isAgg55
 z76 := Tryz.sizeOf55
 v76 := Tryz.zeroValue55
 t127 := Tryz.underlying95
 a127 := Tryz.isAgg95
 z127 := Tryz.sizeOf95
 v127 := Tryz.zeroValue95
 t164 := Tryz.underlying107
 a164 := Tryz.isAgg107
 z164 := Tryz.sizeOf107
 v164 := Tryz.zeroValue107 }
theorem Tryz.Builder_Extra_156 : Builder.Extra Tryz.prog Tryz.lays156_ren := {
 sizeBuilder := by kernel_rfl
 liesBuilder := by kernel_rfl
 t5 := Tryz.underlying5
 a5 := Tryz.isAgg5
 z5 := Tryz.sizeOf5
 v5 := Tryz.zeroValue5
 infoByte := by kernel_rfl
 cellsByte := by kernel_rfl
 sizeByte := by kernel_rfl
 neB5 := by decide }
open Go.RowKit in
theorem Tryz.strings_Join_none (a : Option Addr) (c : Nat) (sep : ByteArray) (w : World) :
  Calls Tryz.prog 43 #[.slice a 0 c, .string sep] w fun e w' => e = .returned (.string ⟨#[]⟩) ∧ w' = w := Any.strings_Join_none Tryz.lays156 Tryz.Builder_Extra_156 a c sep w
open Go.RowKit in
theorem Tryz.strings_Join (bk o c : Nat) (xs : List ByteArray) (sep : ByteArray) (w : World) (hcells : ∀ (j : Nat) x, xs[j]? = some x → w.cell? ⟨bk, o + j, none⟩ = some (.string x)) (hbk : bk < w.heap.size) (hN : xs.length ≤ 140737488355328) (hcap : xs.length ≤ c) (hlen : (Lib.join (xs.map (·.data.toList)) sep.data.toList).length ≤ 140737488355328) :
  Calls Tryz.prog 43 #[.slice (some ⟨bk, o, none⟩) xs.length c, .string sep] w fun e w' => e = .returned (.string ⟨(Lib.join (xs.map (·.data.toList)) sep.data.toList).toArray⟩) ∧ Below w.heap.size w w' := Any.strings_Join Tryz.lays156 Tryz.Builder_Extra_156 bk o c xs sep w hcells hbk hN hcap hlen
def Tryz.lays103_ren : Go.Shelf.Ren := ⟨fun | 103 => 54 | 210 => 80 | 206 => 55 | n => n, fun | 9 => 9 | 4 => 4 | 24 => 69 | 3 => 3 | n => n, fun | n => n⟩
theorem Tryz.lays103 : Go.Proofs.Lays.n103 Tryz.prog Tryz.lays103_ren := {
 mixed := by kernel_rfl
 f103 := Tryz.func54.trans (congrArg some (by kernel_rfl))
 f206 := Tryz.func55.trans (congrArg some (by kernel_rfl))
 f210 := Tryz.func80.trans (congrArg some (by kernel_rfl))
 t3 := Tryz.underlying3
 a3 := Tryz.isAgg3
 z3 := Tryz.sizeOf3
 v3 := Tryz.zeroValue3
 t4 := Tryz.underlying4
 a4 := Tryz.isAgg4
 z4 := Tryz.sizeOf4
 v4 := Tryz.zeroValue4
 t9 := Tryz.underlying9
 a9 := Tryz.isAgg9
 z9 := Tryz.sizeOf9
 v9 := Tryz.zeroValue9
 t24 := Tryz.underlying69
 a24 := Tryz.isAgg69
 z24 := Tryz.sizeOf69
 v24 := Tryz.zeroValue69 }
open Go.RowKit in
theorem Tryz.strings_CutPrefix (s p : ByteArray) (w : World) :
  Calls Tryz.prog 54 #[.string s, .string p] w fun e w' => e = .returned (.tuple #[.string ⟨(Lib.trimPrefix s.data.toList p.data.toList).toArray⟩, .bool (Lib.hasPrefix s.data.toList p.data.toList)]) ∧ w' = w := Any.strings_CutPrefix Tryz.lays103 s p w
def Tryz.laysM171_ren : Go.Shelf.Ren := ⟨fun | 171 => 53 | 243 => 79 | 246 => 92 | 283 => 98 | 284 => 99 | 285 => 100 | 286 => 101 | 129 => 103 | 317 => 102 | 318 => 104 | 319 => 105 | 320 => 106 | 337 => 107 | 338 => 108 | n => n, fun | 3 => 3 | 9 => 9 | 2 => 2 | 4 => 4 | 171 => 114 | 0 => 0 | 53 => 99 | 37 => 66 | 5 => 5 | 173 => 117 | 212 => 120 | 51 => 121 | 20 => 20 | 213 => 122 | 46 => 97 | 232 => 125 | 233 => 126 | n => n, fun | 17 => 3 | 18 => 4 | 19 => 5 | n => n⟩
theorem Tryz.laysM171 : Go.Proofs.LaysM.n171 Tryz.prog Tryz.laysM171_ren := {
 mixed := by kernel_rfl
 f129 := Tryz.func103.trans (congrArg some (by kernel_rfl))
 f171 := Tryz.func53.trans (congrArg some (by kernel_rfl))
 f243 := Tryz.func79.trans (congrArg some (by kernel_rfl))
 f246 := Tryz.func92.trans (congrArg some (by kernel_rfl))
 f283 := Tryz.func98.trans (congrArg some (by kernel_rfl))
 f284 := Tryz.func99.trans (congrArg some (by kernel_rfl))
 f285 := Tryz.func100.trans (congrArg some (by kernel_rfl))
 f286 := Tryz.func101.trans (congrArg some (by kernel_rfl))
 f317 := Tryz.func102.trans (congrArg some (by kernel_rfl))
 f318 := Tryz.func104.trans (congrArg some (by kernel_rfl))
 f319 := Tryz.func105.trans (congrArg some (by kernel_rfl))
 f320 := Tryz.func106.trans (congrArg some (by kernel_rfl))
 f337 := Tryz.func107.trans (congrArg some (by kernel_rfl))
 f338 := Tryz.func108.trans (congrArg some (by kernel_rfl))
 t0 := Tryz.underlying0
 a0 := Tryz.isAgg0
 z0 := Tryz.sizeOf0
 v0 := Tryz.zeroValue0
 t2 := Tryz.underlying2
 a2 := Tryz.isAgg2
 z2 := Tryz.sizeOf2
 v2 := Tryz.zeroValue2
 t3 := Tryz.underlying3
 a3 := Tryz.isAgg3
 z3 := Tryz.sizeOf3
 v3 := Tryz.zeroValue3
 t4 := Tryz.underlying4
 a4 := Tryz.isAgg4
 z4 := Tryz.sizeOf4
 v4 := Tryz.zeroValue4
 t5 := Tryz.underlying5
 a5 := Tryz.isAgg5
 z5 := Tryz.sizeOf5
 v5 := Tryz.zeroValue5
 t9 := Tryz.underlying9
 a9 := Tryz.isAgg9
 z9 := Tryz.sizeOf9
 v9 := Tryz.zeroValue9
 t20 := Tryz.underlying20
 a20 := Tryz.isAgg20
 z20 := Tryz.sizeOf20
 v20 := Tryz.zeroValue20
 t37 := Tryz.underlying66
 a37 := Tryz.isAgg66
 z37 := Tryz.sizeOf66
 v37 := Tryz.zeroValue66
 t46 := Tryz.underlying97
 a46 := Tryz.isAgg97
 z46 := Tryz.sizeOf97
 v46 := Tryz.zeroValue97
 t51 := Tryz.underlying121
 a51 := Tryz.isAgg121
 z51 := Tryz.sizeOf121
 v51 := Tryz.zeroValue121
 t53 := Tryz.underlying99
 a53 := Tryz.isAgg99
 z53 := Tryz.sizeOf99
 v53 := Tryz.zeroValue99
 t171 := Tryz.underlying114
 a171 := Tryz.isAgg114
 z171 := Tryz.sizeOf114
 v171 := Tryz.zeroValue114
 t173 := Tryz.underlying117
 a173 := Tryz.isAgg117
 z173 := Tryz.sizeOf117
 v173 := Tryz.zeroValue117
 t212 := Tryz.underlying120
 a212 := Tryz.isAgg120
 z212 := Tryz.sizeOf120
 v212 := Tryz.zeroValue120
 t213 := Tryz.underlying122
 a213 := Tryz.isAgg122
 z213 := Tryz.sizeOf122
 t232 := Tryz.underlying125
 a232 := Tryz.isAgg125
 z232 := Tryz.sizeOf125
 v232 := Tryz.zeroValue125
 t233 := Tryz.underlying126
 a233 := Tryz.isAgg126
 z233 := Tryz.sizeOf126
 v233 := Tryz.zeroValue126
 g17 := by kernel_rfl
 g18 := by kernel_rfl
 g19 := by kernel_rfl
 i0 := by kernel_rfl
 i2 := by kernel_rfl
 i3 := by kernel_rfl
 i4 := by kernel_rfl
 i5 := by kernel_rfl
 i9 := by kernel_rfl
 i20 := by kernel_rfl
 i37 := by kernel_rfl
 i46 := by kernel_rfl
 i51 := by kernel_rfl
 i53 := by kernel_rfl
 i171 := by kernel_rfl
 i173 := by kernel_rfl
 i212 := by kernel_rfl
 i232 := by kernel_rfl
 i233 := by kernel_rfl
 m17 := by kernel_rfl
 m18 := by kernel_rfl
 m19 := by kernel_rfl }
open Go.RowKit Go.Sort Go.Lib in
theorem Tryz.strconv_Itoa (n : Int) (h0 : -9223372036854775808 ≤ n) (h1 : n ≤ 9223372036854775807) (w : World) (htab : Lib.TabIs Tryz.prog w "internal/strconv.uint64pow10" .u64 Lib.pow10Tab) :
  Calls Tryz.prog 53 #[.int .i64 n] w fun e w' => e = .returned (.string ⟨(Lib.itoa n).toArray⟩) ∧ ∃ k os, w' = grow (w.drewN k) os := Any.strconv_Itoa Tryz.laysM171 n h0 h1 w htab
def Tryz.laysC172_ren : Go.Shelf.Ren := ⟨fun | 172 => 33 | 244 => 51 | 245 => 52 | 247 => 74 | 279 => 75 | 280 => 76 | 281 => 77 | 282 => 78 | 287 => 89 | 316 => 90 | 171 => 53 | 205 => 91 | 321 => 96 | 322 => 97 | 243 => 79 | 246 => 92 | 283 => 98 | 284 => 99 | 285 => 100 | 286 => 101 | 129 => 103 | 317 => 102 | 318 => 104 | 319 => 105 | 320 => 106 | 337 => 107 | 338 => 108 | n => n, fun | 9 => 9 | 3 => 3 | 75 => 54 | 76 => 55 | 4 => 4 | 5 => 5 | 167 => 86 | 37 => 66 | 0 => 0 | 85 => 87 | 2 => 2 | 168 => 89 | 53 => 99 | 175 => 100 | 46 => 97 | 210 => 104 | 127 => 95 | 145 => 113 | 143 => 111 | 21 => 21 | 171 => 114 | 173 => 117 | 212 => 120 | 51 => 121 | 20 => 20 | 213 => 122 | 232 => 125 | 233 => 126 | 80 => 52 | n => n, fun | 15 => 0 | 16 => 1 | 17 => 3 | 18 => 4 | 19 => 5 | n => n⟩
theorem Tryz.laysC172 : Go.Proofs.LaysC.n172 Tryz.prog Tryz.laysC172_ren := {
 mixed := by kernel_rfl
 f129 := Tryz.func103.trans (congrArg some (by kernel_rfl))
 f171 := Tryz.func53.trans (congrArg some (by kernel_rfl))
 f172 := Tryz.func33.trans (congrArg some (by kernel_rfl))
 f205 := Tryz.func91.trans (congrArg some (by kernel_rfl))
 f243 := Tryz.func79.trans (congrArg some (by kernel_rfl))
 f244 := Tryz.func51.trans (congrArg some (by kernel_rfl))
 f245 := Tryz.func52.trans (congrArg some (by kernel_rfl))
 f246 := Tryz.func92.trans (congrArg some (by kernel_rfl))
 f247 := Tryz.func74.trans (congrArg some (by kernel_rfl))
 f279 := Tryz.func75.trans (congrArg some (by kernel_rfl))
 f280 := Tryz.func76.trans (congrArg some (by kernel_rfl))
 f281 := Tryz.func77.trans (congrArg some (by kernel_rfl))
 f282 := Tryz.func78.trans (congrArg some (by kernel_rfl))
 f283 := Tryz.func98.trans (congrArg some (by kernel_rfl))
 f284 := Tryz.func99.trans (congrArg some (by kernel_rfl))
 f285 := Tryz.func100.trans (congrArg some (by kernel_rfl))
 f286 := Tryz.func101.trans (congrArg some (by kernel_rfl))
 f287 := Tryz.func89.trans (congrArg some (by kernel_rfl))
 f316 := Tryz.func90.trans (congrArg some (by kernel_rfl))
 f317 := Tryz.func102.trans (congrArg some (by kernel_rfl))
 f318 := Tryz.func104.trans (congrArg some (by kernel_rfl))
 f319 := Tryz.func105.trans (congrArg some (by kernel_rfl))
 f320 := Tryz.func106.trans (congrArg some (by kernel_rfl))
 f321 := Tryz.func96.trans (congrArg some (by kernel_rfl))
 f322 := Tryz.func97.trans (congrArg some (by kernel_rfl))
 f337 := Tryz.func107.trans (congrArg some (by kernel_rfl))
 f338 := Tryz.func108.trans (congrArg some (by kernel_rfl))
 t0 := Tryz.underlying0
 a0 := Tryz.isAgg0
 z0 := Tryz.sizeOf0
 v0 := Tryz.zeroValue0
 t2 := Tryz.underlying2
 a2 := Tryz.isAgg2
 z2 := Tryz.sizeOf2
 v2 := Tryz.zeroValue2
 t3 := Tryz.underlying3
 a3 := Tryz.isAgg3
 z3 := Tryz.sizeOf3
 v3 := Tryz.zeroValue3
 t4 := Tryz.underlying4
 a4 := Tryz.isAgg4
 z4 := Tryz.sizeOf4
 v4 := Tryz.zeroValue4
 t5 := Tryz.underlying5
 a5 := Tryz.isAgg5
 z5 := Tryz.sizeOf5
 v5 := Tryz.zeroValue5
 t9 := Tryz.underlying9
 a9 := Tryz.isAgg9
 z9 := Tryz.sizeOf9
 v9 := Tryz.zeroValue9
 t20 := Tryz.underlying20
 a20 := Tryz.isAgg20
 z20 := Tryz.sizeOf20
 v20 := Tryz.zeroValue20
 t21 := Tryz.underlying21
 a21 := Tryz.isAgg21
 z21 := Tryz.sizeOf21
 v21 := Tryz.zeroValue21
 t37 := Tryz.underlying66
 a37 := Tryz.isAgg66
 z37 := Tryz.sizeOf66
 v37 := Tryz.zeroValue66
 t46 := Tryz.underlying97
 a46 := Tryz.isAgg97
 z46 := Tryz.sizeOf97
 v46 := Tryz.zeroValue97
 t51 := Tryz.underlying121
 a51 := Tryz.isAgg121
 z51 := Tryz.sizeOf121
 v51 := Tryz.zeroValue121
 t53 := Tryz.underlying99
 a53 := Tryz.isAgg99
 z53 := Tryz.sizeOf99
 v53 := Tryz.zeroValue99
 t75 := Tryz.underlying54
 a75 := Tryz.isAgg54
 z75 := Tryz.sizeOf54
 v75 := Tryz.zeroValue54
 t76 := Tryz.underlying55
 a76 := Tryz.isAgg55
 z76 := Tryz.sizeOf55
 v76 := Tryz.zeroValue55
 t85 := Tryz.underlying87
 a85 := Tryz.isAgg87
 z85 := Tryz.sizeOf87
 v85 := Tryz.zeroValue87
 t127 := Tryz.underlying95
 a127 := Tryz.isAgg95
 z127 := Tryz.sizeOf95
 v127 := Tryz.zeroValue95
 t143 := Tryz.underlying111
 a143 := Tryz.isAgg111
 z143 := Tryz.sizeOf111
 v143 := Tryz.zeroValue111
 t145 := Tryz.underlying113
 a145 := Tryz.isAgg113
 z145 := Tryz.sizeOf113
 v145 := Tryz.zeroValue113
 t167 := Tryz.underlying86
 a167 := Tryz.isAgg86
 z167 := Tryz.sizeOf86
 v167 := Tryz.zeroValue86
 t168 := Tryz.underlying89
 a168 := Tryz.isAgg89
 z168 := Tryz.sizeOf89
 v168 := Tryz.zeroValue89
 t171 := Tryz.underlying114
 a171 := Tryz.isAgg114
 z171 := Tryz.sizeOf114
 v171 := Tryz.zeroValue114
 t173 := Tryz.underlying117
 a173 := Tryz.isAgg117
 z173 := Tryz.sizeOf117
 v173 := Tryz.zeroValue117
 t175 := Tryz.underlying100
 a175 := Tryz.isAgg100
 z175 := Tryz.sizeOf100
 v175 := Tryz.zeroValue100
 t210 := Tryz.underlying104
 a210 := Tryz.isAgg104
 z210 := Tryz.sizeOf104
 v210 := Tryz.zeroValue104
 t212 := Tryz.underlying120
 a212 := Tryz.isAgg120
 z212 := Tryz.sizeOf120
 v212 := Tryz.zeroValue120
 t213 := Tryz.underlying122
 a213 := Tryz.isAgg122
 z213 := Tryz.sizeOf122
 t232 := Tryz.underlying125
 a232 := Tryz.isAgg125
 z232 := Tryz.sizeOf125
 v232 := Tryz.zeroValue125
 t233 := Tryz.underlying126
 a233 := Tryz.isAgg126
 z233 := Tryz.sizeOf126
 v233 := Tryz.zeroValue126
 g15 := by kernel_rfl
 g16 := by kernel_rfl
 g17 := by kernel_rfl
 g18 := by kernel_rfl
 g19 := by kernel_rfl
 t80 := Tryz.underlying52
 a80 := Tryz.isAgg52
 z80 := Tryz.sizeOf52
 v80 := Tryz.zeroValue52
 i0 := by kernel_rfl
 i2 := by kernel_rfl
 i3 := by kernel_rfl
 i4 := by kernel_rfl
 i5 := by kernel_rfl
 i9 := by kernel_rfl
 i20 := by kernel_rfl
 i21 := by kernel_rfl
 i37 := by kernel_rfl
 i46 := by kernel_rfl
 i51 := by kernel_rfl
 i53 := by kernel_rfl
 i75 := by kernel_rfl
 i76 := by kernel_rfl
 i80 := by kernel_rfl
 i85 := by kernel_rfl
 i127 := by kernel_rfl
 i143 := by kernel_rfl
 i145 := by kernel_rfl
 i167 := by kernel_rfl
 i168 := by kernel_rfl
 i171 := by kernel_rfl
 i173 := by kernel_rfl
 i175 := by kernel_rfl
 i210 := by kernel_rfl
 i212 := by kernel_rfl
 i232 := by kernel_rfl
 i233 := by kernel_rfl
 m15 := by kernel_rfl
 m16 := by kernel_rfl
 m17 := by kernel_rfl
 m18 := by kernel_rfl
 m19 := by kernel_rfl
 c0 := by kernel_rfl
 c2 := by kernel_rfl
 c3 := by kernel_rfl
 c4 := by kernel_rfl
 c5 := by kernel_rfl
 c9 := by kernel_rfl
 c20 := by kernel_rfl
 c21 := by kernel_rfl
 c37 := by kernel_rfl
 c46 := by kernel_rfl
 c51 := by kernel_rfl
 c53 := by kernel_rfl
 c75 := by kernel_rfl
 c76 := by kernel_rfl
 c80 := by kernel_rfl
 c85 := by kernel_rfl
 c127 := by kernel_rfl
 c143 := by kernel_rfl
 c145 := by kernel_rfl
 c167 := by kernel_rfl
 c168 := by kernel_rfl
 c171 := by kernel_rfl
 c173 := by kernel_rfl
 c175 := by kernel_rfl
 c210 := by kernel_rfl
 c212 := by kernel_rfl
 c213 := by kernel_rfl
 c232 := by kernel_rfl
 c233 := by kernel_rfl }
def Tryz.lays99_ren : Go.Shelf.Ren := ⟨fun | 99 => 36 | 206 => 55 | n => n, fun | 9 => 9 | 4 => 4 | 3 => 3 | n => n, fun | n => n⟩
theorem Tryz.lays99 : Go.Proofs.Lays.n99 Tryz.prog Tryz.lays99_ren := {
 mixed := by kernel_rfl
 f99 := Tryz.func36.trans (congrArg some (by kernel_rfl))
 f206 := Tryz.func55.trans (congrArg some (by kernel_rfl))
 t3 := Tryz.underlying3
 a3 := Tryz.isAgg3
 z3 := Tryz.sizeOf3
 v3 := Tryz.zeroValue3
 t4 := Tryz.underlying4
 a4 := Tryz.isAgg4
 z4 := Tryz.sizeOf4
 v4 := Tryz.zeroValue4
 t9 := Tryz.underlying9
 a9 := Tryz.isAgg9
 z9 := Tryz.sizeOf9
 v9 := Tryz.zeroValue9 }
open Go.RowKit Go.Lib in
theorem Tryz.strings_HasPrefix (s p : ByteArray) (w : World) :
  Calls Tryz.prog 36 #[.string s, .string p] w fun e w' => e = .returned (.bool (Lib.hasPrefix s.data.toList p.data.toList)) ∧ w' = w := Any.strings_HasPrefix Tryz.lays99 s p w
def Tryz.lays153_ren : Go.Shelf.Ren := ⟨fun | 153 => 50 | 152 => 70 | 226 => 71 | 227 => 72 | 228 => 73 | 137 => 62 | 119 => 86 | 224 => 87 | 225 => 88 | 217 => 83 | 266 => 93 | n => n, fun | 9 => 9 | 3 => 3 | 4 => 4 | 5 => 5 | 21 => 21 | 117 => 84 | 116 => 83 | 0 => 0 | 46 => 97 | 124 => 98 | n => n, fun | n => n⟩
theorem Tryz.lays153 : Go.Proofs.Lays.n153 Tryz.prog Tryz.lays153_ren := {
 mixed := by kernel_rfl
 f119 := Tryz.func86.trans (congrArg some (by kernel_rfl))
 f137 := Tryz.func62.trans (congrArg some (by kernel_rfl))
 f152 := Tryz.func70.trans (congrArg some (by kernel_rfl))
 f153 := Tryz.func50.trans (congrArg some (by kernel_rfl))
 f217 := Tryz.func83.trans (congrArg some (by kernel_rfl))
 f224 := Tryz.func87.trans (congrArg some (by kernel_rfl))
 f225 := Tryz.func88.trans (congrArg some (by kernel_rfl))
 f226 := Tryz.func71.trans (congrArg some (by kernel_rfl))
 f227 := Tryz.func72.trans (congrArg some (by kernel_rfl))
 f228 := Tryz.func73.trans (congrArg some (by kernel_rfl))
 f266 := Tryz.func93.trans (congrArg some (by kernel_rfl))
 t0 := Tryz.underlying0
 a0 := Tryz.isAgg0
 z0 := Tryz.sizeOf0
 v0 := Tryz.zeroValue0
 t3 := Tryz.underlying3
 a3 := Tryz.isAgg3
 z3 := Tryz.sizeOf3
 v3 := Tryz.zeroValue3
 t4 := Tryz.underlying4
 a4 := Tryz.isAgg4
 z4 := Tryz.sizeOf4
 v4 := Tryz.zeroValue4
 t5 := Tryz.underlying5
 a5 := Tryz.isAgg5
 z5 := Tryz.sizeOf5
 v5 := Tryz.zeroValue5
 t9 := Tryz.underlying9
 a9 := Tryz.isAgg9
 z9 := Tryz.sizeOf9
 v9 := Tryz.zeroValue9
 t21 := Tryz.underlying21
 a21 := Tryz.isAgg21
 z21 := Tryz.sizeOf21
 v21 := Tryz.zeroValue21
 t46 := Tryz.underlying97
 a46 := Tryz.isAgg97
 z46 := Tryz.sizeOf97
 v46 := Tryz.zeroValue97
 t116 := Tryz.underlying83
 a116 := Tryz.isAgg83
 z116 := Tryz.sizeOf83
 t117 := Tryz.underlying84
 a117 := Tryz.isAgg84
 z117 := Tryz.sizeOf84
 v117 := Tryz.zeroValue84
 t124 := Tryz.underlying98
 a124 := Tryz.isAgg98
 z124 := Tryz.sizeOf98
 v124 := Tryz.zeroValue98 }
end Go.Proofs
namespace Go.Proofs.YtlkjnlfddadlmaaGreatDoor.V
open Go.Shelf Go.RowKit Go.Lib
def spb : ByteArray := ⟨#[32, 41]⟩
set_option maxHeartbeats 4000000 in
set_option maxRecDepth 1000000 in
theorem zSy {P : Program} {ρ : Ren} (L : Lays.n152 P ρ) (w : World) :
  Calls P (ρ.f 152) #[.string spb, .int .i32 65533] w fun e w' => e = .returned (.int .i64 (-1)) ∧ Below w.heap.size w w' := by
 have mixed := L.mixed
 have t3 := L.t3; have a3 := L.a3; have z3 := L.z3; have v3 := L.v3
 have t4 := L.t4; have a4 := L.a4; have z4 := L.z4; have v4 := L.v4
 have t5 := L.t5; have a5 := L.a5; have z5 := L.z5; have v5 := L.v5
 have t9 := L.t9; have a9 := L.a9; have z9 := L.z9; have v9 := L.v9
 have t21 := L.t21; have a21 := L.a21; have z21 := L.z21; have v21 := L.v21
 go_enter L.f152, Body.n152_ntmps ρ
 go_wp2
 go_loopg [5, 6] 2 (fun g _ _ wx => ∃ i : Nat, i + g = 2 ∧ wx = w.iter spb i)
 case atStart => exact ⟨0, rfl, rfl⟩
 case round =>
  obtain ⟨i, hig, rfl⟩ := hrel
  cases gk with
  | zero =>
   obtain rfl : i = 2 := by omega
   have hnx := fun ty => run_next_end (P := P) w spb 2 ty (by decide)
   go_wp2
   go_ret
   exact ⟨rfl, (Below.refl _ w).alloc (Nat.le_refl _) _⟩
  | succ g =>
   have hi : i < spb.size := by show i < 2; omega
   have hi1 : i = 0 ∨ i = 1 := by omega
   have hb : (spb[i]'hi).toNat < 128 := by
    rcases hi1 with rfl | rfl
    ·exact (by decide : (32 : UInt8).toNat < 128)
    ·exact (by decide : (41 : UInt8).toNat < 128)
   have hnx := fun ty => run_next_ascii (P := P) w spb i ty hi hb
   have hv : ((((spb[i]'hi).toNat : Nat) : Int) == 65533) = false := beq_eq_false_iff_ne.2 (by omega)
   have hv' : (decide (((spb[i]'hi).toNat : Int) = 65533)) = false := decide_eq_false (by omega)
   generalize ((spb[i]'hi).toNat : Int) = v at hnx hv hv'
   go_wp2
   go_roundg g
   case measure => omega
   case rel => exact ⟨i + 1, by omega, rfl⟩
set_option maxHeartbeats 4000000 in
set_option maxRecDepth 1000000 in
theorem zVa {P : Program} {ρ : Ren} (L : Lays.n152 P ρ) (w : World) (r : Int) (h0 : 128 ≤ r) (hr : (r == 65533) = false) (hv : Lib.validRune r = false) :
  Calls P (ρ.f 152) #[.string spb, .int .i32 r] w fun e w' => e = .returned (.int .i64 (-1)) ∧ Below w.heap.size w w' := by
 have mixed := L.mixed
 have t3 := L.t3; have a3 := L.a3; have z3 := L.z3; have v3 := L.v3
 have t4 := L.t4; have a4 := L.a4; have z4 := L.z4; have v4 := L.v4
 have t5 := L.t5; have a5 := L.a5; have z5 := L.z5; have v5 := L.v5
 have t9 := L.t9; have a9 := L.a9; have z9 := L.z9; have v9 := L.v9
 have t21 := L.t21; have a21 := L.a21; have z21 := L.z21; have v21 := L.v21
 have e119 : ∀ args w, (callFunc (ρ.f 119) args).run P w = .ok (.enter (ρ.f 119) args) w := Go.Proofs.enters_of L.f119 (by kernel_rfl) rfl
 have hlt : (0 : Int) ≤ r := by omega
 have hge : ¬ (r < 128) := by omega
 go_enter L.f152, Body.n152_ntmps ρ
 go_wp2_with (go_at_fn (ρ.f 119); refine (Any.utf8_ValidRune { L with } _ _).mono ?_; rintro e w' ⟨rfl, hw⟩; rw [hw, hv])
 go_ret
 exact ⟨rfl, Below.refl _ w⟩
set_option maxHeartbeats 8000000 in
set_option maxRecDepth 1000000 in
theorem zPw {P : Program} {ρ : Ren} (L : Lays.n152 P ρ) (w : World) (r : Int) (rs : ByteArray) (h0 : 128 ≤ r) (hr : (r == 65533) = false) (hv : Lib.validRune r = true) (f1 : 2 < rs.size) (f2 : rs.size ≤ 4)
  (hcv : ∀ w, (convert (ρ.t 21) (ρ.t 9) (.int .i32 r)).run P w = .ok (.string rs) w) :
  Calls P (ρ.f 152) #[.string spb, .int .i32 r] w fun e w' => e = .returned (.int .i64 (-1)) ∧ Below w.heap.size w w' := by
 have mixed := L.mixed
 have t3 := L.t3; have a3 := L.a3; have z3 := L.z3; have v3 := L.v3
 have t4 := L.t4; have a4 := L.a4; have z4 := L.z4; have v4 := L.v4
 have t5 := L.t5; have a5 := L.a5; have z5 := L.z5; have v5 := L.v5
 have t9 := L.t9; have a9 := L.a9; have z9 := L.z9; have v9 := L.v9
 have t21 := L.t21; have a21 := L.a21; have z21 := L.z21; have v21 := L.v21
 have e119 : ∀ args w, (callFunc (ρ.f 119) args).run P w = .ok (.enter (ρ.f 119) args) w := Go.Proofs.enters_of L.f119 (by kernel_rfl) rfl
 have hlt : (0 : Int) ≤ r := by omega
 have hge : ¬ (r < 128) := by omega
 have hw1 : IntKind.i64.wrap ((rs.size : Int) - 1) = ((rs.size - 1 : Nat) : Int) := by rw [Go.IntWalk.i64_in _ ⟨by omega, by omega⟩]; omega
 go_enter L.f152, Body.n152_ntmps ρ
 go_wp2_with (go_at_fn (ρ.f 119); refine (Any.utf8_ValidRune { L with } _ _).mono ?_; rintro e w' ⟨rfl, hw⟩; rw [hw, hv])
 go_wp2
 go_step3
 go_wp2
 go_loopg [9, 10] 1 (fun g v9 v10 wx => v9 = .int .i64 ((rs.size - 1 : Nat) : Int) ∧ v10 = .int .i64 0 ∧ wx = w)
 case atStart => exact ⟨rfl, rfl, rfl⟩
 case round =>
  obtain ⟨rfl, rfl, rfl⟩ := hrel
  have hno : ¬ (((rs.size - 1 : Nat) : Int) < 2) := by omega
  have hsp : spb.size = 2 := rfl
  go_wp2
  go_ret
  exact ⟨rfl, Below.refl _ _⟩
set_option maxHeartbeats 8000000 in
set_option maxRecDepth 1000000 in
theorem zSz (w : World) (r : Int) (a b : UInt8) (h0 : 128 ≤ r) (hr : (r == 65533) = false) (hv : Lib.validRune r = true) (hb : 128 ≤ b.toNat)
  (hcv : ∀ w, (convert 21 9 (.int .i32 r)).run Tryz.prog w = .ok (.string ⟨#[a, b]⟩) w) :
  Calls Tryz.prog 70 #[.string spb, .int .i32 r] w fun e w' => e = .returned (.int .i64 (-1)) ∧ Below w.heap.size w w' := by
 have hV : ∀ r w, Calls Tryz.prog 86 #[.int .i32 r] w fun e w' => e = .returned (.bool (Lib.validRune r)) ∧ w' = w := fun r w => Any.utf8_ValidRune (P := Tryz.prog) (ρ := Tryz.lays153_ren) { Tryz.lays153 with } r w
 have hB : ∀ (s : ByteArray) (c : Int) w, Calls Tryz.prog 62 #[.string s, .int .u8 c] w fun e w' => e = .returned (.int .i64 (Lib.indexByte s.data.toList c.toNat.toUInt8)) ∧ w' = w := fun s c w => Any.strings_IndexByte (P := Tryz.prog) (ρ := Tryz.lays153_ren) { Tryz.lays153 with } s c w
 have hlt : (0 : Int) ≤ r := by omega
 have hge : ¬ (r < 128) := by omega
 have hw1 : IntKind.i64.wrap 1 = 1 := by decide
 have hsp : spb.size = 2 := rfl
 have hsr : (⟨#[a, b]⟩ : ByteArray).size = 2 := rfl
 have hlo : (41 == (b.toNat : Int)) = false := beq_eq_false_iff_ne.2 (by omega)
 go_enter Tryz.func70, Tryz.ntmps70
 go_wp2_with (go_at_call 86; refine (hV _ _).mono ?_; rintro e w' ⟨rfl, hw⟩; rw [hw, hv])
 go_wp2
 go_step3
 go_wp2
 go_loopg [9, 10] 1 (fun g v9 v10 wx => v9 = .int .i64 1 ∧ v10 = .int .i64 0 ∧ wx = w)
 case atStart => exact ⟨rfl, rfl, rfl⟩
 case round =>
  obtain ⟨rfl, rfl, rfl⟩ := hrel
  have hi1 : ∀ w, (Instr.index 9 (.string spb) (.int .i64 1)).run Tryz.prog w = .ok (.int .u8 41) w := fun w => by
   rw [run_index_string w _ _ _ _ (by kernel_rfl)]; rfl
  have hi2 : ∀ w, (Instr.index 9 (.string ⟨#[a, b]⟩) (.int .i64 1)).run Tryz.prog w = .ok (.int .u8 b.toNat) w := fun w => by
   rw [run_index_string w _ _ _ _ (by kernel_rfl)]; rfl
  go_wp2
  go_step3
  go_wp2
  go_region
  simp only [Exit.then]
  have hne : (41 != (b.toNat : Int)) = true := by simp only [bne, hlo]; rfl
  have hsl : ∀ w, (Instr.slice 9 (.string spb) (some (.int .i64 2)) none none).run Tryz.prog w = .ok (.string ⟨#[]⟩) w := fun w => by
   rfl
  simp only [hne]
  have hix : Lib.indexByte (⟨#[]⟩ : ByteArray).data.toList ((b.toNat : Int)).toNat.toUInt8 = -1 := rfl
  have hB2 : ∀ w, Calls Tryz.prog 62 #[.string ⟨#[]⟩, .int .u8 b.toNat] w fun e w' => e = .returned (.int .i64 (-1)) ∧ w' = w := fun w => hB _ _ _
  go_wp2
  have hw2 : IntKind.i64.wrap 2 = 2 := by decide
  go_quiet ((go_at_call 62; (refine (hB2 _).mono ?_; rintro e w' ⟨rfl, rfl⟩; exact ⟨rfl, _, rfl⟩)))
  go_wp2
  simp only [Exit.noGoto_ret, Exit.inBlock, Exit.then]
  try rw [Exit.noGoto_ret]
  go_ret
  exact ⟨rfl, ⟨rfl, rfl, rfl, Nat.le_refl _, fun _ _ => rfl⟩⟩
theorem zU9 (w : World) (r : Int) (h0 : 128 ≤ r) :
  Calls Tryz.prog 70 #[.string spb, .int .i32 r] w fun e w' => e = .returned (.int .i64 (-1)) ∧ Below w.heap.size w w' := by
 by_cases hb : r = 65533
 ·subst hb; exact zSy (P := Tryz.prog) (ρ := Tryz.lays153_ren) { Tryz.lays153 with } w
 ·have hr : (r == 65533) = false := beq_eq_false_iff_ne.2 hb
  cases hv : Lib.validRune r with
  | false => exact zVa (P := Tryz.prog) (ρ := Tryz.lays153_ren) { Tryz.lays153 with } w r h0 hr hv
  | true =>
   obtain ⟨f1, f2, f3⟩ := encode_facts r (by rw [validRune_eq]; exact hv) h0
   have hcv : ∀ w, (convert 21 9 (.int .i32 r)).run Tryz.prog w = .ok (.string (Utf8.encode r)) w := fun w => run_convert_int_string w _ _ _ _ (by kernel_rfl) (by kernel_rfl)
   generalize Utf8.encode r = rs at f1 f2 f3 hcv
   rcases Nat.lt_or_ge 2 rs.size with h2 | h2
   ·exact zPw (P := Tryz.prog) (ρ := Tryz.lays153_ren) { Tryz.lays153 with } w r rs h0 hr hv h2 f2 hcv
   ·obtain ⟨⟨l⟩⟩ := rs
    rcases l with _ | ⟨a, _ | ⟨b, _ | ⟨c, l⟩⟩⟩
    ·exact absurd f1 (by decide)
    ·exact absurd (show 2 ≤ 1 from f1) (by decide)
    ·exact zSz w r a b h0 hr hv (f3 (show 2 - 1 < 2 by decide)) hcv
    ·exact absurd (show l.length + 3 ≤ 2 from h2) (by omega)
theorem getB (s : ByteArray) (i : Nat) (h : i < s.size) : s.data.toList[i]? = some (s.get! i) := by
 rw [Lib.data_getElem? s i h]
 congr 1
 exact (get_at s i h).symm
theorem zUn {b : UInt8} (h : 128 ≤ b.toNat) : ([32, 41] : List UInt8).contains b = false := by
 have h1 : b ≠ 32 := fun e => by subst e; exact absurd h (by decide)
 have h2 : b ≠ 41 := fun e => by subst e; exact absurd h (by decide)
 simp [h1, h2]
theorem zFu {s : ByteArray} {i : Nat} (hi : i < s.size) (ha : 128 ≤ (s[i]'hi).toNat) (h : Lib.NoAny s.data.toList [32, 41] i) :
  Lib.NoAny s.data.toList [32, 41] (i + (Utf8.decode s i).2) ∧ i + (Utf8.decode s i).2 ≤ s.size ∧ 1 ≤ (Utf8.decode s i).2 := by
 have e0 : s.get! i = s[i]'hi := get_at s i hi
 have hb0 : 128 ≤ (s.get! i).toNat := by rw [e0]; exact ha
 have step : ∀ j, j < s.size → 128 ≤ (s.get! j).toNat → Lib.NoAny s.data.toList [32, 41] j → Lib.NoAny s.data.toList [32, 41] (j + 1) := fun j hj hb hn => hn.succ (getB s j hj) (zUn hb)
 have n1 := step i hi hb0 h
 rw [Lib.decode_at]
 rcases Lib.decodeN_shape (s.size - i) (s.get! i).toNat (s.get! (i + 1)).toNat (s.get! (i + 2)).toNat (s.get! (i + 3)).toNat with h1 | h1 | h1 | h1 | h1
 ·omega
 ·obtain ⟨-, c1, c2, -, e⟩ := h1
  rw [e]
  exact ⟨step _ (by omega) (by omega) n1, by show i + 2 ≤ _; omega, by show 1 ≤ 2; omega⟩
 ·obtain ⟨-, c1, c2, c3, -, -, e⟩ := h1
  rw [e]
  exact ⟨step _ (by omega) (by omega) (step _ (by omega) (by omega) n1), by show i + 3 ≤ _; omega, by show 1 ≤ 3; omega⟩
 ·obtain ⟨-, c1, c2, c3, c4, -, -, e⟩ := h1
  rw [e]
  exact ⟨step _ (by omega) (by omega) (step _ (by omega) (by omega) (step _ (by omega) (by omega) n1)), by show i + 4 ≤ _; omega, by show 1 ≤ 4; omega⟩
 ·rw [h1]
  exact ⟨n1, by show i + 1 ≤ _; omega, by show 1 ≤ 1; omega⟩
set_option maxHeartbeats 8000000 in
set_option maxRecDepth 1000000 in
theorem zOu (s : ByteArray) (w : World) (h8 : s.size ≤ 8) :
  Calls Tryz.prog 50 #[.string s, .string spb] w fun e w' => e = .returned (.int .i64 (Lib.indexAny s.data.toList [32, 41])) ∧ Below w.heap.size w w' := by
 have hS : ∀ (n : Int) w, Calls Tryz.prog 71 #[.int .i64 n] w fun e w' => e = .returned (.bool (decide (8 < n))) ∧ w' = w := fun n w => Any.strings_shouldUseASCIISet (P := Tryz.prog) (ρ := Tryz.lays153_ren) { Tryz.lays153 with } n w
 have h8z : decide ((8 : Int) < (s.size : Int)) = false := decide_eq_false (by omega)
 have hsp : spb.size = 2 := rfl
 have hem : spb.toList.isEmpty = false := by rw [Lib.toList_data]; rfl
 go_enter Tryz.func50, Tryz.ntmps50
 go_wp2_with (go_at_call 71; refine (hS _ _).mono ?_; rintro e w' ⟨rfl, hw⟩; rw [hw, h8z])
 go_wp2
 go_loopg [9, 10] s.size (fun g _ _ wx => ∃ i : Nat, i + g = s.size ∧ wx.heap[w.heap.size]? = some (.stringIter s i) ∧ Below w.heap.size w wx ∧ Lib.NoAny s.data.toList [32, 41] i)
 case atStart => exact ⟨0, by omega, World.iter_heap w s 0, (Below.refl _ w).alloc (Nat.le_refl _) _, Lib.NoAny.zero _ _⟩
 case round =>
  obtain ⟨i, hig, hit, hbw, hno⟩ := hrel
  have HN : Aside (Lib.NoAny s.data.toList [32, 41] i) := hno
  clear hno
  have hsz : w.heap.size < wr.heap.size := (Array.getElem?_eq_some_iff.1 hit).1
  rcases Nat.lt_or_ge i s.size with hi | hi
  ·have hnx : ∀ ty, (Instr.next (.pointer (some ⟨w.heap.size, 0, none⟩)) true ty).run Tryz.prog wr = _ := fun ty => Lib.run_next_any_at wr w.heap.size s i ty hit hi
   have hit2 := fun k => Lib.iterAt_heap wr w.heap.size s i k hit
   have hbw2 := fun k => Lib.below_iterAt hbw (k := w.heap.size) (Nat.le_refl _) s k
   rcases Nat.lt_or_ge (s[i]'hi).toNat 128 with ha | ha
   ·rw [decode_ascii s i hi ha] at hnx
    have Hx : Aside (s.data.toList[i]? = some (s[i]'hi)) := Lib.data_getElem? s i hi
    have hR : ∀ w, Calls Tryz.prog 70 #[.string spb, .int .i32 (s[i]'hi).toNat] w fun e w' => e = .returned (.int .i64 (Lib.indexByte [32, 41] (s[i]'hi))) ∧ w' = w := fun w => by
     have h := Any.strings_IndexRune_ascii (P := Tryz.prog) (ρ := Tryz.lays153_ren) { Tryz.lays153 with } spb ((s[i]'hi).toNat : Int) w (by omega) (by omega)
     have e : ((s[i]'hi).toNat : Int).toNat.toUInt8 = s[i]'hi := by simp
     rw [e] at h
     exact h
    have hcon := Lib.contains_iff_indexByte [32, 41] (s[i]'hi)
    generalize s[i]'hi = x at hnx Hx hR hcon
    cases hin : ([32, 41] : List UInt8).contains x
    ·rw [hin] at hcon
     have hlt : ¬ ((0 : Int) ≤ Lib.indexByte [32, 41] x) := of_decide_eq_false hcon.symm
     clear hcon
     go_wp2_with (go_at_call 70; refine (hR _).mono ?_; rintro e w' ⟨rfl, hw⟩; rw [hw])
     go_roundg (gk - 1)
     case measure => omega
     case rel => exact ⟨i + 1, by omega, hit2 _, hbw2 _, HN.out.succ Hx.out hin⟩
    ·rw [hin] at hcon
     have hge : (0 : Int) ≤ Lib.indexByte [32, 41] x := of_decide_eq_true hcon.symm
     clear hcon
     go_wp2_with (go_at_call 70; refine (hR _).mono ?_; rintro e w' ⟨rfl, hw⟩; rw [hw])
     go_ret
     exact ⟨by rw [Lib.indexAny_hit HN.out Hx.out hin]; rfl, hbw2 _⟩
   ·obtain ⟨k1, k2, k3⟩ := zFu hi ha HN.out
    have hd1 := (decode_high s i hi ha).1
    have KN : Aside (Lib.NoAny s.data.toList [32, 41] (i + (Utf8.decode s i).2)) := k1
    clear k1
    generalize Utf8.decode s i = d at hnx hd1 KN k2 k3
    obtain ⟨dr, dw⟩ := d
    simp only at hnx hd1 KN k2 k3
    have hsz2 : w.heap.size < (wr.iterAt w.heap.size s (i + dw)).heap.size := by rw [Lib.iterAt_size]; exact hsz
    have hit3 := hit2 (i + dw)
    have hbw3 := hbw2 (i + dw)
    have hR := zU9 (wr.iterAt w.heap.size s (i + dw)) (dr : Int) (by omega)
    generalize wr.iterAt w.heap.size s (i + dw) = w2 at hnx hsz2 hit3 hbw3 hR
    clear hit2 hbw2
    go_wp2_with (go_at_call 70; refine hR.mono ?_; rintro e w' ⟨rfl, hw⟩)
    go_roundg (s.size - (i + dw))
    case measure => omega
    case rel => exact ⟨i + dw, by omega, (hw.block _ hsz2).trans hit3, hbw3.trans (hw.mono (Nat.le_of_lt hsz2)), KN.out⟩
  ·have hnx : ∀ ty, (Instr.next (.pointer (some ⟨w.heap.size, 0, none⟩)) true ty).run Tryz.prog wr = _ := fun ty => Lib.run_next_end_at wr w.heap.size s i ty hit (by omega)
   go_wp2
   go_ret
   obtain rfl : i = s.size := by omega
   exact ⟨by rw [Lib.indexAny_none (by rw [← Lib.size_eq]; exact HN.out)]; rfl, hbw⟩
theorem zV7 (s : ByteArray) (w : World) (hs : s.size < 4294967281) :
  Calls Tryz.prog 50 #[.string s, .string spb] w fun e w' => e = .returned (.int .i64 (Lib.indexAny s.data.toList [32, 41])) ∧ Below w.heap.size w w' := by
 rcases Nat.lt_or_ge 8 s.size with h8 | h8
 ·have h116 : (Tryz.prog.info? (Tryz.lays153_ren.t 116)).map (fun i => (i.zero, i.size)) = some (some (.agg (Array.replicate 256 (.bool false))), 256) := by kernel_rfl
  exact (Any.strings_IndexAny_long Tryz.lays153 (zero_of_info h116).1 (zero_of_info h116).2 s spb w (by decide) h8 hs (by decide) (fun j b h => by
   have h' : ([32, 41] : List UInt8)[j]? = some b := h
   rcases j with _ | _ | j
   ·simp at h'; subst h'; decide
   ·simp at h'; subst h'; decide
   ·simp at h')).mono fun e w' ⟨h1, h2⟩ => ⟨h1, by subst h2; exact ((Below.refl _ w).alloc (Nat.le_refl _) _).alloc ((Below.refl w.heap.size w).alloc (Nat.le_refl _) _).size _⟩
 ·exact zOu s w h8
end Go.Proofs.YtlkjnlfddadlmaaGreatDoor.V
namespace Go.Proofs.YtlkjnlfddadlmaaGreatDoor.V
open Go.RowKit
set_option maxHeartbeats 1000000
set_option maxRecDepth 100000
theorem zBd (s : ByteArray) (c : Int) (w : World) :
  Calls Tryz.prog 83 #[.string s, .int .u8 c] w fun e w' => e = .returned (.int .i64 (Lib.indexByte s.data.toList c.toNat.toUInt8)) ∧ w' = w := by
 go_enter Tryz.func83, Tryz.ntmps83
 go_wp2
 rw [run_callFunc_extern Tryz.func93 (by kernel_rfl) (by kernel_rfl) (by kernel_rfl) (e := Extern.BytealgIndexByte.indexByte) (by kernel_rfl), Lib.run_indexByteString]
 simp only [Result.andThen]
 rw [Oper.upon_value]
 go_wp2
 go_ret
 exact ⟨rfl, rfl⟩
theorem strings_IndexByte (s : ByteArray) (c : Int) (w : World) :
  Calls Tryz.prog 62 #[.string s, .int .u8 c] w fun e w' => e = .returned (.int .i64 (Lib.indexByte s.data.toList c.toNat.toUInt8)) ∧ w' = w := by
 go_enter Tryz.func62, Tryz.ntmps62
 go_wp2_with (go_at_call 83; refine (zBd _ _ _).mono ?_; rintro e w' ⟨rfl, rfl⟩)
 go_ret
 exact ⟨rfl, rfl⟩
def lY : List XU → Option XU := zSg fun s c => Lib.indexByte s c.toNat.toUInt8
theorem iU {T : World → Prop} : mM Tryz.prog T 62 lY := zW4 (jS (fn := Tryz.f62) rfl rfl (by kernel_rfl)) (fun s c w _ => strings_IndexByte s c w)
end Go.Proofs.YtlkjnlfddadlmaaGreatDoor.V
namespace Go.Proofs.YtlkjnlfddadlmaaGreatDoor.V
open Go.RowKit
set_option maxRecDepth 100000
def zTe : TU → Option (List UInt8)
 | .str s => some s
 | _ => none
def sH : List TU → Option (List (List UInt8))
 | [] => some []
 | c :: cs => match zTe c, sH cs with
  | some s, some l => some (s :: l)
  | _, _ => none
def tM : List XU → Option XU
 | [.c (.t (.sl _ g 1 n cs)), .c (.t (.str sep))] => if g = 0 ∨ n ≠ cs.length ∨ 140737488355328 < n then none else
   match sH cs with
   | some xs => if (Lib.join xs sep).length ≤ 140737488355328 then some (.c (.t (.str (Lib.join xs sep)))) else none
   | none => none
 | _ => none
theorem zEy : ∀ {cs : List TV} {xs : List (List UInt8)}, sH (cs.map erT) = some xs → cs = xs.map .str
 | [], xs, h => by simp only [List.map_nil, sH, Option.some.injEq] at h; subst h; rfl
 | c :: cs, xs, h => by
  simp only [List.map_cons, sH] at h
  split at h
  ·next s l h1 h2 =>
   simp only [Option.some.injEq] at h
   subst h
   have e : c = .str s := by
    cases c <;> simp [erT, yA, zTe] at h1
    subst h1; rfl
   rw [e, zEy h2]; rfl
  ·cases h
theorem zWm {x : XV} {g z n : Nat} {cs : List TU} (h : erX x = .c (.t (.sl () g z n cs))) : ∃ a cs', x = .c (.t (.sl a g z n cs')) ∧ cs'.map erT = cs := by
 obtain ⟨c, rfl, hc⟩ := aR h
 obtain ⟨t, rfl, ht⟩ := k9 hc
 cases t <;> simp [erT, yA] at ht
 obtain ⟨rfl, rfl, rfl, h2⟩ := ht
 rw [yO] at h2
 exact ⟨_, _, rfl, h2⟩
theorem zLc {T : World → Prop} : mM Tryz.prog T 43 tM := by
 intro args x hx
 refine ⟨jS (fn := Tryz.f43) rfl rfl (by kernel_rfl), fun w E P R ea argsG hT ha hin => ?_⟩
 unfold tM at hx
 split at hx
 ·next u g n cs sep =>
  split at hx
  ·cases hx
  ·next hg =>
   split at hx
   ·next xs hxs =>
    split at hx
    ·next hlen =>
     simp only [Option.some.injEq] at hx
     subst hx
     rcases argsG with _ | ⟨a, _ | ⟨b, _ | ⟨d, l⟩⟩⟩
     ·simp at ha
     ·simp at ha
     ·simp only [List.map_cons, List.map_nil, List.cons.injEq, and_true] at ha
      obtain ⟨h1, h2⟩ := ha
      obtain ⟨ad, cs', e1, e3⟩ := zWm h1
      have e2 := uP h2
      subst e1 e2
      subst e3
      have e4 := zEy hxs
      subst e4
      have hok : okT w P R (.sl ad g 1 n (xs.map .str)) := by
       have := hin.okS 0
       simpa [y6, okX, okC] using this
      simp only [okT] at hok
      obtain ⟨hl, -, hs⟩ := hok
      have hn : n = xs.length := by simpa using hl.symm
      have hg0 : g ≠ 0 := fun e => hg (.inl e)
      rw [if_neg hg0] at hs
      obtain ⟨⟨A, cap, rfl, hcap, hcells⟩, -, -⟩ := hs
      simp only [List.map_cons, List.map_nil, zQ, zJ, zV]
      rcases hcells with h0 | ⟨q, rfl, hsp, hP, hc⟩
      ·have hx0 : xs = [] := List.eq_nil_of_length_eq_zero (by omega)
       subst h0 hx0
       refine (Tryz.strings_Join_none A cap ⟨sep.toArray⟩ w).mono fun e w' ⟨h3, h4⟩ => ?_
       subst h3 h4
       exact ⟨.c (.t (.str [])), rfl, by simp [zQ, zJ, zV], fY hin (Grow.refl _) (by simp [okT]) (by simp [zU])⟩
      ·have hb := hin.ltR _ (hin.PR _ _ hP)
       obtain ⟨qb, qo, qs⟩ := q
       simp only at hsp hb hc
       subst hsp hn
       have hj : (xs.map fun s => (⟨s.toArray⟩ : ByteArray)).map (·.data.toList) = xs := by rw [List.map_map]; exact List.map_id_fun'  ▸ List.map_congr_left fun _ _ => by simp
       have key := Tryz.strings_Join qb qo cap (xs.map fun s => ⟨s.toArray⟩) ⟨sep.toArray⟩ w (fun j x hjx => ?_) hb (by simp; omega) (by simpa using hcap) (by rw [hj]; simpa using hlen)
       ·rw [hj] at key
        simp only [List.length_map, List.toList_toArray] at key
        refine key.mono fun e w' ⟨h3, h4⟩ => ?_
        subst h3
        exact ⟨.c (.t (.str (Lib.join xs sep))), rfl, by simp [zQ, zJ, zV], fY hin ⟨h4.os, h4.tape, h4.output, h4.size, h4.block⟩ (by simp [okT]) (by simp [zU])⟩
       ·refine hc j _ ?_
        rw [List.getElem?_map] at hjx ⊢
        rw [List.getElem?_map]
        cases hq : xs[j]? with
        | none => rw [hq] at hjx; cases hjx
        | some y => rw [hq] at hjx; simp only [Option.map_some, Option.some.injEq] at hjx ⊢; rw [← hjx]; rfl
     ·simp at ha
    ·cases hx
   ·cases hx
 ·cases hx
end Go.Proofs.YtlkjnlfddadlmaaGreatDoor.V
namespace Go.Proofs.YtlkjnlfddadlmaaGreatDoor.V
open Go.RowKit
set_option maxRecDepth 100000
section
variable {w w' : World} {E : Nat → Prop} {P : Nat → Nat → Prop} {R : Nat → Prop} {ea : List EA} {argsG : List XV}
theorem tN (hin : In w E P R ea argsG []) (hg : Grow w w') {x : XV} (hok : ∀ S ea, okX w' P R S ea x) (hb : zE x = []) (hr : zD x = []) : Out w E P R ea w' x [] := by
 have hb0 : ∀ r : Root, zL (⟨upd (fun _ => .undef) 0 x, []⟩ : SV) ea r = zL (⟨y6 argsG, []⟩ : SV) ea r ∨ zL (⟨upd (fun _ => .undef) 0 x, []⟩ : SV) ea r = [] := by
  intro r
  cases r with
  | sl d =>
   right
   by_cases e : d = 0
   ·subst e; simp [zL, upd, hb]
   ·simp [zL, upd, e, zE]
  | ex j => exact .inl rfl
 have hmem : ∀ r b, b ∈ zL (⟨upd (fun _ => .undef) 0 x, []⟩ : SV) ea r → b ∈ zL (⟨y6 argsG, []⟩ : SV) ea r := by
  intro r b hb'
  rcases hb0 r with e | e
  ·rwa [e] at hb'
  ·rw [e] at hb'; simp at hb'
 constructor
 case val =>
  intro d hd
  have : d = 0 := by simpa using hd
  subst this
  right; simp [upd]
 case hi =>
  intro d hd
  have : d ≠ 0 := by simp at hd; omega
  simp [upd, this]
 case okS =>
  intro d
  by_cases e : d = 0
  ·subst e; simp only [upd, if_true]; exact hok _ _
  ·simp [upd, e, okX]
 case okE => intro j cs hj; simp at hj
 case eaL => exact hin.eaL
 case row => intro j vs cs _ hj; simp at hj
 case refS =>
  intro d d' hd
  by_cases e : d = 0
  ·subst e; simp [upd, hr] at hd
  ·simp [upd, e, zD] at hd
 case refE => intro j cs d' hj; simp at hj
 case dis => exact fun r r' b h1 h2 => hin.dis r r' b (hmem r b h1) (hmem r' b h2)
 case nd =>
  intro r
  rcases hb0 r with e | e
  ·rw [e]; exact hin.nd r
  ·rw [e]; exact List.nodup_nil
 case lt => exact fun r b h => Nat.lt_of_lt_of_le (hin.lt r b (hmem r b h)) hg.size
 case own => exact fun r b h => hin.own r b (hmem r b h)
 case notR => exact fun r b h => hin.notR r b (hmem r b h)
 case PR => exact hin.PR
 case ltR => exact fun b h => Nat.lt_of_lt_of_le (hin.ltR b h) hg.size
 case frm => exact hg.frm (Frm.refl E w)
theorem lS {w w' : World} (h : Below w.heap.size w w') : Grow w w' := ⟨h.os, h.tape, h.output, h.size, h.block⟩
end
theorem bT {Pr : Program} {T T' : World → Prop} {g : Nat} {h : List XU → Option XU} (hT : ∀ w, T' w → T w) (ho : mM Pr T g h) : mM Pr T' g h := fun args x hx =>
 ⟨(ho args x hx).1, fun w E P R ea argsG hw ha hin => (ho args x hx).2 w E P R ea argsG (fun w' hf => hT w' (hw w' hf)) ha hin⟩
def zF0 : List XU → Option XU
 | [.c (.t (.str s)), .c (.t (.str c))] => if c = [32, 41] ∧ s.length < 4294967281 then some (.c (.t (.int .i64 (Lib.indexAny s [32, 41])))) else none
 | _ => none
theorem zPj {T : World → Prop} : mM Tryz.prog T 50 zF0 := by
 intro args x hx
 refine ⟨jS (fn := Tryz.f50) rfl rfl (by kernel_rfl), fun w E P R ea argsG hT ha hin => ?_⟩
 unfold zF0 at hx
 split at hx
 ·next s c =>
  split at hx
  ·next hd =>
   simp only [Option.some.injEq] at hx
   subst hx
   obtain ⟨rfl, hs⟩ := hd
   rcases argsG with _ | ⟨a, _ | ⟨b, _ | ⟨d, l⟩⟩⟩
   ·simp at ha
   ·simp at ha
   ·simp only [List.map_cons, List.map_nil, List.cons.injEq, and_true] at ha
    obtain ⟨h1, h2⟩ := ha
    have e1 := uP h1
    have e2 := uP h2
    subst e1 e2
    refine (zV7 ⟨s.toArray⟩ w (by simpa [ByteArray.size] using hs)).mono fun e w' ⟨h3, h4⟩ => ?_
    subst h3
    exact ⟨.c (.t (.int .i64 (Lib.indexAny s [32, 41]))), rfl, by simp [zQ, zJ, zV], fY hin (lS h4) (by simp [okT]) (by simp [zU])⟩
   ·simp at ha
  ·cases hx
 ·cases hx
def zLa : List XU → Option XU
 | [.c (.t (.str s)), .c (.t (.str p))] => some (.c (.t (.bool (Lib.hasPrefix s p))))
 | _ => none
theorem zPl {T : World → Prop} : mM Tryz.prog T 36 zLa := by
 intro args x hx
 refine ⟨jS (fn := Tryz.f36) rfl rfl (by kernel_rfl), fun w E P R ea argsG hT ha hin => ?_⟩
 unfold zLa at hx
 split at hx
 ·next s c =>
  simp only [Option.some.injEq] at hx
  subst hx
  rcases argsG with _ | ⟨a, _ | ⟨b, _ | ⟨d, l⟩⟩⟩
  ·simp at ha
  ·simp at ha
  ·simp only [List.map_cons, List.map_nil, List.cons.injEq, and_true] at ha
   obtain ⟨h1, h2⟩ := ha
   have e1 := uP h1
   have e2 := uP h2
   subst e1 e2
   refine (Tryz.strings_HasPrefix ⟨s.toArray⟩ ⟨c.toArray⟩ w).mono fun e w' ⟨h3, h4⟩ => ?_
   subst h3 h4
   exact ⟨.c (.t (.bool (Lib.hasPrefix s c))), rfl, by simp [zQ, zJ, zV], fY hin (Grow.refl _) (by simp [okT]) (by simp [zU])⟩
  ·simp at ha
 ·cases hx
def zK9 : List XU → Option XU
 | [.c (.t (.str s)), .c (.t (.str p))] => some (.tup [.c (.t (.str (Lib.trimPrefix s p))), .c (.t (.bool (Lib.hasPrefix s p)))])
 | _ => none
theorem zPk {T : World → Prop} : mM Tryz.prog T 54 zK9 := by
 intro args x hx
 refine ⟨jS (fn := Tryz.f54) rfl rfl (by kernel_rfl), fun w E P R ea argsG hT ha hin => ?_⟩
 unfold zK9 at hx
 split at hx
 ·next s c =>
  simp only [Option.some.injEq] at hx
  subst hx
  rcases argsG with _ | ⟨a, _ | ⟨b, _ | ⟨d, l⟩⟩⟩
  ·simp at ha
  ·simp at ha
  ·simp only [List.map_cons, List.map_nil, List.cons.injEq, and_true] at ha
   obtain ⟨h1, h2⟩ := ha
   have e1 := uP h1
   have e2 := uP h2
   subst e1 e2
   refine (Tryz.strings_CutPrefix ⟨s.toArray⟩ ⟨c.toArray⟩ w).mono fun e w' ⟨h3, h4⟩ => ?_
   subst h3 h4
   exact ⟨.tup [.c (.t (.str (Lib.trimPrefix s c))), .c (.t (.bool (Lib.hasPrefix s c)))], rfl, by simp [zQ, jF, zJ, zV], tN hin (Grow.refl _) (fun S ea => by simp [okX, xR, okC, okT]) (by simp [zE, xA, zP, zU]) (by simp [zD, yN, zF])⟩
  ·simp at ha
 ·cases hx
def zMc (w : World) (n : String) : Prop := ∃ tp p, w.var? Tryz.prog n = some #[.iface tp p]
def mR (s : List UInt8) : XU := match Lib.atoiAll s with
 | .ok v => .tup [.c (.t (.int .i64 v)), .c (.t .nili)]
 | .range => .tup [.c (.t (.int .i64 (Lib.atoiSat s))), .c (.t (.ifc ()))]
 | _ => .tup [.c (.t (.int .i64 0)), .c (.t (.ifc ()))]
def eF : List XU → Option XU
 | [.c (.t (.str s))] => if s.length ≤ 140737488355328 then some (mR s) else none
 | _ => none
theorem zK8 : mM Tryz.prog (fun w => zMc w "strconv.ErrSyntax" ∧ zMc w "strconv.ErrRange") 33 eF := by
 intro args x hx
 refine ⟨jS (fn := Tryz.f33) rfl rfl (by kernel_rfl), fun w E P R ea argsG hT ha hin => ?_⟩
 unfold eF at hx
 split at hx
 ·next s =>
  split at hx
  ·next hs =>
   simp only [Option.some.injEq] at hx
   subst hx
   obtain ⟨⟨ts, ps, hvs⟩, tr, pr, hvr⟩ := hT w (Frm.refl _ w)
   rcases argsG with _ | ⟨a, _ | ⟨b, l⟩⟩
   ·simp at ha
   ·simp only [List.map_cons, List.map_nil, List.cons.injEq, and_true] at ha
    have e1 := uP ha
    subst e1
    have hsz : (⟨s.toArray⟩ : ByteArray).size ≤ 140737488355328 := by simpa [ByteArray.size] using hs
    rcases hr : Lib.atoiAll s with v | _ | _
    ·refine (Any.strconv_Atoi_ok Tryz.laysC172 ⟨s.toArray⟩ (by omega) v hr w).mono fun e w' ⟨h3, h4⟩ => ?_
     subst h3
     have hg : Grow w w' := by
      rcases h4 with rfl | ⟨t, rfl⟩
      ·exact Grow.refl _
      ·exact lS (Lib.bytesWorld_below _ _ _)
     exact ⟨.tup [.c (.t (.int .i64 v)), .c (.t .nili)], by simp only [mR, hr]; rfl, by simp [zQ, jF, zJ, zV], tN hin hg (fun S ea => by simp [okX, xR, okC, okT]) (by simp [zE, xA, zP, zU]) (by simp [zD, yN, zF])⟩
    ·refine (Any.strconv_Atoi_syntax_var Tryz.laysC172 ⟨s.toArray⟩ (by omega) hr ts ps w hvs).mono fun e w' ⟨N, h3, _, _, h4⟩ => ?_
     subst h3
     exact ⟨.tup [.c (.t (.int .i64 0)), .c (.t (.ifc (.iface (Tryz.laysC172_ren.t 168) (.pointer (some ⟨N, 0, none⟩)))))], by simp only [mR, hr]; rfl, by simp [zQ, jF, zJ, zV], tN hin (lS h4) (fun S ea => by simp [okX, xR, okC, okT]) (by simp [zE, xA, zP, zU]) (by simp [zD, yN, zF])⟩
    ·refine (Any.strconv_Atoi_range_var Tryz.laysC172 ⟨s.toArray⟩ (by omega) hr tr pr w hvr).mono fun e w' ⟨N, h3, _, _, h4⟩ => ?_
     subst h3
     exact ⟨.tup [.c (.t (.int .i64 (Lib.atoiSat s))), .c (.t (.ifc (.iface (Tryz.laysC172_ren.t 168) (.pointer (some ⟨N, 0, none⟩)))))], by simp only [mR, hr]; rfl, by simp [zQ, jF, zJ, zV], tN hin (lS h4) (fun S ea => by simp [okX, xR, okC, okT]) (by simp [zE, xA, zP, zU]) (by simp [zD, yN, zF])⟩
   ·simp at ha
  ·cases hx
 ·cases hx
end Go.Proofs.YtlkjnlfddadlmaaGreatDoor.V
namespace Go.Proofs.YtlkjnlfddadlmaaGreatDoor.V
open Go.RowKit Go.Lib
set_option linter.unusedVariables false
set_option linter.unusedSimpArgs false
set_option maxHeartbeats 4000000
set_option maxRecDepth 100000
theorem grow0 (w : World) : Calls Tryz.prog 82 #[.slice none 0 0, .int .i64 ((0 : Nat) : Int)] w fun e w' => e = .returned (.slice none 0 0) ∧ w' = w := by
 go_enter Tryz.func82, Tryz.ntmps82
 go_wp2
 go_ret
 exact ⟨rfl, rfl⟩
theorem growN (n : Nat) (w : World) (h0 : 0 < n) (hbig : n * 16 ≤ 140737488355328) : Calls Tryz.prog 82 #[.slice none 0 0, .int .i64 n] w fun e w' =>
  e = .returned (.slice (some ⟨w.heap.size, 0, none⟩) 0 (grownCap w n 0 9)) ∧
   w' = w.drew.alloc (.cells (#[] ++ Builtin.zeroCells (Value.string ⟨#[]⟩).cells n ++ Builtin.zeroCells (Value.string ⟨#[]⟩).cells (grownCap w n 0 9 - n)) 9) := by
 have hi0 : Tryz.prog.info? 9 = some Tryz.t9 := by kernel_rfl
 have hz0 : Tryz.t9.zero = some (.string ⟨#[]⟩) := by kernel_rfl
 have hs0 : Tryz.t9.size = 1 := by kernel_rfl
 have hb0 : Tryz.t9.bytes = 16 := by kernel_rfl
 have u22 : Tryz.prog.underlying 31 = some (.slice 9) := by kernel_rfl
 have u3 : Tryz.prog.underlying 3 = some (.int .i64) := by kernel_rfl
 have h1 : ¬ ((n : Int) < 0) := by omega
 have h3 : Go.RowKit.wrap64 (n : Int) = n := by unfold Go.RowKit.wrap64; omega
 have h4 : (n : Int) > 0 := by omega
 have hold : (Builtin.firstCells Tryz.t9.size 0 (.slice none 0 0)).run Tryz.prog w.drew = .ok ([] : List Value).toArray w.drew := run_firstCells_none w.drew _ 0 0 0
 have hrz : ∀ ty, (Builtin.append_ #[31, 3] ty #[.slice none 0 0, .int .i64 n]).run Tryz.prog w = .ok (.slice (some ⟨w.heap.size, 0, none⟩) n (grownCap w n 0 9))
   (w.drew.alloc (.cells (#[] ++ Builtin.zeroCells (Value.string ⟨#[]⟩).cells n ++ Builtin.zeroCells (Value.string ⟨#[]⟩).cells (grownCap w n 0 9 - n)) 9)) := fun ty => by
  have h := Lib.run_append_grow_zeros w 31 3 ty 9 _ _ .i64 .i64 u22 u3 hi0 hz0 none 0 0 [] hold n h0 (by rw [hs0]; omega) (by omega) (by omega)
   (by rw [hb0]; omega) (by rw [hb0]; exact growslice_fits (by omega) (by omega))
  simpa using h
 have hGn : n ≤ grownCap w n 0 9 := grownCap_ge w _ _ _
 obtain ⟨G, hG⟩ : ∃ G, G = grownCap w n 0 9 := ⟨_, rfl⟩
 rw [← hG] at hrz hGn ⊢
 have hG63 : G ≤ 9223372036854775807 := by
  have := grownCap_le_maxLen w n 0 9 (by unfold maxLen; omega)
  rw [← hG] at this
  unfold maxLen at this
  omega
 clear hold hG
 go_enter Tryz.func82, Tryz.ntmps82
 go_wp2_with (at_builtin; refine Lib.wpList_append_run _ rfl _ _ _ _ rfl _ _ rfl rfl _ _ (hrz _) ?_)
 all_goals (go_ret; exact ⟨rfl, rfl⟩)
theorem zQl (w : World) (o : Obj) : (w.drew.alloc o).heap[w.heap.size]? = some o := by
 have : (w.drew.alloc o).heap = w.heap.push o := rfl
 rw [this, Array.getElem?_push_size]
theorem zCu (k : Nat) : (Builtin.zeroCells (Value.string ⟨#[]⟩).cells k).size = k := by
 have e : (Value.string ⟨#[]⟩).cells = #[.string ⟨#[]⟩] := rfl
 rw [e]
 simp [Builtin.zeroCells]
theorem zKv : bF Tryz.prog 82 ∧ ∀ (n : Nat) (w : World), n * 16 ≤ 140737488355328 → n ≤ maxLen →
  Calls Tryz.prog 82 #[.slice none 0 0, .int .i64 n] w fun e w' => ∃ v, e = .returned v ∧ Grow w w' ∧ (v = .slice none 0 0 ∨ ∃ cap cur ty, v = .slice (some ⟨w.heap.size, 0, none⟩) 0 cap ∧ w'.heap[w.heap.size]? = some (.cells cur ty (0, 0)) ∧ cap * 1 ≤ cur.size) := by
 refine ⟨jS (fn := Tryz.f82) rfl rfl (by kernel_rfl), fun n w h _ => ?_⟩
 rcases Nat.eq_zero_or_pos n with rfl | h0
 ·refine (grow0 w).mono fun e w' ⟨h1, h2⟩ => ?_
  subst h2
  exact ⟨_, h1, Grow.refl _, .inl rfl⟩
 ·refine (growN n w h0 h).mono fun e w' ⟨h1, h2⟩ => ?_
  subst h2
  refine ⟨_, h1, (Grow.drew w).trans (Grow.alloc _ _), .inr ⟨_, #[] ++ Builtin.zeroCells (Value.string ⟨#[]⟩).cells n ++ Builtin.zeroCells (Value.string ⟨#[]⟩).cells (grownCap w n 0 9 - n), 9, rfl, ?_, ?_⟩⟩
  ·exact zQl w _
  ·have := grownCap_ge w n 0 9
   simp only [Array.size_append, zCu, Array.size_empty]
   omega
end Go.Proofs.YtlkjnlfddadlmaaGreatDoor.V
namespace Go.Proofs.YtlkjnlfddadlmaaGreatDoor.V
open Go.RowKit
set_option maxRecDepth 100000
def eG : List XU → Option XU := zNx (fun n => -9223372036854775808 ≤ n ∧ n ≤ 9223372036854775807) Lib.itoa
theorem zLb : mM Tryz.prog (fun w => Lib.TabIs Tryz.prog w "internal/strconv.uint64pow10" .u64 Lib.pow10Tab) 53 eG :=
 zW3 (jS (fn := Tryz.f53) rfl rfl (by kernel_rfl)) (fun n w hT hD => (Tryz.strconv_Itoa n hD.1 hD.2 w hT).mono fun e w' ⟨h1, k, os, h2⟩ => by
  subst h1 h2
  refine ⟨rfl, ⟨rfl, rfl, rfl, ?_, fun i hi => ?_⟩⟩
  ·show w.heap.size ≤ (w.heap ++ os).size
   simp
  ·show (w.heap ++ os)[i]? = w.heap[i]?
   rw [Array.getElem?_append_left hi])
end Go.Proofs.YtlkjnlfddadlmaaGreatDoor.V
namespace Go.Proofs.YtlkjnlfddadlmaaGreatDoor.V
set_option maxRecDepth 100000
def tyT : Nat → Ty
 | 1 => ⟨true, 1, false, [.nilf], [], none, 8, true, 0⟩
 | 2 => ⟨true, 1, false, [.t (.int .i64 0)], [], none, 8, true, 1⟩
 | 3 => ⟨true, 1, false, [.t (.int .i64 0)], [], none, 8, true, 1⟩
 | 4 => ⟨true, 1, false, [.t (.bool false)], [], none, 1, true, 5⟩
 | 5 => ⟨true, 1, false, [.t (.int .u8 0)], [], none, 1, true, 2⟩
 | 6 => ⟨true, 1, false, [.t (.int .u8 0)], [], none, 1, true, 2⟩
 | 7 => ⟨true, 4, true, [.t (.int .i64 0), .t (.int .i64 0), .t (.bool false), .t (.int .u8 0)], [(0, 2), (1, 3), (2, 4), (3, 6)], none, 24, true, 0⟩
 | 8 => ⟨true, 4, true, [.t (.int .i64 0), .t (.int .i64 0), .t (.bool false), .t (.int .u8 0)], [(0, 2), (1, 3), (2, 4), (3, 6)], none, 24, true, 0⟩
 | 9 => ⟨true, 1, false, [.t (.str [])], [], none, 16, true, 3⟩
 | 10 => ⟨true, 1, false, [.t (.str [])], [], none, 16, true, 3⟩
 | 11 => ⟨true, 1, false, [.t (.str [])], [], none, 16, true, 3⟩
 | 12 => ⟨true, 1, false, [.t (.int .u64 0)], [], none, 8, true, 0⟩
 | 13 => ⟨true, 2, true, [.t (.str []), .t (.int .u64 0)], [(0, 9), (1, 12)], none, 24, true, 0⟩
 | 14 => ⟨true, 2, true, [.t (.str []), .t (.int .u64 0)], [(0, 9), (1, 12)], none, 24, true, 0⟩
 | 15 => ⟨true, 1, false, [.nilp], [], none, 8, true, 6⟩
 | 16 => ⟨true, 1, false, [.nilp], [], none, 8, true, 6⟩
 | 17 => ⟨true, 1, false, [.nilp], [], none, 8, true, 6⟩
 | 18 => ⟨true, 1, true, [.nilp], [(0, 17)], none, 8, true, 0⟩
 | 19 => ⟨true, 1, true, [.nilp], [(0, 17)], none, 8, true, 0⟩
 | 20 => ⟨true, 1, false, [.t .nili], [], none, 16, true, 7⟩
 | 21 => ⟨true, 1, false, [.t (.int .i32 0)], [], none, 4, true, 0⟩
 | 22 => ⟨true, 1, false, [.t (.sl () 0 5 0 [])], [], some 24, 24, false, 0⟩
 | 23 => ⟨true, 5, true, [.t (.int .i64 0), .t (.int .i64 0), .t (.str []), .t (.str []), .t (.sl () 0 5 0 [])], [(0, 3), (1, 3), (2, 9), (3, 9), (4, 22)], none, 72, false, 0⟩
 | 24 => ⟨true, 5, true, [.t (.int .i64 0), .t (.int .i64 0), .t (.str []), .t (.str []), .t (.sl () 0 5 0 [])], [(0, 3), (1, 3), (2, 9), (3, 9), (4, 22)], none, 72, false, 0⟩
 | 26 => ⟨true, 1, false, [.nilf], [], none, 8, true, 0⟩
 | 27 => ⟨true, 1, false, [.nilf], [], none, 8, true, 0⟩
 | 28 => ⟨true, 1, false, [.nilf], [], none, 8, true, 0⟩
 | 29 => ⟨true, 1, false, [.nilf], [], none, 8, true, 0⟩
 | 30 => ⟨true, 1, false, [.nilp], [], none, 8, true, 6⟩
 | 31 => ⟨true, 1, false, [.t (.sl () 0 1 0 [])], [], some 9, 24, false, 0⟩
 | 32 => ⟨true, 1, false, [.nilf], [], none, 8, true, 0⟩
 | 33 => ⟨true, 3, true, [.t (.sl () 0 1 0 []), .t (.int .i64 0), .t (.bool false)], [(0, 31), (1, 3), (2, 4)], none, 40, false, 0⟩
 | 34 => ⟨true, 3, true, [.t (.sl () 0 1 0 []), .t (.int .i64 0), .t (.bool false)], [(0, 31), (1, 3), (2, 4)], none, 40, false, 0⟩
 | 35 => ⟨true, 1, false, [.nilf], [], none, 8, true, 0⟩
 | 36 => ⟨true, 1, false, [.nilf], [], none, 8, true, 0⟩
 | 37 => ⟨true, 1, false, [.nilf], [], none, 8, true, 0⟩
 | 38 => ⟨true, 1, false, [.nilp], [], none, 8, true, 6⟩
 | 39 => ⟨true, 2, true, [.t (.str []), .t (.bool false)], [(0, 9), (1, 4)], none, 24, true, 0⟩
 | 40 => ⟨true, 2, true, [.t (.str []), .t (.bool false)], [(0, 9), (1, 4)], none, 24, true, 0⟩
 | 41 => ⟨true, 1, false, [.nilf], [], none, 8, true, 0⟩
 | 42 => ⟨true, 1, false, [.nilf], [], none, 8, true, 0⟩
 | 43 => ⟨true, 1, false, [.nilf], [], none, 8, true, 0⟩
 | 44 => ⟨true, 1, false, [.nilf], [], none, 8, true, 0⟩
 | 45 => ⟨true, 1, false, [.nilf], [], none, 8, true, 0⟩
 | 46 => ⟨true, 1, false, [.nilf], [], none, 8, true, 0⟩
 | 47 => ⟨true, 1, false, [.nilf], [], none, 8, true, 0⟩
 | 48 => ⟨true, 1, false, [.nilf], [], none, 8, true, 0⟩
 | 49 => ⟨true, 1, false, [.nilf], [], none, 8, true, 0⟩
 | 50 => ⟨true, 1, false, [.nilf], [], none, 8, true, 0⟩
 | 51 => ⟨true, 1, false, [.nilf], [], none, 8, true, 0⟩
 | 52 => ⟨true, 1, false, [.nilf], [], none, 8, true, 0⟩
 | 53 => ⟨true, 1, false, [.t .nili], [], none, 16, true, 7⟩
 | 54 => ⟨true, 1, false, [.t .nili], [], none, 16, true, 7⟩
 | 56 => ⟨true, 1, false, [.nilf], [], none, 8, true, 0⟩
 | 57 => ⟨true, 1, false, [.nilf], [], none, 8, true, 0⟩
 | 58 => ⟨true, 1, false, [.nilf], [], none, 8, true, 0⟩
 | 59 => ⟨true, 1, false, [.nilf], [], none, 8, true, 0⟩
 | 60 => ⟨true, 1, false, [.nilf], [], none, 8, true, 0⟩
 | 61 => ⟨true, 1, false, [.nilf], [], none, 8, true, 0⟩
 | 62 => ⟨true, 1, false, [.t (.sl () 0 1 0 [])], [], some 3, 24, false, 0⟩
 | 63 => ⟨true, 1, false, [.nilf], [], none, 8, true, 0⟩
 | 64 => ⟨true, 1, false, [.nilf], [], none, 8, true, 0⟩
 | 65 => ⟨true, 1, false, [.nilf], [], none, 8, true, 0⟩
 | 66 => ⟨true, 1, false, [.t (.sl () 0 1 0 [])], [], some 5, 24, false, 4⟩
 | 67 => ⟨true, 1, false, [.nilf], [], none, 8, true, 0⟩
 | 68 => ⟨true, 1, false, [.nilf], [], none, 8, true, 0⟩
 | 70 => ⟨true, 1, false, [.nilf], [], none, 8, true, 0⟩
 | 71 => ⟨true, 1, false, [.nilf], [], none, 8, true, 0⟩
 | 72 => ⟨true, 1, false, [.nilf], [], none, 8, true, 0⟩
 | 73 => ⟨true, 1, false, [.nilf], [], none, 8, true, 0⟩
 | 74 => ⟨true, 1, false, [.nilf], [], none, 8, true, 0⟩
 | 75 => ⟨true, 1, false, [.nilf], [], none, 8, true, 0⟩
 | 76 => ⟨true, 1, false, [.nilp], [], none, 8, true, 6⟩
 | 77 => ⟨true, 2, true, [.nilp, .t (.sl () 0 1 0 [])], [(0, 76), (1, 66)], none, 32, false, 0⟩
 | 78 => ⟨true, 2, true, [.nilp, .t (.sl () 0 1 0 [])], [(0, 76), (1, 66)], none, 32, false, 0⟩
 | 79 => ⟨true, 1, false, [.nilf], [], none, 8, true, 0⟩
 | 80 => ⟨true, 1, false, [.nilf], [], none, 8, true, 0⟩
 | 81 => ⟨true, 1, false, [.nilf], [], none, 8, true, 0⟩
 | 85 => ⟨true, 1, false, [.nilf], [], none, 8, true, 0⟩
 | 86 => ⟨true, 1, false, [.t (.int .i64 0)], [], none, 8, true, 1⟩
 | 88 => ⟨true, 1, false, [.nilf], [], none, 8, true, 0⟩
 | 89 => ⟨true, 1, false, [.nilp], [], none, 8, true, 6⟩
 | 90 => ⟨true, 1, false, [.nilf], [], none, 8, true, 0⟩
 | 91 => ⟨true, 1, false, [.nilf], [], none, 8, true, 0⟩
 | 92 => ⟨true, 1, false, [.nilf], [], none, 8, true, 0⟩
 | 93 => ⟨true, 1, false, [.t (.sl () 0 1 0 [])], [], some 31, 24, false, 0⟩
 | 94 => ⟨true, 1, false, [.nilf], [], none, 8, true, 0⟩
 | 95 => ⟨true, 1, false, [.nilp], [], none, 8, true, 6⟩
 | 96 => ⟨true, 1, false, [.nilf], [], none, 8, true, 0⟩
 | 97 => ⟨true, 1, false, [.t (.int .u64 0)], [], none, 8, true, 0⟩
 | 98 => ⟨true, 1, false, [.nilp], [], none, 8, true, 6⟩
 | 99 => ⟨true, 1, false, [.t (.int .u64 0)], [], none, 8, true, 0⟩
 | 101 => ⟨true, 1, false, [.nilf], [], none, 8, true, 0⟩
 | 102 => ⟨true, 1, false, [.nilf], [], none, 8, true, 0⟩
 | 103 => ⟨true, 3, true, [.t (.str []), .t (.str []), .t .nili], [(0, 9), (1, 9), (2, 54)], none, 48, true, 0⟩
 | 104 => ⟨true, 3, true, [.t (.str []), .t (.str []), .t .nili], [(0, 9), (1, 9), (2, 54)], none, 48, true, 0⟩
 | 105 => ⟨true, 1, false, [.nilf], [], none, 8, true, 0⟩
 | 106 => ⟨true, 1, false, [.nilf], [], none, 8, true, 0⟩
 | 108 => ⟨true, 1, false, [.nilf], [], none, 8, true, 0⟩
 | 109 => ⟨true, 1, false, [.nilf], [], none, 8, true, 0⟩
 | 110 => ⟨true, 1, false, [.nilf], [], none, 8, true, 0⟩
 | 111 => ⟨true, 1, false, [.nilp], [], none, 8, true, 6⟩
 | 112 => ⟨true, 1, true, [.t (.str [])], [(0, 9)], none, 16, true, 0⟩
 | 113 => ⟨true, 1, true, [.t (.str [])], [(0, 9)], none, 16, true, 0⟩
 | 115 => ⟨true, 1, false, [.nilf], [], none, 8, true, 0⟩
 | 116 => ⟨true, 1, false, [.nilf], [], none, 8, true, 0⟩
 | 118 => ⟨true, 1, false, [.nilf], [], none, 8, true, 0⟩
 | 119 => ⟨true, 1, false, [.nilf], [], none, 8, true, 0⟩
 | 121 => ⟨true, 1, false, [.t (.int .u32 0)], [], none, 4, true, 0⟩
 | 123 => ⟨true, 1, false, [.nilf], [], none, 8, true, 0⟩
 | 124 => ⟨true, 1, false, [.nilf], [], none, 8, true, 0⟩
 | 127 => ⟨true, 4, true, [.nilp, .nilp, .nilp, .t (.str [])], [(0, 17), (1, 17), (2, 17), (3, 9)], none, 40, true, 0⟩
 | 128 => ⟨true, 4, true, [.nilp, .nilp, .nilp, .t (.str [])], [(0, 17), (1, 17), (2, 17), (3, 9)], none, 40, true, 0⟩
 | 132 => ⟨true, 1, false, [.nilf], [], none, 8, true, 0⟩
 | 133 => ⟨true, 1, false, [.t (.int .u8 0)], [], none, 1, true, 2⟩
 | 134 => ⟨true, 1, false, [.t (.int .u8 0)], [], none, 1, true, 2⟩
 | 135 => ⟨true, 1, false, [.nilf], [], none, 8, true, 0⟩
 | 136 => ⟨true, 1, false, [.t (.int .i32 0)], [], none, 4, true, 0⟩
 | 137 => ⟨true, 1, false, [.t (.int .i32 0)], [], none, 4, true, 0⟩
 | 138 => ⟨true, 11, true, [.t (.int .u64 0), .t (.int .u64 0), .t (.int .u32 0), .t (.int .u8 0), .t (.int .u8 0), .t (.int .u8 0), .t (.int .u8 0), .nilf, .nilp, .t (.int .i32 0), .t (.int .i32 0)], [(0, 12), (1, 12), (2, 121), (3, 133), (4, 5), (5, 5), (6, 134), (7, 135), (8, 95), (9, 136), (10, 137)], none, 48, true, 0⟩
 | 139 => ⟨true, 11, true, [.t (.int .u64 0), .t (.int .u64 0), .t (.int .u32 0), .t (.int .u8 0), .t (.int .u8 0), .t (.int .u8 0), .t (.int .u8 0), .nilf, .nilp, .t (.int .i32 0), .t (.int .i32 0)], [(0, 12), (1, 12), (2, 121), (3, 133), (4, 5), (5, 5), (6, 134), (7, 135), (8, 95), (9, 136), (10, 137)], none, 48, true, 0⟩
 | _ => ⟨false, 0, false, [], [], none, 0, false, 0⟩
def thT : Nat → Nat
 | 2 => 0
 | 3 => 11
 | 4 => 6
 | 5 => 6
 | 6 => 5
 | 7 => 5
 | 8 => 5
 | 9 => 7
 | 10 => 8
 | 11 => 3
 | 12 => 4
 | 13 => 6
 | 14 => 11
 | 15 => 3
 | 16 => 5
 | 17 => 8
 | 18 => 6
 | 19 => 6
 | 20 => 6
 | 21 => 3
 | 22 => 7
 | 23 => 5
 | 24 => 6
 | 25 => 3
 | 26 => 3
 | 27 => 5
 | 28 => 5
 | 29 => 6
 | 30 => 3
 | 31 => 6
 | 32 => 5
 | 33 => 6
 | 34 => 3
 | 35 => 6
 | 36 => 5
 | 37 => 4
 | 38 => 3
 | 39 => 11
 | 40 => 5
 | 41 => 5
 | 42 => 3
 | 43 => 11
 | 44 => 4
 | 45 => 5
 | 46 => 3
 | 47 => 6
 | 48 => 8
 | 49 => 4
 | 50 => 11
 | 51 => 11
 | 52 => 11
 | 53 => 3
 | 54 => 6
 | 55 => 5
 | 56 => 7
 | 57 => 3
 | 58 => 5
 | 59 => 9
 | 60 => 6
 | 61 => 3
 | 62 => 5
 | 63 => 6
 | 64 => 4
 | 65 => 6
 | 66 => 3
 | 67 => 6
 | 68 => 5
 | 69 => 3
 | 70 => 17
 | 71 => 3
 | 72 => 6
 | 73 => 5
 | 74 => 12
 | 75 => 5
 | 76 => 5
 | 77 => 7
 | 78 => 7
 | 79 => 3
 | 80 => 6
 | 81 => 6
 | 82 => 5
 | 83 => 5
 | 84 => 2
 | 85 => 5
 | 86 => 4
 | 87 => 3
 | 89 => 18
 | 90 => 4
 | 91 => 3
 | 92 => 10
 | 96 => 3
 | 97 => 6
 | 98 => 3
 | 99 => 4
 | 100 => 17
 | 101 => 19
 | 102 => 3
 | 103 => 3
 | 104 => 3
 | 105 => 3
 | 106 => 3
 | 107 => 3
 | 108 => 3
 | 136 => 0
 | _ => 0
def tsT : Nat → List Nat
 | 3 => [14, 19, 44]
 | 14 => [38]
 | 16 => [9]
 | 17 => [29]
 | 33 => [6]
 | 35 => [6]
 | 50 => [27]
 | 51 => [70]
 | 54 => [8]
 | 74 => [25]
 | 82 => [22]
 | 85 => [13]
 | 92 => [44]
 | _ => []
def vsT : Nat → List Nat
 | 4 => [13]
 | 5 => [12]
 | 13 => [8, 13, 17]
 | 17 => [10, 15, 19]
 | 26 => [4, 8, 14, 24]
 | 38 => [4, 8, 14, 24]
 | 43 => [13, 15]
 | 48 => [29]
 | 52 => [34, 12, 19, 26]
 | 60 => [26]
 | 70 => [160, 171, 183]
 | 74 => [17, 21]
 | 75 => [10]
 | 76 => [10]
 | 77 => [15]
 | 78 => [15]
 | 86 => [10]
 | 89 => [25, 32, 40, 52, 64, 90, 92, 106, 112, 121]
 | 91 => [5]
 | _ => []
def movT : Nat → List Nat
 | _ => []
def nstT (g : Nat) : Bool := ([] : List Nat).contains g
def tkeT (g : Nat) : Bool := ([] : List Nat).contains g
def dptT : Nat → Nat
 | _ => 3
def actT (g : Nat) : Bool := [7, 10, 14, 19, 21, 32, 35, 41, 42, 63, 64, 65, 66, 73, 84, 85].contains g
def plcT : Nat → List Nat
 | 7 => [0]
 | 19 => [0]
 | _ => []
def ordT (f id k : Nat) : Bool := match f, id with
 | 10, 23 => [5, 7, 9].contains k
 | 14, 31 => [5, 7, 9].contains k
 | 21, 5 => [11].contains k
 | 39, 10 => [12].contains k
 | 48, 6 => [7].contains k
 | 66, 1 => [11].contains k
 | 70, 7 => [8].contains k
 | 75, 1 => [6].contains k
 | 76, 1 => [6].contains k
 | 85, 0 => [15].contains k
 | 100, 7 => [12, 14].contains k
 | 100, 8 => [12, 14].contains k
 | 100, 9 => [12, 14].contains k
 | 100, 10 => [12, 14].contains k
 | 100, 17 => [12, 14].contains k
 | 100, 18 => [12, 14].contains k
 | 100, 23 => [12, 14].contains k
 | _, _ => false
def shrT (f id k : Nat) : List Nat := match f, id, k with
 | 4, 5, 10 => [4]
 | 18, 6, 5 => [5]
 | 21, 1, 4 => [0]
 | 21, 5, 4 => [0]
 | 29, 1, 3 => [2]
 | 29, 1, 11 => [2]
 | 29, 1, 20 => [2]
 | 29, 6, 5 => [2]
 | 29, 6, 6 => [5]
 | 39, 1, 6 => [3]
 | 48, 6, 4 => [3]
 | 64, 3, 5 => [0]
 | 66, 1, 5 => [0]
 | 70, 14, 7 => [12]
 | 70, 31, 7 => [16]
 | 85, 0, 9 => [0]
 | 100, 7, 3 => [0]
 | 100, 7, 4 => [4]
 | 100, 7, 9 => [9]
 | 100, 8, 3 => [0]
 | 100, 8, 4 => [4]
 | 100, 8, 9 => [8]
 | 100, 9, 3 => [0]
 | 100, 9, 4 => [4]
 | 100, 9, 9 => [11]
 | 100, 10, 3 => [0]
 | 100, 10, 4 => [4]
 | 100, 10, 9 => [10]
 | 100, 17, 3 => [0]
 | 100, 17, 4 => [4]
 | 100, 17, 9 => [15]
 | 100, 18, 3 => [0]
 | 100, 18, 4 => [4]
 | 100, 18, 9 => [14]
 | 100, 23, 3 => [0]
 | 100, 23, 4 => [4]
 | 100, 23, 9 => [16]
 | _, _, _ => []
def pndT (f id k : Nat) : List Nat := match f, id, k with
 | 10, 23, 5 => [0, 1]
 | 14, 31, 5 => [0, 1]
 | 100, 7, 12 => [3, 4, 5, 9, 10]
 | 100, 8, 12 => [3, 4, 5, 9, 10]
 | 100, 9, 12 => [3, 4, 5, 9, 10]
 | 100, 10, 12 => [3, 4, 5, 9, 10]
 | 100, 17, 12 => [3, 4, 5, 9, 10]
 | 100, 18, 12 => [3, 4, 5, 9, 10]
 | 100, 23, 12 => [3, 4, 5, 9, 10]
 | _, _, _ => []
def palT (f id k : Nat) : List Nat := match f, id, k with
 | _, _, _ => []
def prmT (f id : Nat) : List Nat := match f, id with
 | _, _ => []
def tlT (f id : Nat) : Option Nat := match f, id with
 | _, _ => none
def zVt : List Nat := [2, 3, 4, 5, 6, 7, 8, 9, 10, 11, 12, 13, 14, 15, 16, 17, 18, 19, 20, 21, 22, 23, 24, 25, 26, 27, 28, 29, 30, 31, 32, 33, 34, 35, 36, 37, 38, 39, 40, 41, 42, 43, 44, 45, 46, 47, 48, 49, 50, 51, 52, 53, 54, 55, 56, 57, 58, 59, 60, 61, 62, 63, 64, 65, 66, 67, 68, 69, 70, 71, 72, 73, 74, 75, 76, 77, 78, 79, 80, 81, 82, 83, 84, 85, 86, 87, 89, 90, 91, 92, 96, 97, 98, 99, 100, 101, 102, 103, 104, 105, 106, 107, 108, 136]
def orcT : Nat → Option (List XU → Option XU)
 | 33 => some eF
 | 36 => some zLa
 | 43 => some tM
 | 50 => some zF0
 | 53 => some eG
 | 54 => some zK9
 | 62 => some lY
 | _ => none
def groT : Nat → Option (Nat × Nat)
 | 82 => some (1, 16)
 | _ => none
def cx0 : Ctx := { ty := tyT, th := thT, vs := vsT, ts := tsT, act := actT, plc := plcT, nst := nstT, tke := tkeT, dpt := dptT, mov := movT, good := zVt.contains, ord := ordT, shr := shrT, pnd := pndT, pal := palT, prm := prmT, tl := tlT, orc := orcT, gro := groT }
def T0 : World → Prop := fun w => Lib.TabIs Tryz.prog w "internal/strconv.uint64pow10" .u64 Lib.pow10Tab ∧ zMc w "strconv.ErrSyntax" ∧ zMc w "strconv.ErrRange"
theorem horc : ∀ g h args x, cx0.orc g = some h → h args = some x → bF Tryz.prog g ∧
  ∀ (w : World) (E : Nat → Prop) (P : Nat → Nat → Prop) (R : Nat → Prop) (ea : List EA) (argsG : List XV), TabOk T0 w E → argsG.map erX = args → In w E P R ea argsG [] →
   Calls Tryz.prog g (argsG.map zQ).toArray w (fun
    | .returned v, w' => ∃ resG, erX resG = x ∧ v = zQ resG ∧ Out w E P R ea w' resG []
    | _, _ => False) := by
 intro g h args x ho hx
 simp only [cx0, orcT] at ho
 split at ho
 ·cases ho; exact bT (fun w h => by first | exact h.1 | exact h.2 | trivial) zK8 args x hx
 ·cases ho; exact bT (fun w h => by first | exact h.1 | exact h.2 | trivial) (zPl (T := fun _ => True)) args x hx
 ·cases ho; exact bT (fun w h => by first | exact h.1 | exact h.2 | trivial) (zLc (T := fun _ => True)) args x hx
 ·cases ho; exact bT (fun w h => by first | exact h.1 | exact h.2 | trivial) (zPj (T := fun _ => True)) args x hx
 ·cases ho; exact bT (fun w h => by first | exact h.1 | exact h.2 | trivial) zLb args x hx
 ·cases ho; exact bT (fun w h => by first | exact h.1 | exact h.2 | trivial) (zPk (T := fun _ => True)) args x hx
 ·cases ho; exact bT (fun w h => by first | exact h.1 | exact h.2 | trivial) (iU (T := fun _ => True)) args x hx
 ·cases ho
theorem s8 : eN Tryz.prog cx0 := by
 intro g q ho
 simp only [cx0, groT] at ho
 split at ho
 ·cases ho; exact zKv
 ·cases ho
theorem cxOk : CtxOk Tryz.prog cx0 T0 := zQ3 (by kernel_rfl) 140 (by kernel_rfl) (fun t ht => by unfold cx0 tyT; simp only; split <;> first | rfl | omega) zVt (fun _ => rfl) (by kernel_rfl) horc s8
end Go.Proofs.YtlkjnlfddadlmaaGreatDoor.V

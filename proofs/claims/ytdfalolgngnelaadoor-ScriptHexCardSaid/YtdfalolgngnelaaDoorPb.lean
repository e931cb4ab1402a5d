/-
  Texts packed together by program: Shf, Rng, F, Fscript, Fref30, Sep, Lib, Arr. Conditions: as each theorem states.
-/
import Derived.OrdersIn
import Derived.RangeFuncRecord
import Derived.Shelf.LaysC
import Derived.Shelf.LaysM
import Derived.Shelf.Small.Strs
import Derived.Shelf.Strconv.Atoi
import Derived.Shelf.Strconv.AtoiAll
import Derived.Shelf.Strconv.AtoiErrFast
import Derived.Shelf.Strconv.AtoiFail
import Derived.Shelf.Strconv.AtoiInnerAll
import Derived.Shelf.Strconv.AtoiLong
import Derived.Shelf.Strconv.Clone
import Derived.Shelf.Strconv.Itoa0
import Derived.Shelf.Strconv.Itoa1
import Derived.Shelf.Strconv.Itoa2
import Derived.Shelf.Strconv.Itoa3
import Derived.Shelf.Strconv.Lower
import Derived.Shelf.Strconv.ParseInt10
import Derived.Shelf.Strconv.ParseIntEmpty
import Derived.Shelf.Strconv.ParseUint10
import Derived.Shelf.Strconv.ParseUint10Any
import Derived.Shelf.Strconv.ParseUint10Empty
import Derived.Shelf.Strconv.RangeError
import Derived.Shelf.Strconv.SyntaxError
import Derived.Shelf.Strconv.ToError
import Derived.Shelf.Strconv.ToErrorRange
import Derived.Shelf.Strings.Builder1
import Derived.Shelf.Strings.Builder2
import Derived.Shelf.Strings.Builder2Cap
import Derived.Shelf.Strings.BuilderCap
import Derived.Shelf.Strings.BuilderF
import Derived.Shelf.Strings.BuilderK
import Derived.Shelf.Strings.Cut
import Derived.Shelf.Strings.FieldsFuncAny
import Derived.Shelf.Strings.OnBuilder
import Derived.Shelf.Strings.Search1
import Derived.Shelf.Strings.Search2
import Derived.Shelf.Strings.Shaped
import Derived.TacticsIn
import Derived.Test.YtdfalolgngnelaaDoorChecked
import Derived.Test.YtdfalolgngnelaaDoorProg
import Derived.Test.YtdfalolgngnelaaDoorPa
set_option linter.unusedSimpArgs false
set_option linter.unusedVariables false
/- Shf -/
namespace Go.Proofs
open Go.Shelf
def Tryd.lays169_ren : Go.Shelf.Ren := ⟨fun | 169 => 29 | n => n, fun | 70 => 61 | 9 => 9 | 0 => 0 | 72 => 63 | 37 => 24 | 127 => 92 | 3 => 3 | 5 => 5 | n => n, fun | n => n⟩
theorem Tryd.lays169 : Go.Proofs.Lays.n169 Tryd.prog Tryd.lays169_ren := {
  mixed := by kernel_rfl
  f169 := Tryd.func29.trans (congrArg some (by kernel_rfl))
  t0 := Tryd.underlying0
  a0 := Tryd.isAgg0
  z0 := Tryd.sizeOf0
  v0 := Tryd.zeroValue0
  t3 := Tryd.underlying3
  a3 := Tryd.isAgg3
  z3 := Tryd.sizeOf3
  v3 := Tryd.zeroValue3
  t9 := Tryd.underlying9
  a9 := Tryd.isAgg9
  z9 := Tryd.sizeOf9
  v9 := Tryd.zeroValue9
  t37 := Tryd.underlying24
  a37 := Tryd.isAgg24
  z37 := Tryd.sizeOf24
  v37 := Tryd.zeroValue24
  t70 := Tryd.underlying61
  a70 := Tryd.isAgg61
  z70 := Tryd.sizeOf61
  v70 := Tryd.zeroValue61
  t72 := Tryd.underlying63
  a72 := Tryd.isAgg63
  z72 := Tryd.sizeOf63
  v72 := Tryd.zeroValue63
  t127 := Tryd.underlying92
  a127 := Tryd.isAgg92
  z127 := Tryd.sizeOf92
  v127 := Tryd.zeroValue92 }
theorem Tryd.Builder_Extra_169 : Builder.Extra Tryd.prog Tryd.lays169_ren := {
  sizeBuilder := by kernel_rfl
  liesBuilder := by kernel_rfl
  t5 := Tryd.underlying5
  a5 := Tryd.isAgg5
  z5 := Tryd.sizeOf5
  v5 := Tryd.zeroValue5
  infoByte := by kernel_rfl
  cellsByte := by kernel_rfl
  sizeByte := by kernel_rfl
  neB5 := by decide }
def Tryd.lays156_ren : Go.Shelf.Ren := ⟨fun | 156 => 18 | 165 => 37 | 166 => 26 | 169 => 29 | 240 => 51 | 241 => 53 | 276 => 60 | 277 => 62 | n => n, fun | 31 => 42 | 9 => 9 | 3 => 3 | 4 => 4 | 0 => 0 | 20 => 20 | 72 => 63 | 76 => 66 | 70 => 61 | 37 => 24 | 75 => 65 | 127 => 92 | 164 => 98 | 5 => 5 | 80 => 70 | n => n, fun | n => n⟩
theorem Tryd.lays156 : Go.Proofs.Lays.n156 Tryd.prog Tryd.lays156_ren := {
  mixed := by kernel_rfl
  f156 := Tryd.func18.trans (congrArg some (by kernel_rfl))
  f165 := Tryd.func37.trans (congrArg some (by kernel_rfl))
  f166 := Tryd.func26.trans (congrArg some (by kernel_rfl))
  f169 := Tryd.func29.trans (congrArg some (by kernel_rfl))
  f240 := Tryd.func51.trans (congrArg some (by kernel_rfl))
  f241 := Tryd.func53.trans (congrArg some (by kernel_rfl))
  f276 := Tryd.func60.trans (congrArg some (by kernel_rfl))
  f277 := Tryd.func62.trans (congrArg some (by kernel_rfl))
  t0 := Tryd.underlying0
  a0 := Tryd.isAgg0
  z0 := Tryd.sizeOf0
  v0 := Tryd.zeroValue0
  t3 := Tryd.underlying3
  a3 := Tryd.isAgg3
  z3 := Tryd.sizeOf3
  v3 := Tryd.zeroValue3
  t4 := Tryd.underlying4
  a4 := Tryd.isAgg4
  z4 := Tryd.sizeOf4
  v4 := Tryd.zeroValue4
  t9 := Tryd.underlying9
  a9 := Tryd.isAgg9
  z9 := Tryd.sizeOf9
  v9 := Tryd.zeroValue9
  t20 := Tryd.underlying20
  a20 := Tryd.isAgg20
  z20 := Tryd.sizeOf20
  v20 := Tryd.zeroValue20
  t31 := Tryd.underlying42
  a31 := Tryd.isAgg42
  z31 := Tryd.sizeOf42
  v31 := Tryd.zeroValue42
  t37 := Tryd.underlying24
  a37 := Tryd.isAgg24
  z37 := Tryd.sizeOf24
  v37 := Tryd.zeroValue24
  t70 := Tryd.underlying61
  a70 := Tryd.isAgg61
  z70 := Tryd.sizeOf61
  v70 := Tryd.zeroValue61
  t72 := Tryd.underlying63
  a72 := Tryd.isAgg63
  z72 := Tryd.sizeOf63
  v72 := Tryd.zeroValue63
  t75 := Tryd.underlying65
  a75 := Tryd.isAgg65
  z75 := Tryd.sizeOf65
  v75 := Tryd.zeroValue65
  t76 := Tryd.underlying66
  a76 := Tryd.isAgg66
  z76 := Tryd.sizeOf66
  v76 := Tryd.zeroValue66
  t127 := Tryd.underlying92
  a127 := Tryd.isAgg92
  z127 := Tryd.sizeOf92
  v127 := Tryd.zeroValue92
  t164 := Tryd.underlying98
  a164 := Tryd.isAgg98
  z164 := Tryd.sizeOf98
  v164 := Tryd.zeroValue98 }
theorem Tryd.Builder_Extra_156 : Builder.Extra Tryd.prog Tryd.lays156_ren := {
  sizeBuilder := by kernel_rfl
  liesBuilder := by kernel_rfl
  t5 := Tryd.underlying5
  a5 := Tryd.isAgg5
  z5 := Tryd.sizeOf5
  v5 := Tryd.zeroValue5
  infoByte := by kernel_rfl
  cellsByte := by kernel_rfl
  sizeByte := by kernel_rfl
  neB5 := by decide }
open Go.RowKit in
theorem Tryd.strings_Join_none (a : Option Addr) (c : Nat) (sep : ByteArray) (w : World) :
    Calls Tryd.prog 18 #[.slice a 0 c, .string sep] w fun e w' => e = .returned (.string ⟨#[]⟩) ∧ w' = w := Any.strings_Join_none Tryd.lays156 Tryd.Builder_Extra_156 a c sep w
open Go.RowKit in
theorem Tryd.strings_Join (bk o c : Nat) (xs : List ByteArray) (sep : ByteArray) (w : World) (hcells : ∀ (j : Nat) x, xs[j]? = some x → w.cell? ⟨bk, o + j, none⟩ = some (.string x)) (hbk : bk < w.heap.size) (hN : xs.length ≤ 140737488355328) (hcap : xs.length ≤ c) (hlen : (Lib.join (xs.map (·.data.toList)) sep.data.toList).length ≤ 140737488355328) :
    Calls Tryd.prog 18 #[.slice (some ⟨bk, o, none⟩) xs.length c, .string sep] w fun e w' => e = .returned (.string ⟨(Lib.join (xs.map (·.data.toList)) sep.data.toList).toArray⟩) ∧ Below w.heap.size w w' := Any.strings_Join Tryd.lays156 Tryd.Builder_Extra_156 bk o c xs sep w hcells hbk hN hcap hlen
def Tryd.lays137_ren : Go.Shelf.Ren := ⟨fun | 137 => 58 | 217 => 66 | 266 => 79 | n => n, fun | 9 => 9 | 5 => 5 | 3 => 3 | n => n, fun | n => n⟩
theorem Tryd.lays137 : Go.Proofs.Lays.n137 Tryd.prog Tryd.lays137_ren := {
  mixed := by kernel_rfl
  f137 := Tryd.func58.trans (congrArg some (by kernel_rfl))
  f217 := Tryd.func66.trans (congrArg some (by kernel_rfl))
  f266 := Tryd.func79.trans (congrArg some (by kernel_rfl))
  t3 := Tryd.underlying3
  a3 := Tryd.isAgg3
  z3 := Tryd.sizeOf3
  v3 := Tryd.zeroValue3
  t5 := Tryd.underlying5
  a5 := Tryd.isAgg5
  z5 := Tryd.sizeOf5
  v5 := Tryd.zeroValue5
  t9 := Tryd.underlying9
  a9 := Tryd.isAgg9
  z9 := Tryd.sizeOf9
  v9 := Tryd.zeroValue9 }
open Go.RowKit in
theorem Tryd.strings_IndexByte (s : ByteArray) (c : Int) (w : World) :
    Calls Tryd.prog 58 #[.string s, .int .u8 c] w fun e w' => e = .returned (.int .i64 (Lib.indexByte s.data.toList c.toNat.toUInt8)) ∧ w' = w := Any.strings_IndexByte Tryd.lays137 s c w
open Go.RowKit in
theorem Tryd.Builder_String_any_k (B b : Nat) (l : List UInt8) (w : World) (h : Lib.IsBuilderF 63 5 B b (Lib.byteCells l) w) (hBw : B ≤ w.heap.size) :
    Calls Tryd.prog 29 #[.pointer (some ⟨b, 0, none⟩)] w fun e w' => e = .returned (.string ⟨l.toArray⟩) ∧ (Lib.IsBuilderF 63 5 B b (Lib.byteCells l) w' ∧ Below B w w' ∧ Lib.OthersKept 5 (some b) w w') := Any.Builder_String_any_k Tryd.lays169 Tryd.Builder_Extra_169 B b l w h hBw
def Tryd.laysM171_ren : Go.Shelf.Ren := ⟨fun | 171 => 28 | 243 => 52 | 246 => 61 | 283 => 67 | 284 => 68 | 285 => 69 | 286 => 70 | 129 => 81 | 317 => 80 | 318 => 82 | 319 => 83 | 320 => 84 | 337 => 89 | 338 => 90 | n => n, fun | 3 => 3 | 9 => 9 | 2 => 2 | 4 => 4 | 171 => 107 | 0 => 0 | 53 => 96 | 37 => 24 | 5 => 5 | 173 => 110 | 212 => 120 | 51 => 121 | 20 => 20 | 213 => 122 | 46 => 58 | 232 => 138 | 233 => 139 | n => n, fun | 17 => 1 | 18 => 4 | 19 => 5 | n => n⟩
theorem Tryd.laysM171 : Go.Proofs.LaysM.n171 Tryd.prog Tryd.laysM171_ren := {
  mixed := by kernel_rfl
  f129 := Tryd.func81.trans (congrArg some (by kernel_rfl))
  f171 := Tryd.func28.trans (congrArg some (by kernel_rfl))
  f243 := Tryd.func52.trans (congrArg some (by kernel_rfl))
  f246 := Tryd.func61.trans (congrArg some (by kernel_rfl))
  f283 := Tryd.func67.trans (congrArg some (by kernel_rfl))
  f284 := Tryd.func68.trans (congrArg some (by kernel_rfl))
  f285 := Tryd.func69.trans (congrArg some (by kernel_rfl))
  f286 := Tryd.func70.trans (congrArg some (by kernel_rfl))
  f317 := Tryd.func80.trans (congrArg some (by kernel_rfl))
  f318 := Tryd.func82.trans (congrArg some (by kernel_rfl))
  f319 := Tryd.func83.trans (congrArg some (by kernel_rfl))
  f320 := Tryd.func84.trans (congrArg some (by kernel_rfl))
  f337 := Tryd.func89.trans (congrArg some (by kernel_rfl))
  f338 := Tryd.func90.trans (congrArg some (by kernel_rfl))
  t0 := Tryd.underlying0
  a0 := Tryd.isAgg0
  z0 := Tryd.sizeOf0
  v0 := Tryd.zeroValue0
  t2 := Tryd.underlying2
  a2 := Tryd.isAgg2
  z2 := Tryd.sizeOf2
  v2 := Tryd.zeroValue2
  t3 := Tryd.underlying3
  a3 := Tryd.isAgg3
  z3 := Tryd.sizeOf3
  v3 := Tryd.zeroValue3
  t4 := Tryd.underlying4
  a4 := Tryd.isAgg4
  z4 := Tryd.sizeOf4
  v4 := Tryd.zeroValue4
  t5 := Tryd.underlying5
  a5 := Tryd.isAgg5
  z5 := Tryd.sizeOf5
  v5 := Tryd.zeroValue5
  t9 := Tryd.underlying9
  a9 := Tryd.isAgg9
  z9 := Tryd.sizeOf9
  v9 := Tryd.zeroValue9
  t20 := Tryd.underlying20
  a20 := Tryd.isAgg20
  z20 := Tryd.sizeOf20
  v20 := Tryd.zeroValue20
  t37 := Tryd.underlying24
  a37 := Tryd.isAgg24
  z37 := Tryd.sizeOf24
  v37 := Tryd.zeroValue24
  t46 := Tryd.underlying58
  a46 := Tryd.isAgg58
  z46 := Tryd.sizeOf58
  v46 := Tryd.zeroValue58
  t51 := Tryd.underlying121
  a51 := Tryd.isAgg121
  z51 := Tryd.sizeOf121
  v51 := Tryd.zeroValue121
  t53 := Tryd.underlying96
  a53 := Tryd.isAgg96
  z53 := Tryd.sizeOf96
  v53 := Tryd.zeroValue96
  t171 := Tryd.underlying107
  a171 := Tryd.isAgg107
  z171 := Tryd.sizeOf107
  v171 := Tryd.zeroValue107
  t173 := Tryd.underlying110
  a173 := Tryd.isAgg110
  z173 := Tryd.sizeOf110
  v173 := Tryd.zeroValue110
  t212 := Tryd.underlying120
  a212 := Tryd.isAgg120
  z212 := Tryd.sizeOf120
  v212 := Tryd.zeroValue120
  t213 := Tryd.underlying122
  a213 := Tryd.isAgg122
  z213 := Tryd.sizeOf122
  t232 := Tryd.underlying138
  a232 := Tryd.isAgg138
  z232 := Tryd.sizeOf138
  v232 := Tryd.zeroValue138
  t233 := Tryd.underlying139
  a233 := Tryd.isAgg139
  z233 := Tryd.sizeOf139
  v233 := Tryd.zeroValue139
  g17 := by kernel_rfl
  g18 := by kernel_rfl
  g19 := by kernel_rfl
  i0 := by kernel_rfl
  i2 := by kernel_rfl
  i3 := by kernel_rfl
  i4 := by kernel_rfl
  i5 := by kernel_rfl
  i9 := by kernel_rfl
  i20 := by kernel_rfl
  i37 := by kernel_rfl
  i46 := by kernel_rfl
  i51 := by kernel_rfl
  i53 := by kernel_rfl
  i171 := by kernel_rfl
  i173 := by kernel_rfl
  i212 := by kernel_rfl
  i232 := by kernel_rfl
  i233 := by kernel_rfl
  m17 := by kernel_rfl
  m18 := by kernel_rfl
  m19 := by kernel_rfl }
open Go.RowKit Go.Sort Go.Lib in
theorem Tryd.strconv_Itoa (n : Int) (h0 : -9223372036854775808 ≤ n) (h1 : n ≤ 9223372036854775807) (w : World) (htab : Lib.TabIs Tryd.prog w "internal/strconv.uint64pow10" .u64 Lib.pow10Tab) :
    Calls Tryd.prog 28 #[.int .i64 n] w fun e w' => e = .returned (.string ⟨(Lib.itoa n).toArray⟩) ∧ ∃ k os, w' = grow (w.drewN k) os := Any.strconv_Itoa Tryd.laysM171 n h0 h1 w htab
def Tryd.laysC172_ren : Go.Shelf.Ren := ⟨fun | 172 => 57 | 244 => 64 | 245 => 65 | 247 => 74 | 279 => 75 | 280 => 76 | 281 => 77 | 282 => 78 | 287 => 86 | 316 => 87 | 171 => 28 | 205 => 88 | 321 => 91 | 322 => 92 | 243 => 52 | 246 => 61 | 283 => 67 | 284 => 68 | 285 => 69 | 286 => 70 | 129 => 81 | 317 => 80 | 318 => 82 | 319 => 83 | 320 => 84 | 337 => 89 | 338 => 90 | n => n, fun | 9 => 9 | 3 => 3 | 75 => 65 | 76 => 66 | 4 => 4 | 5 => 5 | 167 => 113 | 37 => 24 | 0 => 0 | 85 => 114 | 2 => 2 | 168 => 116 | 53 => 96 | 175 => 126 | 46 => 58 | 210 => 130 | 127 => 92 | 145 => 137 | 143 => 135 | 21 => 21 | 171 => 107 | 173 => 110 | 212 => 120 | 51 => 121 | 20 => 20 | 213 => 122 | 232 => 138 | 233 => 139 | 80 => 70 | n => n, fun | 15 => 2 | 16 => 3 | 17 => 1 | 18 => 4 | 19 => 5 | n => n⟩
theorem Tryd.laysC172 : Go.Proofs.LaysC.n172 Tryd.prog Tryd.laysC172_ren := {
  mixed := by kernel_rfl
  f129 := Tryd.func81.trans (congrArg some (by kernel_rfl))
  f171 := Tryd.func28.trans (congrArg some (by kernel_rfl))
  f172 := Tryd.func57.trans (congrArg some (by kernel_rfl))
  f205 := Tryd.func88.trans (congrArg some (by kernel_rfl))
  f243 := Tryd.func52.trans (congrArg some (by kernel_rfl))
  f244 := Tryd.func64.trans (congrArg some (by kernel_rfl))
  f245 := Tryd.func65.trans (congrArg some (by kernel_rfl))
  f246 := Tryd.func61.trans (congrArg some (by kernel_rfl))
  f247 := Tryd.func74.trans (congrArg some (by kernel_rfl))
  f279 := Tryd.func75.trans (congrArg some (by kernel_rfl))
  f280 := Tryd.func76.trans (congrArg some (by kernel_rfl))
  f281 := Tryd.func77.trans (congrArg some (by kernel_rfl))
  f282 := Tryd.func78.trans (congrArg some (by kernel_rfl))
  f283 := Tryd.func67.trans (congrArg some (by kernel_rfl))
  f284 := Tryd.func68.trans (congrArg some (by kernel_rfl))
  f285 := Tryd.func69.trans (congrArg some (by kernel_rfl))
  f286 := Tryd.func70.trans (congrArg some (by kernel_rfl))
  f287 := Tryd.func86.trans (congrArg some (by kernel_rfl))
  f316 := Tryd.func87.trans (congrArg some (by kernel_rfl))
  f317 := Tryd.func80.trans (congrArg some (by kernel_rfl))
  f318 := Tryd.func82.trans (congrArg some (by kernel_rfl))
  f319 := Tryd.func83.trans (congrArg some (by kernel_rfl))
  f320 := Tryd.func84.trans (congrArg some (by kernel_rfl))
  f321 := Tryd.func91.trans (congrArg some (by kernel_rfl))
  f322 := Tryd.func92.trans (congrArg some (by kernel_rfl))
  f337 := Tryd.func89.trans (congrArg some (by kernel_rfl))
  f338 := Tryd.func90.trans (congrArg some (by kernel_rfl))
  t0 := Tryd.underlying0
  a0 := Tryd.isAgg0
  z0 := Tryd.sizeOf0
  v0 := Tryd.zeroValue0
  t2 := Tryd.underlying2
  a2 := Tryd.isAgg2
  z2 := Tryd.sizeOf2
  v2 := Tryd.zeroValue2
  t3 := Tryd.underlying3
  a3 := Tryd.isAgg3
  z3 := Tryd.sizeOf3
  v3 := Tryd.zeroValue3
  t4 := Tryd.underlying4
  a4 := Tryd.isAgg4
  z4 := Tryd.sizeOf4
  v4 := Tryd.zeroValue4
  t5 := Tryd.underlying5
  a5 := Tryd.isAgg5
  z5 := Tryd.sizeOf5
  v5 := Tryd.zeroValue5
  t9 := Tryd.underlying9
  a9 := Tryd.isAgg9
  z9 := Tryd.sizeOf9
  v9 := Tryd.zeroValue9
  t20 := Tryd.underlying20
  a20 := Tryd.isAgg20
  z20 := Tryd.sizeOf20
  v20 := Tryd.zeroValue20
  t21 := Tryd.underlying21
  a21 := Tryd.isAgg21
  z21 := Tryd.sizeOf21
  v21 := Tryd.zeroValue21
  t37 := Tryd.underlying24
  a37 := Tryd.isAgg24
  z37 := Tryd.sizeOf24
  v37 := Tryd.zeroValue24
  t46 := Tryd.underlying58
  a46 := Tryd.isAgg58
  z46 := Tryd.sizeOf58
  v46 := Tryd.zeroValue58
  t51 := Tryd.underlying121
  a51 := Tryd.isAgg121
  z51 := Tryd.sizeOf121
  v51 := Tryd.zeroValue121
  t53 := Tryd.underlying96
  a53 := Tryd.isAgg96
  z53 := Tryd.sizeOf96
  v53 := Tryd.zeroValue96
  t75 := Tryd.underlying65
  a75 := Tryd.isAgg65
  z75 := Tryd.sizeOf65
  v75 := Tryd.zeroValue65
  t76 := Tryd.underlying66
  a76 := Tryd.isAgg66
  z76 := Tryd.sizeOf66
  v76 := Tryd.zeroValue66
  t85 := Tryd.underlying114
  a85 := Tryd.isAgg114
  z85 := Tryd.sizeOf114
  v85 := Tryd.zeroValue114
  t127 := Tryd.underlying92
  a127 := Tryd.isAgg92
  z127 := Tryd.sizeOf92
  v127 := Tryd.zeroValue92
  t143 := Tryd.underlying135
  a143 := Tryd.isAgg135
  z143 := Tryd.sizeOf135
  v143 := Tryd.zeroValue135
  t145 := Tryd.underlying137
  a145 := Tryd.isAgg137
  z145 := Tryd.sizeOf137
  v145 := Tryd.zeroValue137
  t167 := Tryd.underlying113
  a167 := Tryd.isAgg113
  z167 := Tryd.sizeOf113
  v167 := Tryd.zeroValue113
  t168 := Tryd.underlying116
  a168 := Tryd.isAgg116
  z168 := Tryd.sizeOf116
  v168 := Tryd.zeroValue116
  t171 := Tryd.underlying107
  a171 := Tryd.isAgg107
  z171 := Tryd.sizeOf107
  v171 := Tryd.zeroValue107
  t173 := Tryd.underlying110
  a173 := Tryd.isAgg110
  z173 := Tryd.sizeOf110
  v173 := Tryd.zeroValue110
  t175 := Tryd.underlying126
  a175 := Tryd.isAgg126
  z175 := Tryd.sizeOf126
  v175 := Tryd.zeroValue126
  t210 := Tryd.underlying130
  a210 := Tryd.isAgg130
  z210 := Tryd.sizeOf130
  v210 := Tryd.zeroValue130
  t212 := Tryd.underlying120
  a212 := Tryd.isAgg120
  z212 := Tryd.sizeOf120
  v212 := Tryd.zeroValue120
  t213 := Tryd.underlying122
  a213 := Tryd.isAgg122
  z213 := Tryd.sizeOf122
  t232 := Tryd.underlying138
  a232 := Tryd.isAgg138
  z232 := Tryd.sizeOf138
  v232 := Tryd.zeroValue138
  t233 := Tryd.underlying139
  a233 := Tryd.isAgg139
  z233 := Tryd.sizeOf139
  v233 := Tryd.zeroValue139
  g15 := by kernel_rfl
  g16 := by kernel_rfl
  g17 := by kernel_rfl
  g18 := by kernel_rfl
  g19 := by kernel_rfl
  t80 := Tryd.underlying70
  a80 := Tryd.isAgg70
  z80 := Tryd.sizeOf70
  v80 := Tryd.zeroValue70
  i0 := by kernel_rfl
  i2 := by kernel_rfl
  i3 := by kernel_rfl
  i4 := by kernel_rfl
  i5 := by kernel_rfl
  i9 := by kernel_rfl
  i20 := by kernel_rfl
  i21 := by kernel_rfl
  i37 := by kernel_rfl
  i46 := by kernel_rfl
  i51 := by kernel_rfl
  i53 := by kernel_rfl
  i75 := by kernel_rfl
  i76 := by kernel_rfl
  i80 := by kernel_rfl
  i85 := by kernel_rfl
  i127 := by kernel_rfl
  i143 := by kernel_rfl
  i145 := by kernel_rfl
  i167 := by kernel_rfl
  i168 := by kernel_rfl
  i171 := by kernel_rfl
  i173 := by kernel_rfl
  i175 := by kernel_rfl
  i210 := by kernel_rfl
  i212 := by kernel_rfl
  i232 := by kernel_rfl
  i233 := by kernel_rfl
  m15 := by kernel_rfl
  m16 := by kernel_rfl
  m17 := by kernel_rfl
  m18 := by kernel_rfl
  m19 := by kernel_rfl
  c0 := by kernel_rfl
  c2 := by kernel_rfl
  c3 := by kernel_rfl
  c4 := by kernel_rfl
  c5 := by kernel_rfl
  c9 := by kernel_rfl
  c20 := by kernel_rfl
  c21 := by kernel_rfl
  c37 := by kernel_rfl
  c46 := by kernel_rfl
  c51 := by kernel_rfl
  c53 := by kernel_rfl
  c75 := by kernel_rfl
  c76 := by kernel_rfl
  c80 := by kernel_rfl
  c85 := by kernel_rfl
  c127 := by kernel_rfl
  c143 := by kernel_rfl
  c145 := by kernel_rfl
  c167 := by kernel_rfl
  c168 := by kernel_rfl
  c171 := by kernel_rfl
  c173 := by kernel_rfl
  c175 := by kernel_rfl
  c210 := by kernel_rfl
  c212 := by kernel_rfl
  c213 := by kernel_rfl
  c232 := by kernel_rfl
  c233 := by kernel_rfl }
open Go.RowKit in
theorem Tryd.strconv_Atoi_ok (s : ByteArray) (hmax : s.size ≤ 9223372036854775806) (v : Int) (h : Lib.atoiAll s.data.toList = .ok v) (w : World) :
    Calls Tryd.prog 57 #[.string s] w fun e w' => e = .returned (.tuple #[.int .i64 v, .nilIface]) ∧ (w' = w ∨ ∃ t, w' = Lib.bytesWorld w 5 t) := Any.strconv_Atoi_ok Tryd.laysC172 s hmax v h w
open Go.RowKit in
theorem Tryd.strconv_Atoi_syntax (s : ByteArray) (hlim : s.size ≤ 281474976710656) (h : Lib.atoiAll s.data.toList = Lib.atoiAll []) (ev : Value) (w : World) (hv : w.cell? ⟨2, 0, none⟩ = some ev) (hev : ev = .nilIface ∨ ∃ te pe, ev = .iface te pe) :
    Calls Tryd.prog 57 #[.string s] w fun e w' => ∃ N, e = .returned (.tuple #[.int .i64 (0), .iface 116 (.pointer (some ⟨N, 0, none⟩))]) ∧ w.heap.size ≤ N ∧ w'.heap[N]? = some (.cells #[.string ⟨#[65, 116, 111, 105]⟩, .string s, ev] 130 (0, 0)) ∧ Below w.heap.size w w' := Any.strconv_Atoi_syntax Tryd.laysC172 s hlim h ev w hv hev
open Go.RowKit in
theorem Tryd.strconv_Atoi_range (s : ByteArray) (hlim : s.size ≤ 281474976710656) (h : Lib.atoiAll s.data.toList = .range) (ev : Value) (w : World) (hv : w.cell? ⟨3, 0, none⟩ = some ev) (hev : ev = .nilIface ∨ ∃ te pe, ev = .iface te pe) :
    Calls Tryd.prog 57 #[.string s] w fun e w' => ∃ N, e = .returned (.tuple #[.int .i64 (Lib.atoiSat s.data.toList), .iface 116 (.pointer (some ⟨N, 0, none⟩))]) ∧ w.heap.size ≤ N ∧ w'.heap[N]? = some (.cells #[.string ⟨#[65, 116, 111, 105]⟩, .string s, ev] 130 (0, 0)) ∧ Below w.heap.size w w' := Any.strconv_Atoi_range Tryd.laysC172 s hlim h ev w hv hev
def Tryd.lays145_ren : Go.Shelf.Ren := ⟨fun | 145 => 39 | 220 => 54 | 219 => 63 | 217 => 66 | 225 => 71 | 224 => 72 | 267 => 73 | 266 => 79 | 314 => 85 | n => n, fun | 9 => 9 | 4 => 4 | 59 => 78 | 3 => 3 | 5 => 5 | 46 => 58 | 146 => 124 | 51 => 121 | n => n, fun | 1 => 0 | n => n⟩
theorem Tryd.lays145 : Go.Proofs.Lays.n145 Tryd.prog Tryd.lays145_ren := {
  mixed := by kernel_rfl
  f145 := Tryd.func39.trans (congrArg some (by kernel_rfl))
  f217 := Tryd.func66.trans (congrArg some (by kernel_rfl))
  f219 := Tryd.func63.trans (congrArg some (by kernel_rfl))
  f220 := Tryd.func54.trans (congrArg some (by kernel_rfl))
  f224 := Tryd.func72.trans (congrArg some (by kernel_rfl))
  f225 := Tryd.func71.trans (congrArg some (by kernel_rfl))
  f266 := Tryd.func79.trans (congrArg some (by kernel_rfl))
  f267 := Tryd.func73.trans (congrArg some (by kernel_rfl))
  f314 := Tryd.func85.trans (congrArg some (by kernel_rfl))
  t3 := Tryd.underlying3
  a3 := Tryd.isAgg3
  z3 := Tryd.sizeOf3
  v3 := Tryd.zeroValue3
  t4 := Tryd.underlying4
  a4 := Tryd.isAgg4
  z4 := Tryd.sizeOf4
  v4 := Tryd.zeroValue4
  t5 := Tryd.underlying5
  a5 := Tryd.isAgg5
  z5 := Tryd.sizeOf5
  v5 := Tryd.zeroValue5
  t9 := Tryd.underlying9
  a9 := Tryd.isAgg9
  z9 := Tryd.sizeOf9
  v9 := Tryd.zeroValue9
  t46 := Tryd.underlying58
  a46 := Tryd.isAgg58
  z46 := Tryd.sizeOf58
  v46 := Tryd.zeroValue58
  t51 := Tryd.underlying121
  a51 := Tryd.isAgg121
  z51 := Tryd.sizeOf121
  v51 := Tryd.zeroValue121
  t59 := Tryd.underlying78
  a59 := Tryd.isAgg78
  z59 := Tryd.sizeOf78
  v59 := Tryd.zeroValue78
  t146 := Tryd.underlying124
  a146 := Tryd.isAgg124
  z146 := Tryd.sizeOf124
  v146 := Tryd.zeroValue124
  g1 := by kernel_rfl }
open Go.RowKit Go.Lib in
theorem Tryd.strings_Cut (s sep : ByteArray) (m : Int) (w : World) (hs : s.size < 4294967281) (hm : w.cell? ⟨0, 0, none⟩ = some (.int .i64 m)) :
    Calls Tryd.prog 39 #[.string s, .string sep] w fun e w' => e = .returned (.tuple #[.string ⟨(Lib.cut s.data.toList sep.data.toList).1.toArray⟩, .string ⟨(Lib.cut s.data.toList sep.data.toList).2.1.toArray⟩, .bool (Lib.cut s.data.toList sep.data.toList).2.2]) ∧ ∃ n, w' = w.drewN n := Any.strings_Cut Tryd.lays145 s sep m w hs hm
def Tryd.lays229_ren : Go.Shelf.Ren := ⟨fun | 229 => 55 | n => n, fun | 9 => 9 | 40 => 94 | 31 => 42 | 152 => 103 | 3 => 3 | 0 => 0 | 4 => 4 | 21 => 21 | 154 => 105 | n => n, fun | n => n⟩
theorem Tryd.lays229 : Go.Proofs.Lays.n229 Tryd.prog Tryd.lays229_ren := {
  mixed := by kernel_rfl
  f229 := Tryd.func55.trans (congrArg some (by kernel_rfl))
  t0 := Tryd.underlying0
  a0 := Tryd.isAgg0
  z0 := Tryd.sizeOf0
  v0 := Tryd.zeroValue0
  t3 := Tryd.underlying3
  a3 := Tryd.isAgg3
  z3 := Tryd.sizeOf3
  v3 := Tryd.zeroValue3
  t4 := Tryd.underlying4
  a4 := Tryd.isAgg4
  z4 := Tryd.sizeOf4
  v4 := Tryd.zeroValue4
  t9 := Tryd.underlying9
  a9 := Tryd.isAgg9
  z9 := Tryd.sizeOf9
  v9 := Tryd.zeroValue9
  t21 := Tryd.underlying21
  a21 := Tryd.isAgg21
  z21 := Tryd.sizeOf21
  v21 := Tryd.zeroValue21
  t31 := Tryd.underlying42
  a31 := Tryd.isAgg42
  z31 := Tryd.sizeOf42
  v31 := Tryd.zeroValue42
  t40 := Tryd.underlying94
  a40 := Tryd.isAgg94
  z40 := Tryd.sizeOf94
  v40 := Tryd.zeroValue94
  t152 := Tryd.underlying103
  a152 := Tryd.isAgg103
  z152 := Tryd.sizeOf103
  v152 := Tryd.zeroValue103
  t154 := Tryd.underlying105
  a154 := Tryd.isAgg105
  z154 := Tryd.sizeOf105
  v154 := Tryd.zeroValue105 }
open Go.RowKit Go.Lib in
theorem Tryd.strings_FieldsFunc_runes (g : Nat) (lb : Array Value) (eg : ∀ args w, (callFunc g args).run Tryd.prog w = .ok (.enter g args) w) (p : Nat → Bool) (s : ByteArray) (w : World) (hs : s.size ≤ 4294967296) (hp : PredAtRunes Tryd.prog g lb p w) :
    Calls Tryd.prog 55 #[.string s, .func (.func g) #[] lb] w fun e w' => ∃ A, e = .returned (.slice (some ⟨A, 0, none⟩) (Lib.goFieldsP p s).length (Lib.goFieldsP p s).length) ∧ w.heap.size ≤ A ∧
      w'.ownsRow w.heap.size 9 1 (.slice (some ⟨A, 0, none⟩) (Lib.goFieldsP p s).length (Lib.goFieldsP p s).length) (Lib.goFieldsP p s).length ((Lib.goFieldsP p s).map Value.string) ∧ Below w.heap.size w w' := Any.strings_FieldsFunc_runes Tryd.lays229 g lb eg p s w hs hp (by kernel_rfl) (by kernel_rfl)
end Go.Proofs
/- Rng -/
namespace Go.Vc
open Go
noncomputable section
variable {nn : Nat} {dfs : List Deferred}

abbrev FW (ro : Option Nat) : Fence := { Fence.wide with round := ro }
/-- the call of yield: a round, which yields whether there is to be a next one -/
def Yld (P : Program) (l : Nat) (args : List Value) (w : World) (K : Bool → World → Prop) : Prop :=
  ∃ fn tmps assign body, (Instr.yield l ⟨args⟩).run P w = .ok (.round l fn tmps assign body) w ∧
    RoundIn Fence.wide 0 P l fn tmps assign body w fun e w' => ∃ b, e = .returned (.bool b) ∧ K b w'
/-- the call of a function value that may be yield -/
def ClY (P : Program) (v : Value) (ks : List Ki) (args : List Value) (w : World) (K : FnK ks (World → Prop)) : Prop :=
  match v with
  | .func (.func i) first captured => ClX P (.func (.func i) first captured) ks args w K
  | .func (.yield l) first _ => Yld P l (first.toList ++ args) w fun b w' => decRes ks (.bool b) K w'
  | _ => False
def opVY (P : Program) (f : AF) (o : Oper) (w : World) (K : Option Value → World → Prop) : Prop :=
  match o.op with
  | .call c => match c.callee with
    | .value x => match ev f x, evl f c.args.toList, ksOfTy P o.type with
      | some v, some vs, some ks => ClY P v ks vs w (CExt ks [] fun us w' => K (some (resVal us)) w')
      | _, _, _ => False
    | _ => opVC P f o w K
  | _ => opVC P f o w K

theorem Yld_mono {P : Program} {l : Nat} {args : List Value} {w : World} {K K' : Bool → World → Prop} (h1 : ∀ b w, K b w → K' b w) (h : Yld P l args w K) : Yld P l args w K' := by
  obtain ⟨fn, tmps, assign, body, h2, h3⟩ := h
  exact ⟨fn, tmps, assign, body, h2, h3.mono fun e w' ⟨b, e1, e2⟩ => ⟨b, e1, h1 _ _ e2⟩⟩
theorem ClY_mono {P : Program} {v : Value} {ks : List Ki} {args : List Value} {w : World} {g g' : List Value → World → Prop} (h1 : ∀ vs w, g vs w → g' vs w) (h : ClY P v ks args w (CExt ks [] g)) : ClY P v ks args w (CExt ks [] g') := by
  unfold ClY at h ⊢
  split at h
  · exact ClX_mono (v := .func (.func _) _ _) h1 h
  · exact Yld_mono (fun b w h => decRes_mono (fun vs h => h1 vs w h) h) h
  · exact h.elim
theorem opVY_mono {P : Program} {f : AF} {o : Oper} {w : World} {K K' : Option Value → World → Prop} (h1 : ∀ v w, K v w → K' v w) (h : opVY P f o w K) : opVY P f o w K' := by
  unfold opVY at h ⊢
  split at h
  · split at h
    · split at h
      · exact ClY_mono (fun vs w h => h1 _ _ h) h
      · exact h.elim
    · exact opVC_mono h1 h
  · exact opVC_mono h1 h
/-- an operation that is no defer statement, in whatever frame -/
theorem wpIn_of_wp {P : Program} {ro : Option Nat} {n : Nat} {o : Oper} {a : Act} {w : World} {next : Act → World → Prop} {Q : Exit → Act → World → Prop} (hd : ∀ c, o.op ≠ .defer c) (h : o.wp P a w next Q) : o.wpIn (FW ro) n P a w next Q := by
  refine ⟨fun _ _ => trivial, ?_⟩
  have e : o.semAt (FW ro).round a.eval = execOp a.eval o := by
    cases ro with
    | none => rfl
    | some l => exact Oper.semAt_some l _ _ hd
  rw [e]
  unfold Oper.wp at h
  generalize (execOp a.eval o).run P w = r at h
  cases r with
  | ok x w' =>
    cases x <;> simp only [Oper.upon] at h <;> first | exact h.elim | exact h | skip
    · exact ⟨fun hh => (by cases hh), (callsIn_wide (n := n - 1)).2 (h.mono fun e w'' he => by cases e <;> exact he)⟩
    · refine ⟨fun hh => (by cases hh), fun c cs _ => ?_⟩
      obtain ⟨v, w', hr, hs⟩ := h c cs
      exact ⟨v, w', hr, stepsIn_wide.2 hs⟩
  | halt x w' => cases x <;> simp only [Oper.upon] at h <;> first | exact h.elim | exact h
theorem opY_sound {P : Program} {ro : Option Nat} {n : Nat} {w : World} {a : Act} {f : AF} (hr : Rel nn dfs a f) {o : Oper} {K : Option Value → World → Prop} (h : opVY P f o w K)
    {next : Act → World → Prop} {Q : Exit → Act → World → Prop} (hn : ∀ v ov w', K ov w' → (∀ v', ov = some v' → v = v') → next (a.put o.dst v) w') : o.wpIn (FW ro) n P a w next Q := by
  obtain ⟨dst, op, ty, pos, after, guard⟩ := o
  unfold opVY at h
  simp only at h hn
  have plain : opVC P f ⟨dst, op, ty, pos, after, guard⟩ w K → (∀ c, op ≠ .defer c) → Oper.wpIn (FW ro) n P ⟨dst, op, ty, pos, after, guard⟩ a w next Q := fun h hd => wpIn_of_wp hd (op_sound hr h hn)
  split at h
  · rename_i c
    split at h
    · rename_i x hx0
      split at h
      · rename_i v vs ks hx hvs hks
        obtain ⟨callee, args, tys⟩ := c
        simp only at hx0 hvs
        subst hx0
        have cv : ClX P v ks vs w (CExt ks [] fun us w' => K (some (resVal us)) w') → Oper.wpIn (FW ro) n P ⟨dst, .call ⟨.value x, args, tys⟩, ty, pos, after, guard⟩ a w next Q := fun h => by
          refine plain ?_ (fun c => by simp)
          unfold opVC
          simp only [stillB, effVC, hx, hvs, hks]
          exact h
        unfold ClY at h
        split at h
        · exact cv h
        · rename_i l first captured
          obtain ⟨fn, tmps, assign, body, h1, h2⟩ := h
          refine ⟨fun _ _ => trivial, ?_⟩
          have e : Oper.semAt (FW ro).round a.eval ⟨dst, .call ⟨.value x, args, tys⟩, ty, pos, after, guard⟩ = execOp a.eval ⟨dst, .call ⟨.value x, args, tys⟩, ty, pos, after, guard⟩ := by
            cases ro with
            | none => rfl
            | some l => exact Oper.semAt_some l _ _ (fun c => by simp)
          have he : (execOp a.eval ⟨dst, .call ⟨.value x, args, tys⟩, ty, pos, after, guard⟩).run P w = .ok (.round l fn tmps assign body) w := by
            simp only [execOp, resolve, Sem.run_bind, hr.ev hx, Deferred.ofValue, Sem.run_pure, Result.andThen_ok, invoke, evl_arr hr hvs]
            rw [← h1]
            congr 2
            cases first; simp
          rw [e, he]
          refine ⟨fun hh => (by cases hh), ?_⟩
          refine RoundIn.mono (R := fun e w' => ∃ b, e = .returned (.bool b) ∧ decRes ks (.bool b) (CExt ks [] fun us w' => K (some (resVal us)) w') w') ⟨h2.1, fun c cs _ => h2.2 c cs (room_wide _)⟩ ?_
          rintro e w' ⟨b, rfl, hb⟩
          obtain ⟨us, e1, e2⟩ := decRes_sound hb
          have := hn (.bool b) (some (resVal us)) w' e2 (fun v' e => by rw [e1]; simpa using e)
          exact this
        · exact h.elim
      · exact h.elim
    · refine plain h (fun c => by simp)
  · rename_i op' hop
    refine plain h (fun c hc => ?_)
    subst hc
    unfold opVC at h
    simp only [stillB, effVC] at h

/-! lists of operations, all orders -/
def vcOpsY (P : Program) (ops : Array Oper) : List Oper → AF → World → (AF → World → Prop) → Prop
  | [], f, w, K => K f w
  | o :: rest, f, w, K => guarded ops o f (fun f => opVY P f o w fun v w' => vcOpsY P ops rest (putD f o.dst v) w' K) (fun f => vcOpsY P ops rest (putD f o.dst (some undef)) w K)
theorem opsY_sound {P : Program} {ro : Option Nat} {n : Nat} {ops : Array Oper} {Q : Exit → Act → World → Prop} {K : AF → World → Prop} (hQ : ∀ a f w, Rel nn dfs a f → K f w → Q .normal a w) :
    ∀ (l : List Oper) (f : AF) (w : World) (a : Act), Rel nn dfs a f → vcOpsY P ops l f w K → wpListIn (FW ro) n P ops Q l a w
  | [], f, w, a, hr, h => hQ a f w hr h
  | o :: rest, f, w, a, hr, h => by
    obtain ⟨f', hr', h1 | h1⟩ := guarded_sound hr h
    · simp only [wpListIn, h1.1, if_true]
      exact opY_sound hr' h1.2 fun v ov w' hK hv => opsY_sound hQ rest _ w' _ (hr'.put o.dst hv) hK
    · simp only [wpListIn, h1.1]
      exact ⟨fun _ _ => trivial, opsY_sound hQ rest _ w _ (hr'.put o.dst (fun v' e => by simpa using e)) h1.2⟩
theorem vcOpsY_frame {P : Program} {ops : Array Oper} {K K' : AF → World → Prop} {f0 : AF} (hk : ∀ f w, Same (dsts ops.toList) f0 f → K f w → K' f w) : ∀ (l : List Oper) (f : AF) (w : World), (∀ o ∈ l, o ∈ ops.toList) → Same (dsts ops.toList) f0 f → vcOpsY P ops l f w K → vcOpsY P ops l f w K'
  | [], f, w, _, hs, h => hk f w hs h
  | o :: rest, f, w, hl, hs, h => by
    have ho := hl o (by simp)
    have hr : ∀ o ∈ rest, o ∈ ops.toList := fun o' h' => hl o' (by simp [h'])
    refine guarded_frame (fun g hg h => opVY_mono (fun v w h => vcOpsY_frame hk rest _ w hr ((hs.trans hg).trans (Same.putD v fun d hd => mem_dsts ho hd)) h) h)
      (fun g hg h => vcOpsY_frame hk rest _ w hr ((hs.trans hg).trans (Same.putD _ fun d hd => mem_dsts ho hd)) h) h
def vcAll (P : Program) (ops : Array Oper) (K : AF → World → Prop) : Nat → Array Bool → AF → World → Prop
  | 0, listed, f, w => onB (Region.ready .any ops listed).isEmpty (K f w)
  | n + 1, listed, f, w => match Region.ready .any ops listed with
    | [] => K f w
    | r :: rs => AllR (r :: rs) fun i => match ops[i]? with
      | some o => guarded ops o f (fun f => opVY P f o w fun v w' => vcAll P ops K n (listed.setIfInBounds i true) (putD f o.dst v) w') (fun f => vcAll P ops K n (listed.setIfInBounds i true) (putD f o.dst (some undef)) w)
      | none => False
theorem all_sound {P : Program} {ro : Option Nat} {m : Nat} {ops : Array Oper} {Q : Exit → Act → World → Prop} {K : AF → World → Prop} (hQ : ∀ a f w, Rel nn dfs a f → K f w → Q .normal a w) :
    ∀ (n : Nat) (listed : Array Bool) (f : AF) (w : World) (a : Act), Rel nn dfs a f → vcAll P ops K n listed f w → wpAnyIn (FW ro) m P .any ops Q n listed a w
  | 0, listed, f, w, a, hr, h => by
    obtain ⟨h1, h2⟩ := onB_sound h
    exact ⟨by simpa using h1, hQ _ _ _ hr h2⟩
  | n + 1, listed, f, w, a, hr, h => by
    unfold vcAll at h
    split at h
    · rename_i he
      exact ⟨fun _ => hQ _ _ _ hr h, by rw [he]; simp⟩
    · rename_i r rs he
      refine ⟨fun h0 => absurd h0 (by rw [he]; simp), fun i hi => ?_⟩
      rw [he] at hi
      have h0 := allR_mem h i hi
      unfold wpOpIn
      split at h0
      · rename_i o ho
        simp only [ho]
        obtain ⟨f', hr', h1 | h1⟩ := guarded_sound hr h0
        · rw [if_pos h1.1]
          exact opY_sound hr' h1.2 fun v ov w' hK hv => all_sound hQ n _ _ w' _ (hr'.put o.dst hv) hK
        · rw [if_neg (by rw [h1.1]; simp)]
          exact ⟨fun _ _ => trivial, all_sound hQ n _ _ w _ (hr'.put o.dst (fun v' e => by simpa using e)) h1.2⟩
      · exact h0.elim
theorem vcAll_frame {P : Program} {ops : Array Oper} {K K' : AF → World → Prop} {f0 : AF} (hk : ∀ f w, Same (dsts ops.toList) f0 f → K f w → K' f w) : ∀ (n : Nat) (listed : Array Bool) (f : AF) (w : World), Same (dsts ops.toList) f0 f → vcAll P ops K n listed f w → vcAll P ops K' n listed f w
  | 0, listed, f, w, hs, h => by
    obtain ⟨h1, h2⟩ := onB_sound h
    unfold vcAll
    rw [h1]; exact hk _ _ hs h2
  | n + 1, listed, f, w, hs, h => by
    unfold vcAll at h ⊢
    split at h
    · exact hk _ _ hs h
    · refine allR_mono (fun i h => ?_) h
      split at h
      · rename_i o ho
        have hom : o ∈ ops.toList := by simpa using Array.mem_of_getElem? ho
        exact guarded_frame (fun g hg h => opVY_mono (fun v w h => vcAll_frame hk n _ _ w ((hs.trans hg).trans (Same.putD v fun d hd => mem_dsts hom hd)) h) h)
          (fun g hg h => vcAll_frame hk n _ _ w ((hs.trans hg).trans (Same.putD _ fun d hd => mem_dsts hom hd)) h) h
      · exact h.elim

/-! the statement -/
def AllB {β : Type} : (ks : List Ki) → FnK ks β → (List Value → β → Prop) → Prop
  | [], b, G => G [] b
  | k :: ks, b, G => ∀ x : k.T, AllB ks (b x) fun vs b => G (k.enc x :: vs) b
def lamB {β : Type} : (ks : List Ki) → (List Value → β) → FnK ks β
  | [], g => g []
  | k :: ks, g => fun x => lamB ks fun vs => g (k.enc x :: vs)
/-- a round begins: the record, which must be ready, is busy -/
def Beg (l : Nat) (rec : Nat → Obj) (w : World) (K : World → Prop) : Prop := w.heap[l]? = some (rec 0) ∧ K (w.putObj l (rec 1))
/-- a round ends off its body's end: the record is ready -/
def EndT (l : Nat) (rec : Nat → Obj) (w : World) (K : World → Prop) : Prop := w.heap[l]? = some (rec 1) ∧ K (w.putObj l (rec 0))
/-- a round ends by a return -/
def EndF (l : Nat) (rec : Nat → Obj) (w : World) (K : World → Prop) : Prop := w.heap[l]? = some (rec 1) ∧ K (w.putObj l (rec 2))
/-- a range over the function v: B is what a round comes to; K what follows where all rounds went to their ends, Kr where one returned -/
def Rng (P : Program) (v : Value) (ks : List Ki) (w : World) (B : Nat → (Nat → Obj) → FnK ks (World → (World → Prop) → (World → Prop) → Prop)) (K Kr : Nat → World → Prop) : Prop :=
  ∀ (rec : Nat → Obj) (yv : Value),
    (∀ (R : Bool → World → Prop) (w2 : World), AllB ks (B (w.heap.size + 1) rec) fun vs b => w2.heap[w.heap.size + 1]? = some (rec 0) → b w2 (R true) (R false) → ClY P yv [kB] vs w2 R) →
    ClV P v [] [yv] ((w.alloc (.deferred (some []))).alloc (rec 0)) fun w3 =>
      (w3.heap[w.heap.size + 1]? = some (rec 0) ∧ K w.heap.size (w3.putObj (w.heap.size + 1) (rec 3))) ∨ (w3.heap[w.heap.size + 1]? = some (rec 2) ∧ Kr w.heap.size (w3.putObj (w.heap.size + 1) (rec 4)))
theorem Rng_mono {P : Program} {v : Value} {ks : List Ki} {w : World} {B : Nat → (Nat → Obj) → FnK ks (World → (World → Prop) → (World → Prop) → Prop)} {K K' Kr Kr' : Nat → World → Prop} (h1 : ∀ D w, K D w → K' D w) (h2 : ∀ D w, Kr D w → Kr' D w)
    (h : Rng P v ks w B K Kr) : Rng P v ks w B K' Kr' := fun rec yv hy =>
  ClV_mono (ks := []) (g := fun _ w3 => (w3.heap[w.heap.size + 1]? = some (rec 0) ∧ K w.heap.size (w3.putObj (w.heap.size + 1) (rec 3))) ∨ (w3.heap[w.heap.size + 1]? = some (rec 2) ∧ Kr w.heap.size (w3.putObj (w.heap.size + 1) (rec 4))))
    (g' := fun _ w3 => (w3.heap[w.heap.size + 1]? = some (rec 0) ∧ K' w.heap.size (w3.putObj (w.heap.size + 1) (rec 3))) ∨ (w3.heap[w.heap.size + 1]? = some (rec 2) ∧ Kr' w.heap.size (w3.putObj (w.heap.size + 1) (rec 4))))
    (fun _ _ h => h.elim (fun h => .inl ⟨h.1, h1 _ _ h.2⟩) (fun h => .inr ⟨h.1, h2 _ _ h.2⟩)) (h rec yv hy)
def setPs : AF → List Nat → List Value → Option AF
  | f, [], [] => some f
  | f, p :: ps, v :: vs => setPs (upd f p (some v)) ps vs
  | _, _, _ => none
/-- plans for this part -/
inductive PlanR where
  | o | s (p q : PlanR) | c (p q : PlanR) | b (p : PlanR) | l (live : List (Nat × Ki)) (p : PlanR) | r (ks : List Ki) (p q : PlanR)
def hasRng : Code → Bool
  | .seq a b => hasRng a || hasRng b
  | .cond _ a b => hasRng a || hasRng b
  | .block _ a => hasRng a
  | .loop a => hasRng a
  | .scope a => hasRng a
  | .rangeFunc _ _ _ _ => true
  | _ => false
def thenM (next : AF → List Nat → World → Prop) (Q : Exit → AF → List Nat → World → Prop) : Exit → AF → List Nat → World → Prop
  | .normal, f, ms, w => next f ms w
  | e, f, ms, w => Q e f ms w
def blockM (id : Nat) (Q : Exit → AF → List Nat → World → Prop) : Exit → AF → List Nat → World → Prop
  | .exit i, f, ms, w => match i == id with | true => Q .normal f ms w | false => Q (.exit i) f ms w
  | e, f, ms, w => Q e f ms w
def roundQ (l : Nat) (rec : Nat → Obj) (Kt Kf : World → Prop) : Exit → AF → List Nat → World → Prop
  | .normal, _, _, w => EndT l rec w Kt
  | .ret, _, _, w => EndF l rec w Kf
  | _, _, _, _ => False
def vcR (P : Program) (n : Nat) (rd : Bool) : Code → PlanR → (Exit → AF → List Nat → World → Prop) → AF → List Nat → World → Prop
  | .skip, _, Q, f, ms, w => Q .normal f ms w
  | .region _ ops d, _, Q, f, ms, w => match d, rd with
    | false, _ => vcOpsY P ops ops.toList f w fun f w => Q .normal f ms w
    | true, false => vcReg P ops true f w fun f w => Q .normal f ms w
    | true, true => Drw w fun w' => vcAll P ops (fun f w => Q .normal f ms w) ops.size (Array.replicate ops.size false) f w'
  | .seq x y, .s p q, Q, f, ms, w => vcR P n rd x p (thenM (fun f ms w => vcR P n rd y q Q f ms w) Q) f ms w
  | .cond c x y, .c p q, Q, f, ms, w => match ev f c with
    | some (.bool b) => IfB b (vcR P n rd x p Q f ms w) (vcR P n rd y q Q f ms w)
    | _ => False
  | .block id c, .b p, Q, f, ms, w => vcR P n rd c p (blockM id Q) f ms w
  | .loop c, .l live p, Q, f, ms, w => onB (lives live (writes c)) (match hasRng c with
    | false => ∃ (I : FnL live (World → Prop)) (m : FnL live (World → Nat)), leaf live I f w ∧
        allL live I m (forget (writes c) f) fun I0 m0 f => ∀ w, I0 w → vcR P n rd c p (thenM (fun f ms2 w' => ms2 = ms ∧ leafM live I m (m0 w) f w') Q) f ms w
    | true => ∃ (I : List Nat → FnL live (World → Prop)) (m : FnL live (World → Nat)), leaf live (I ms) f w ∧
        ∀ ms, allL live (I ms) m (forget (writes c) f) fun I0 m0 f => ∀ w, I0 w → vcR P n rd c p (thenM (fun f ms2 w' => leafM live (I ms2) m (m0 w) f w') Q) f ms w)
  | .rangeFunc g ps assign body, .r ks p q, Q, f, ms, w => match rd with
    | true => False
    | false => match ev f g with
      | some v => Rng P v ks w (fun l rec => lamB ks fun vs w2 Kt Kf => match setPs f ps.toList vs with
          | some f' => vcR P n true assign p (thenM (fun f ms w => Beg l rec w fun w => vcR P n true body q (roundQ l rec Kt Kf) f ms w) (fun _ _ _ _ => False)) f' [] w2
          | none => False) (fun D w' => Q .normal f (D :: ms) w') (fun D w' => Q .ret f (D :: ms) w')
      | none => False
  | .exit id, _, Q, f, ms, w => Q (.exit id) f ms w
  | .ret, _, Q, f, ms, w => Q .ret f ms w
  | .label _, _, Q, f, ms, w => Q .normal f ms w
  | _, _, _, _, _, _ => False
/-! what is shown may be weakened -/
theorem allL_imp {body body' : (World → Prop) → (World → Nat) → AF → Prop} : ∀ {l : List (Nat × Ki)} {I : FnL l (World → Prop)} {m : FnL l (World → Nat)} {g : AF}, (∀ I m g, body I m g → body' I m g) → allL l I m g body → allL l I m g body'
  | [], _, _, _, hb, h => hb _ _ _ h
  | (_, _) :: _, _, _, _, hb, h => fun x => allL_imp hb (h x)
theorem vcR_mono {P : Program} {n : Nat} {rd : Bool} : ∀ (c : Code) (p : PlanR) {Q Q' : Exit → AF → List Nat → World → Prop} {f0 : AF} (_ : ∀ e f ms w, Same (writes c) f0 f → Q e f ms w → Q' e f ms w) (ms : List Nat) (w : World), vcR P n rd c p Q f0 ms w → vcR P n rd c p Q' f0 ms w
  | .skip, _, _, _, _, hq, ms, w, h => hq _ _ _ _ (Same.refl _ _) h
  | .region _ ops d, _, _, _, _, hq, ms, w, h => by
    unfold vcR at h ⊢
    cases d
    · exact vcOpsY_frame (fun f w hs h => hq _ f ms w hs h) _ _ _ (fun _ h => h) (Same.refl _ _) h
    · cases rd
      · exact vcReg_frame (fun f w hs h => hq _ f ms w hs h) h
      · exact vcAll_frame (fun f w hs h => hq _ f ms w hs h) _ _ _ _ (Same.refl _ _) h
  | .seq x y, .s p q, Q, Q', f0, hq, ms, w, h => by
    refine vcR_mono x p (fun e f ms w hs h => ?_) ms w h
    have hs' : Same (writes (.seq x y)) f0 f := hs.mono fun s h => List.mem_append.2 (.inl h)
    cases e with
    | normal => exact vcR_mono y q (fun e f' ms w hs2 h => hq e f' ms w (hs'.trans (hs2.mono fun s h => List.mem_append.2 (.inr h))) h) ms w h
    | _ => exact hq _ f ms w hs' h
  | .cond c x y, .c p q, Q, Q', f0, hq, ms, w, h => by
    unfold vcR at h ⊢
    split at h
    · exact IfB_mono (vcR_mono x p (fun e f ms w hs h => hq e f ms w (hs.mono fun s h => List.mem_append.2 (.inl h)) h) ms w) (vcR_mono y q (fun e f ms w hs h => hq e f ms w (hs.mono fun s h => List.mem_append.2 (.inr h)) h) ms w) h
    · exact h.elim
  | .block id c, .b p, Q, Q', f0, hq, ms, w, h => by
    refine vcR_mono c p (fun e f ms w hs h => ?_) ms w h
    cases e with
    | exit i =>
      simp only [blockM] at h ⊢
      split at h
      · exact hq _ f ms w hs h
      · exact hq _ f ms w hs h
    | _ => exact hq _ f ms w hs h
  | .loop c, .l live p, Q, Q', f0, hq, ms, w, h => by
    unfold vcR at h ⊢
    obtain ⟨hl, h⟩ := onB_sound h
    rw [hl]
    show (match hasRng c with | false => _ | true => _ : Prop)
    cases hc : hasRng c with
    | false =>
      rw [hc] at h
      obtain ⟨I, m, h0, h1⟩ := h
      refine ⟨I, m, h0, allL_imp (fun I0 m0 g hb w hI => ?_) (allL_same (fun s k hk => Same.lams hl hk) (fun s hs => get_forget hs) h1)⟩
      refine vcR_mono c p (fun e f' ms' w hs2 h => ?_) ms w (hb.2 w hI)
      cases e with
      | normal => exact h
      | _ => exact hq _ f' ms' w (hb.1.trans hs2) h
    | true =>
      rw [hc] at h
      obtain ⟨I, m, h0, h1⟩ := h
      refine ⟨I, m, h0, fun ms => allL_imp (fun I0 m0 g hb w hI => ?_) (allL_same (fun s k hk => Same.lams hl hk) (fun s hs => get_forget hs) (h1 ms))⟩
      refine vcR_mono c p (fun e f' ms' w hs2 h => ?_) ms w (hb.2 w hI)
      cases e with
      | normal => exact h
      | _ => exact hq _ f' ms' w (hb.1.trans hs2) h
  | .rangeFunc g ps assign body, .r ks p q, Q, Q', f0, hq, ms, w, h => by
    unfold vcR at h ⊢
    cases rd
    · simp only at h ⊢
      split at h
      · exact Rng_mono (fun D w h => hq _ _ _ _ (Same.refl _ _) h) (fun D w h => hq _ _ _ _ (Same.refl _ _) h) h
      · exact h.elim
    · exact h.elim
  | .exit id, _, _, _, _, hq, ms, w, h => hq _ _ _ _ (Same.refl _ _) h
  | .ret, _, _, _, _, hq, ms, w, h => hq _ _ _ _ (Same.refl _ _) h
  | .label _, _, _, _, _, hq, ms, w, h => hq _ _ _ _ (Same.refl _ _) h
  | .seq _ _, .o, _, _, _, _, _, _, h => h.elim
  | .seq _ _, .c _ _, _, _, _, _, _, _, h => h.elim
  | .seq _ _, .b _, _, _, _, _, _, _, h => h.elim
  | .seq _ _, .l _ _, _, _, _, _, _, _, h => h.elim
  | .seq _ _, .r _ _ _, _, _, _, _, _, _, h => h.elim
  | .cond _ _ _, .o, _, _, _, _, _, _, h => h.elim
  | .cond _ _ _, .s _ _, _, _, _, _, _, _, h => h.elim
  | .cond _ _ _, .b _, _, _, _, _, _, _, h => h.elim
  | .cond _ _ _, .l _ _, _, _, _, _, _, _, h => h.elim
  | .cond _ _ _, .r _ _ _, _, _, _, _, _, _, h => h.elim
  | .block _ _, .o, _, _, _, _, _, _, h => h.elim
  | .block _ _, .s _ _, _, _, _, _, _, _, h => h.elim
  | .block _ _, .c _ _, _, _, _, _, _, _, h => h.elim
  | .block _ _, .l _ _, _, _, _, _, _, _, h => h.elim
  | .block _ _, .r _ _ _, _, _, _, _, _, _, h => h.elim
  | .loop _, .o, _, _, _, _, _, _, h => h.elim
  | .loop _, .s _ _, _, _, _, _, _, _, h => h.elim
  | .loop _, .c _ _, _, _, _, _, _, _, h => h.elim
  | .loop _, .b _, _, _, _, _, _, _, h => h.elim
  | .loop _, .r _ _ _, _, _, _, _, _, _, h => h.elim
  | .rangeFunc _ _ _ _, .o, _, _, _, _, _, _, h => h.elim
  | .rangeFunc _ _ _ _, .s _ _, _, _, _, _, _, _, h => h.elim
  | .rangeFunc _ _ _ _, .c _ _, _, _, _, _, _, _, h => h.elim
  | .rangeFunc _ _ _ _, .b _, _, _, _, _, _, _, h => h.elim
  | .rangeFunc _ _ _ _, .l _ _, _, _, _, _, _, _, h => h.elim
  | .scope _, _, _, _, _, _, _, _, h => h.elim
  | .goto _, _, _, _, _, _, _, _, h => h.elim
  | .refuse _, _, _, _, _, _, _, _, h => h.elim

/-! soundness -/
theorem decRes_nil {v : Value} {w : World} {K : World → Prop} (h : decRes [] v K w) : K w := by
  cases v with
  | tuple us =>
    obtain ⟨us⟩ := us
    cases us with
    | nil => exact h
    | cons => exact h.elim
  | _ => exact h.elim
def mark (r : Nat) : Deferred := { target := .collected r, args := #[] }
def onM {nn : Nat} (Q : Exit → AF → List Nat → World → Prop) (e : Exit) (a : Act) (w : World) : Prop := ∃ f ms, Rel nn (ms.map mark) a f ∧ Q e f ms w
theorem allB_intro {β : Type} : ∀ {ks : List Ki} {g : List Value → β} {G : List Value → β → Prop}, (∀ vs, G vs (g vs)) → AllB ks (lamB ks g) G
  | [], _, _, h => h []
  | _ :: _, _, _, h => fun _ => allB_intro fun _ => h _
theorem setPs_rel : ∀ {ps : List Nat} {vs : List Value} {f f' : AF} {tmps : Array Value} {d : List Deferred}, Rel nn dfs { tmps := tmps, defers := d } f → setPs f ps vs = some f' →
    ps.length = vs.length ∧ Rel nn dfs { tmps := (ps.zip vs).foldl (fun tmps (t, a) => tmps.setIfInBounds t a) tmps, defers := d } f'
  | [], [], f, f', tmps, d, hr, h => by
    simp only [setPs, Option.some.injEq] at h
    subst h
    exact ⟨rfl, hr⟩
  | p :: ps, v :: vs, f, f', tmps, d, hr, h => by
    obtain ⟨h1, h2⟩ := setPs_rel (hr.upd p (some v) v (fun v' e => by simpa using e)) h
    exact ⟨by simp [h1], h2⟩
  | [], _ :: _, _, _, _, _, _, h => by cases h
  | _ :: _, [], _, _, _, _, _, h => by cases h
theorem vcR_sound {P : Program} (hm : P.follows .mixedOrders = true) : ∀ (c : Code) (p : PlanR) (rd : Bool) (ro : Option Nat) (_ : ro.isSome = rd) (k : Nat) (Q : Exit → AF → List Nat → World → Prop) (f : AF) (ms : List Nat) (w : World) (a : Act),
    Rel nn (ms.map mark) a f → vcR P nn rd c p Q f ms w → c.wpIn (FW ro) k P (onM (nn := nn) Q) a w
  | .skip, _, rd, ro, hro, k, Q, f, ms, w, a, hr, h => wpIn_skip ⟨f, ms, hr, h⟩
  | .region _ ops d, _, rd, ro, hro, k, Q, f, ms, w, a, hr, h => by
    unfold vcR at h
    cases d
    · exact wpIn_region_list (opsY_sound (K := fun f w => Q .normal f ms w) (fun a f w hr h => ⟨f, ms, hr, h⟩) _ _ _ _ hr h)
    · cases rd
      · cases ro with
        | some l => cases hro
        | none => exact wpIn_wide.2 (reg_sound hm (K := fun f w => Q .normal f ms w) (fun a f w hr h => ⟨f, ms, hr, h⟩) hr h)
      · exact wpIn_region_any hm (all_sound (K := fun f w => Q .normal f ms w) (fun a f w hr h => ⟨f, ms, hr, h⟩) _ _ _ _ _ hr h)
  | .seq x y, .s p q, rd, ro, hro, k, Q, f, ms, w, a, hr, h => by
    refine wpIn_seq (Go.wpIn_mono (vcR_sound hm x p rd ro hro k _ f ms w a hr h) fun e a w ⟨f', ms', hr', h'⟩ => ?_)
    cases e with
    | normal => exact vcR_sound hm y q rd ro hro k Q f' ms' w a hr' h'
    | _ => exact ⟨f', ms', hr', h'⟩
  | .cond c x y, .c p q, rd, ro, hro, k, Q, f, ms, w, a, hr, h => by
    unfold vcR at h
    split at h
    · rename_i b hb
      refine wpIn_cond (hr.ev hb) ?_
      cases b
      · exact vcR_sound hm y q rd ro hro k Q f ms w a hr h
      · exact vcR_sound hm x p rd ro hro k Q f ms w a hr h
    · exact h.elim
  | .block id c, .b p, rd, ro, hro, k, Q, f, ms, w, a, hr, h => by
    refine wpIn_block (Go.wpIn_mono (vcR_sound hm c p rd ro hro k _ f ms w a hr h) fun e a w ⟨f', ms', hr', h'⟩ => ?_)
    cases e with
    | exit i =>
      simp only [Exit.inBlock]
      simp only [blockM] at h'
      by_cases hi : i = id
      · subst hi; simp at h'; simp only [if_true]; exact ⟨f', ms', hr', h'⟩
      · have : (i == id) = false := by simpa using hi
        rw [this] at h'; rw [if_neg hi]; exact ⟨f', ms', hr', h'⟩
    | _ => exact ⟨f', ms', hr', h'⟩
  | .loop c, .l live p, rd, ro, hro, k, Q, f, ms, w, a, hr, h => by
    unfold vcR at h
    obtain ⟨hl, h⟩ := onB_sound h
    have hsh := hr.shape
    cases hc : hasRng c with
    | false =>
      rw [hc] at h
      obtain ⟨I, m, h0, hall⟩ := h
      refine Go.wpIn_loop (fun a w => ∃ f', Rel nn (ms.map mark) a f' ∧ leaf live I f' w ∧ Same (writes c) f f') (fun a w => measA a w live m) ⟨f, hr, h0, Same.refl _ _⟩ fun a w ⟨f1, hr, hI, hs⟩ => ?_
      obtain ⟨I0, m0, g, hg, h1, ⟨hgs, h2⟩, h3⟩ := leaf_all hr live I m _ (hr.keep hsh hs) hI (allL_same (fun s k hk => Same.lams hl hk) (fun s hs => get_forget hs) hall)
      have h4 := vcR_mono c p (Q' := fun e f' ms' w' => thenM (fun f ms2 w' => ms2 = ms ∧ leafM live I m (m0 w) f w') Q e f' ms' w' ∧ Same (writes c) g f') (fun e f' ms' w hs h => ⟨h, hs⟩) ms w (h2 w h1)
      refine Go.wpIn_mono (vcR_sound hm c p rd ro hro k _ g ms w a hg h4) fun e a' w' ⟨f', ms', hr', h', hs'⟩ => ?_
      cases e with
      | normal =>
        obtain ⟨e, h'⟩ := h'
        subst e
        refine ⟨⟨f', hr', leafM_leaf h', hgs.trans hs'⟩, ?_⟩
        have := leafM_meas hr' h'
        simp only [h3]
        exact this
      | _ => exact ⟨f', ms', hr', h'⟩
    | true =>
      rw [hc] at h
      obtain ⟨I, m, h0, hall⟩ := h
      refine Go.wpIn_loop (fun a w => ∃ f' ms', Rel nn (ms'.map mark) a f' ∧ leaf live (I ms') f' w ∧ Same (writes c) f f') (fun a w => measA a w live m) ⟨f, ms, hr, h0, Same.refl _ _⟩ fun a w ⟨f1, ms1, hr, hI, hs⟩ => ?_
      obtain ⟨I0, m0, g, hg, h1, ⟨hgs, h2⟩, h3⟩ := leaf_all hr live (I ms1) m _ (hr.keep hsh hs) hI (allL_same (fun s k hk => Same.lams hl hk) (fun s hs => get_forget hs) (hall ms1))
      have h4 := vcR_mono c p (Q' := fun e f' ms' w' => thenM (fun f ms2 w' => leafM live (I ms2) m (m0 w) f w') Q e f' ms' w' ∧ Same (writes c) g f') (fun e f' ms' w hs h => ⟨h, hs⟩) ms1 w (h2 w h1)
      refine Go.wpIn_mono (vcR_sound hm c p rd ro hro k _ g ms1 w a hg h4) fun e a' w' ⟨f', ms', hr', h', hs'⟩ => ?_
      cases e with
      | normal =>
        refine ⟨⟨f', ms', hr', leafM_leaf h', hgs.trans hs'⟩, ?_⟩
        have := leafM_meas hr' h'
        simp only [h3]
        exact this
      | _ => exact ⟨f', ms', hr', h'⟩
  | .rangeFunc g ps assign body, .r ks p q, rd, ro, hro, k, Q, f, ms, w, a, hr, h => by
    unfold vcR at h
    cases rd
    · cases ro with
      | some l => cases hro
      | none =>
        simp only at h
        split at h
        · rename_i v hv
          refine wpIn_rangeFunc fun fn _ => ?_
          have hcl := h (fun i => .loop (match i with
              | 0 => { state := .ready, pending := none, fn, tmps := a.tmps, params := ps, assign, body, defers := w.heap.size }
              | 1 => { state := .busy, pending := none, fn, tmps := a.tmps, params := ps, assign, body, defers := w.heap.size }
              | 2 => { state := .done, pending := some .ret, fn, tmps := a.tmps, params := ps, assign, body, defers := w.heap.size }
              | 3 => { state := .exhausted, pending := none, fn, tmps := a.tmps, params := ps, assign, body, defers := w.heap.size }
              | _ => { state := .exhausted, pending := some .ret, fn, tmps := a.tmps, params := ps, assign, body, defers := w.heap.size }))
            (.func (.yield (w.heap.size + 1)) #[] #[]) (fun R w2 => allB_intro fun vs hrec hB => ?_)
          · unfold ClV at hcl
            split at hcl
            · rename_i i first captured
              obtain ⟨hok, hc⟩ := onB_sound hcl
              have he := run_enterLoop_outer (P := P) (w := w) fn a.tmps ps assign body
              obtain ⟨w1, hw1⟩ : ∃ w1, w1 = (w.alloc (.deferred (some []))).alloc (.loop { state := .ready, pending := none, fn, tmps := a.tmps, params := ps, assign, body, defers := w.heap.size }) := ⟨_, rfl⟩
              rw [← hw1] at he
              refine ⟨w.heap.size + 1, [mark w.heap.size], w1, { target := .fn (.func i) captured, args := first ++ #[.func (.yield (w.heap.size + 1)) #[] #[]] }, w1, i, ⟨first.toList ++ [.func (.yield (w.heap.size + 1)) #[] #[]] ++ captured.toList⟩, w1,
                he, ?_, fun _ _ => trivial, ?_, fun hh => (by cases hh), ?_⟩
              · have hg := hr.ev hv
                simp only [resolve, hg, Deferred.ofValue, Sem.run_pure]
                simp [Act.eval]
              · have hcc := okCall_run (P := P) hok
                have e : (first ++ #[Value.func (.yield (w.heap.size + 1)) #[] #[]]) ++ captured = ⟨first.toList ++ [.func (.yield (w.heap.size + 1)) #[] #[]] ++ captured.toList⟩ := by
                  apply Array.ext'; simp
                simp only [invoke, e]
                exact hcc _ _
              · refine (callsIn_wide (n := k - 1)).2 ?_
                rw [hw1]
                refine Calls.mono hc fun e w3 hp => ?_
                have hrel : Rel nn ((w.heap.size :: ms).map mark) { a with defers := [mark w.heap.size] ++ a.defers } f := ⟨hr.size, hr.shape, by simp [hr.defs], hr.val⟩
                cases e with
                | returned v' =>
                  have hp := decRes_nil hp
                  rcases hp with ⟨h1, h2⟩ | ⟨h1, h2⟩
                  · exact ⟨none, _, run_endLoop h1 (by simp), ⟨f, _, hrel, h2⟩⟩
                  · exact ⟨some .ret, _, run_endLoop h1 (by simp), wpIn_ret ⟨f, _, hrel, h2⟩⟩
                | panicked => exact hp.elim
                | outgrown => exact hp.elim
            · exact hcl.elim
          · split at hB
            · rename_i f' hf'
              have hr0 : Rel nn [] { tmps := a.tmps, defers := [] } f := ⟨hr.size, hr.shape, rfl, hr.val⟩
              obtain ⟨hlen, hrel⟩ := setPs_rel hr0 hf'
              have hz : (ps.zip (⟨vs⟩ : Array Value)).foldl (fun tmps (t, a) => tmps.setIfInBounds t a) a.tmps = (ps.toList.zip vs).foldl (fun tmps (t, a) => tmps.setIfInBounds t a) a.tmps := by
                rw [← Array.foldl_toList]; simp
              refine ⟨fn, _, assign, body, run_yield hrec (by simpa using hlen.symm), ?_⟩
              refine RoundIn.mono (R := fun e w' => ∃ b, e = .returned (.bool b) ∧ R b w') ?_ fun e w' ⟨b, h1, h2⟩ => ⟨b, h1, h2⟩
              refine roundIn_of_wpIn trivial ?_
              simp only [List.nil_append, hz]
              refine Go.wpIn_mono (vcR_sound hm assign p true (some (w.heap.size + 1)) rfl 0 _ f' [] w2 _ hrel hB) fun e a1 w1 ⟨f1, ms1, hr1, h1⟩ => ?_
              cases e with
              | normal =>
                obtain ⟨h2, h3⟩ := h1
                refine ⟨_, run_beginRound h2 rfl, ?_⟩
                refine Go.wpIn_mono (vcR_sound hm body q true (some (w.heap.size + 1)) rfl 0 _ f1 ms1 _ _ hr1 h3) fun e a2 w4 ⟨f2, ms2, hr2, h4⟩ => ?_
                cases e with
                | normal =>
                  obtain ⟨h5, h6⟩ := h4
                  exact ⟨_, _, run_endRound none h5, true, rfl, h6⟩
                | ret =>
                  obtain ⟨h5, h6⟩ := h4
                  exact ⟨_, _, run_endRound (some .ret) h5, false, rfl, h6⟩
                | exit id => exact h4.elim
                | goto t => exact h4.elim
                | panic c => exact h4.elim
                | outgrown => exact h4.elim
              | exit id => exact h1.elim
              | goto t => exact h1.elim
              | ret => exact h1.elim
              | panic c => exact h1.elim
              | outgrown => exact h1.elim
            · exact hB.elim
        · exact h.elim
    · exact h.elim
  | .exit id, _, rd, ro, hro, k, Q, f, ms, w, a, hr, h => wpIn_exit ⟨f, ms, hr, h⟩
  | .ret, _, rd, ro, hro, k, Q, f, ms, w, a, hr, h => wpIn_ret ⟨f, ms, hr, h⟩
  | .label _, _, rd, ro, hro, k, Q, f, ms, w, a, hr, h => wpIn_label ⟨f, ms, hr, h⟩
  | .seq _ _, .o, _, _, _, _, _, _, _, _, _, _, h => h.elim
  | .seq _ _, .c _ _, _, _, _, _, _, _, _, _, _, _, h => h.elim
  | .seq _ _, .b _, _, _, _, _, _, _, _, _, _, _, h => h.elim
  | .seq _ _, .l _ _, _, _, _, _, _, _, _, _, _, _, h => h.elim
  | .seq _ _, .r _ _ _, _, _, _, _, _, _, _, _, _, _, h => h.elim
  | .cond _ _ _, .o, _, _, _, _, _, _, _, _, _, _, h => h.elim
  | .cond _ _ _, .s _ _, _, _, _, _, _, _, _, _, _, _, h => h.elim
  | .cond _ _ _, .b _, _, _, _, _, _, _, _, _, _, _, h => h.elim
  | .cond _ _ _, .l _ _, _, _, _, _, _, _, _, _, _, _, h => h.elim
  | .cond _ _ _, .r _ _ _, _, _, _, _, _, _, _, _, _, _, h => h.elim
  | .block _ _, .o, _, _, _, _, _, _, _, _, _, _, h => h.elim
  | .block _ _, .s _ _, _, _, _, _, _, _, _, _, _, _, h => h.elim
  | .block _ _, .c _ _, _, _, _, _, _, _, _, _, _, _, h => h.elim
  | .block _ _, .l _ _, _, _, _, _, _, _, _, _, _, _, h => h.elim
  | .block _ _, .r _ _ _, _, _, _, _, _, _, _, _, _, _, h => h.elim
  | .loop _, .o, _, _, _, _, _, _, _, _, _, _, h => h.elim
  | .loop _, .s _ _, _, _, _, _, _, _, _, _, _, _, h => h.elim
  | .loop _, .c _ _, _, _, _, _, _, _, _, _, _, _, h => h.elim
  | .loop _, .b _, _, _, _, _, _, _, _, _, _, _, h => h.elim
  | .loop _, .r _ _ _, _, _, _, _, _, _, _, _, _, _, h => h.elim
  | .rangeFunc _ _ _ _, .o, _, _, _, _, _, _, _, _, _, _, h => h.elim
  | .rangeFunc _ _ _ _, .s _ _, _, _, _, _, _, _, _, _, _, _, h => h.elim
  | .rangeFunc _ _ _ _, .c _ _, _, _, _, _, _, _, _, _, _, _, h => h.elim
  | .rangeFunc _ _ _ _, .b _, _, _, _, _, _, _, _, _, _, _, h => h.elim
  | .rangeFunc _ _ _ _, .l _ _, _, _, _, _, _, _, _, _, _, _, h => h.elim
  | .scope _, _, _, _, _, _, _, _, _, _, _, _, h => h.elim
  | .goto _, _, _, _, _, _, _, _, _, _, _, _, h => h.elim
  | .refuse _, _, _, _, _, _, _, _, _, _, _, _, h => h.elim

/-! functions -/
/-- the blocks for deferred calls are shut at the return -/
def Dfr : List Nat → World → (World → Prop) → Prop
  | [], w, K => K w
  | r :: rs, w, K => w.heap[r]? = some (.deferred (some [])) ∧ Dfr rs (w.putObj r (.deferred none)) K
def retM (P : Program) (rs : List ResultVar) (ks : List Ki) (K : FnK ks (World → Prop)) : Exit → AF → List Nat → World → Prop
  | .normal, f, ms, w | .ret, f, ms, w => Dfr ms w fun w => RetV P rs f w [] fun vs => decRes ks (resVal vs) K w
  | _, _, _, _ => False
theorem calls_of_vcR {P : Program} (hm : P.follows .mixedOrders = true) {i : FuncId} {fn : Func} {c : Code} {args : List Value} {w : World} {ks : List Ki} {K : FnK ks (World → Prop)} (n : Nat) (rs : List ResultVar)
    (hf : P.funcs[i]? = some fn) (hb : fn.body = some c) (hn : fn.ntmps = n) (hl : args.length ≤ n) (hrs : fn.results.toList = rs) (p : PlanR) (h : vcR P n false c p (retM P rs ks K) (initF args n) [] w) : Cl P ks i ⟨args⟩ w K := by
  refine (callsIn_wide (n := 0)).1 (callsIn_of_wp_marks (F := Fence.wide) hf hb trivial ?_)
  subst hn; subst hrs
  have hsz : ((⟨args⟩ : Array Value) ++ Array.replicate (fn.ntmps - (⟨args⟩ : Array Value).size) undef).size = fn.ntmps := by simp; omega
  have hr : Rel fn.ntmps (([] : List Nat).map mark) { tmps := (⟨args⟩ : Array Value) ++ Array.replicate (fn.ntmps - (⟨args⟩ : Array Value).size) undef, defers := [] } (initF args fn.ntmps) := by
    refine ⟨hsz, fun i hi => has_bld _ _ _ _ hi, rfl, fun i v hv => ?_⟩
    have h1 := get_bld _ _ _ _ _ hv
    simp only [Option.some.injEq] at h1
    have hi : i < fn.ntmps := has_bld _ _ _ _ (get_has hv)
    simp only [Array.getD_eq_getD_getElem?]
    have h2 : ((⟨args⟩ : Array Value) ++ Array.replicate (fn.ntmps - (⟨args⟩ : Array Value).size) undef)[i]? = (args ++ List.replicate (fn.ntmps - args.length) undef)[i]? := by
      rw [← Array.getElem?_toList]
      simp
    rw [h2, ← h1]
    by_cases ha : i < args.length
    · simp [List.getElem?_append_left ha, List.getD_eq_getElem?_getD]
    · rw [List.getElem?_append_right (by omega), List.getElem?_replicate]
      rw [if_pos (by omega)]
      simp [List.getD_eq_getElem?_getD, List.getElem?_eq_none (by omega : args.length ≤ i)]
  refine Go.wpIn_mono (vcR_sound hm c p false none rfl 0 _ _ [] w _ hr h) fun e a w' ⟨f, ms, hr, hq⟩ => ?_
  have fin : ∀ (ms : List Nat) (w' : World), (Dfr ms w' fun w => RetV P fn.results.toList f w [] fun vs => decRes ks (resVal vs) K w) → LeavesInM Fence.wide 0 P fn a.tmps (resPost ks K) (ms.map mark) .returning w' := by
    intro ms
    induction ms with
    | nil =>
      intro w' hq
      obtain ⟨vs, h1, h2⟩ := RetV_sound hr _ _ hq
      refine ⟨resVal vs, ?_, h2⟩
      rw [results_eq, Array.mapM_eq_mapM_toList]
      simp only [Sem.run_bind, Sem.run_map, h1, Result.andThen_ok, Sem.run_pure]
      congr 1
      match vs with
      | [] => rfl
      | [v] => rfl
      | a :: b :: l => simp [resVal]
    | cons r ms ih =>
      intro w' hq
      exact ⟨by simp, .inl ⟨r, _, rfl, run_takeDeferred hq.1, ih _ hq.2⟩⟩
  have hd := hr.defs
  cases e <;> first | exact hq.elim | (show LeavesInM _ _ _ _ _ _ a.defers _ _; rw [hd]; exact fin ms w' hq)
theorem calls_of_eqR {P : Program} (hm : P.follows .mixedOrders = true) {i : FuncId} {w : World} {F : Prop} (fn : Func) (args : List Value) (ks : List Ki) (K : FnK ks (World → Prop)) (n : Nat) (rs : List ResultVar)
    (hf : P.funcs[i]? = some fn) (hb : fn.body = some (fn.body.getD .skip)) (hn : fn.ntmps = n) (hl : Nat.ble args.length n = true) (hrs : fn.results.toList = rs) (p : PlanR)
    (he : vcR P n false (fn.body.getD .skip) p (retM P rs ks K) (initF args n) [] w = F) (h : F) : Cl P ks i ⟨args⟩ w K :=
  calls_of_vcR hm n rs hf hb hn (Nat.le_of_ble_eq_true hl) hrs p (he ▸ h)
end
end Go.Vc
/- F -/
namespace Go.Proofs.YtdfalolgngnelaaDoor
open Go Go.Vc
abbrev n_law30_ScriptMatches : Nat := 3
abbrev n_law30_ScriptBack : Nat := 4
abbrev n_law30_ScriptLines : Nat := 5
abbrev n_law30_ScriptHex : Nat := 6
abbrev n_ref30_Great : Nat := 7
abbrev n_law30_wakes : Nat := 8
abbrev n_script_Parse : Nat := 9
abbrev n_ref30_Parse : Nat := 10
abbrev n_ref30_Equal : Nat := 11
abbrev n_script_Hex : Nat := 12
abbrev n_ref30_Hex : Nat := 13
abbrev n_script_Print : Nat := 14
abbrev n_ref30_Print : Nat := 15
abbrev n_script_Equal : Nat := 16
abbrev n_ref30_Lines : Nat := 17
abbrev n_strings_Join : Nat := 18
abbrev n_script_many : Nat := 19
abbrev n_script_lines : Nat := 20
abbrev n_script_says : Nat := 21
abbrev n_ref30_says : Nat := 22
abbrev n_ref07_Ints : Nat := 23
abbrev n_slices_ContainsFunc_int_int : Nat := 24
abbrev n_script_Print_1 : Nat := 25
abbrev n_strings_Builder_WriteString : Nat := 26
abbrev n_script_row : Nat := 27
abbrev n_strconv_Itoa : Nat := 28
abbrev n_strings_Builder_String : Nat := 29
abbrev n_ref30_told : Nat := 30
abbrev n_ref30_Digits : Nat := 31
abbrev n_slices_EqualFunc_api_Op_api_Op_api_Op_api_Op : Nat := 32
abbrev n_script_Equal_1 : Nat := 33
abbrev n_bytes_Equal : Nat := 34
abbrev n_slices_Equal_api_Patch_api_Patch : Nat := 35
abbrev n_slices_Equal_int_int : Nat := 36
abbrev n_strings_Builder_Grow : Nat := 37
abbrev n_script_lines_1 : Nat := 38
abbrev n_strings_Cut : Nat := 39
abbrev n_script_words : Nat := 40
abbrev n_script_number : Nat := 41
abbrev n_script_cuts : Nat := 42
abbrev n_script_unhex : Nat := 43
abbrev n_ref30_words : Nat := 44
abbrev n_ref30_one : Nat := 45
abbrev n_ref30_bytes : Nat := 46
abbrev n_ref30_cuts : Nat := 47
abbrev n_ref30_number : Nat := 48
abbrev n_ref30_unhex : Nat := 49
abbrev n_slices_IndexFunc_int_int : Nat := 50
abbrev n_strings_Builder_copyCheck : Nat := 51
abbrev n_internal_strconv_Itoa : Nat := 52
abbrev n_strings_Builder_grow : Nat := 53
abbrev n_internal_stringslite_Cut : Nat := 54
abbrev n_strings_FieldsFunc : Nat := 55
abbrev n_script_words_1 : Nat := 56
abbrev n_strconv_Atoi : Nat := 57
abbrev n_strings_IndexByte : Nat := 58
abbrev n_ref30_digit : Nat := 59
abbrev n_internal_strconv_FormatInt : Nat := 61
abbrev n_internal_bytealg_MakeNoZero : Nat := 62
abbrev n_internal_stringslite_Index : Nat := 63
abbrev n_internal_strconv_Atoi : Nat := 64
abbrev n_strconv_toError : Nat := 65
abbrev n_internal_stringslite_IndexByte : Nat := 66
abbrev n_internal_strconv_small : Nat := 67
abbrev n_internal_strconv_numDigits : Nat := 68
abbrev n_internal_strconv_formatBase10 : Nat := 69
abbrev n_internal_strconv_formatBits : Nat := 70
abbrev n_internal_bytealg_IndexString : Nat := 71
abbrev n_internal_bytealg_Cutover : Nat := 72
abbrev n_internal_bytealg_IndexRabinKarp_string : Nat := 73
abbrev n_internal_strconv_ParseInt : Nat := 74
abbrev n_strconv_syntaxError : Nat := 75
abbrev n_strconv_rangeError : Nat := 76
abbrev n_strconv_baseError : Nat := 77
abbrev n_strconv_bitSizeError : Nat := 78
abbrev n_internal_bytealg_IndexByteString : Nat := 79
abbrev n_internal_strconv_log10Pow2 : Nat := 80
abbrev n_math_bits_Len64 : Nat := 81
abbrev n_internal_strconv_bool2_int : Nat := 82
abbrev n_internal_strconv_isPowerOfTwo : Nat := 83
abbrev n_math_bits_TrailingZeros : Nat := 84
abbrev n_internal_bytealg_hashStr_string : Nat := 85
abbrev n_internal_strconv_ParseUint : Nat := 86
abbrev n_internal_stringslite_Clone : Nat := 87
abbrev n_errors_New : Nat := 88
abbrev n_math_bits_TrailingZeros32 : Nat := 89
abbrev n_math_bits_TrailingZeros64 : Nat := 90
abbrev n_internal_strconv_lower : Nat := 91
abbrev n_internal_strconv_underscoreOK : Nat := 92
abbrev n_gosem_cut_vars : Nat := 120
theorem Tryd.mix : Tryd.prog.follows .mixedOrders = true := by kernel_rfl
end Go.Proofs.YtdfalolgngnelaaDoor
/- Fscript -/
namespace Go.Proofs.YtdfalolgngnelaaDoor
open Go Go.Vc
set_option maxRecDepth 100000 in
/-- script.Parse -/
def script_Parse.E (texts1 : Sl) (R : (TT [.int .i64, .int .i64, .sl, .sl, .int .i64, .sl, .int .i64, .sl]) → Int → Int → World → Prop) (w : World) : Prop :=
 Nw 27 ⟨[(.int .i64 0), (.int .i64 0), (.slice none 0 0), (.slice none 0 0), (.int .i64 0), (.slice none 0 0), (.int .i64 0), (.slice none 0 0)]⟩ w fun (b3 : Nat) (w_2 : World) =>
 Nw 3 ⟨[(.int .i64 0)]⟩ w_2 fun (b5 : Nat) (w_4 : World) =>
 Nw 30 ⟨[(.int .i64 0)]⟩ w_4 fun (b7 : Nat) (w_6 : World) =>
 Cl Tryd.prog [kStr] n_strings_Join ⟨[(.slice texts1.base texts1.len texts1.cap), (.string (ByteArray.mk #[]))]⟩ w_6 fun (r9 : ByteArray) (w_8 : World) =>
 IfB (decide ((((r9).size : Int) : Int) > (65536 : Int)))
 (Ld (.st [.int .i64, .int .i64, .sl, .sl, .int .i64, .sl, .int .i64, .sl]) (⟨b3, 0, none⟩ : Addr) w_8 fun (x10 : (TT [.int .i64, .int .i64, .sl, .sl, .int .i64, .sl, .int .i64, .sl])) =>
 StC (⟨b3, 0, none⟩ : Addr) [(.int .i64 x10.1), (.int .i64 x10.2.1), (.slice x10.2.2.1.base x10.2.2.1.len x10.2.2.1.cap), (.slice x10.2.2.2.1.base x10.2.2.2.1.len x10.2.2.2.1.cap), (.int .i64 x10.2.2.2.2.1), (.slice x10.2.2.2.2.2.1.base x10.2.2.2.2.2.1.len x10.2.2.2.2.2.1.cap), (.int .i64 x10.2.2.2.2.2.2.1), (.slice x10.2.2.2.2.2.2.2.1.base x10.2.2.2.2.2.2.2.1.len x10.2.2.2.2.2.2.2.1.cap)] 0 w_8 fun (w_11 : World) =>
 St (⟨b5, 0, none⟩ : Addr) (.int .i64 0) w_11 fun (w_12 : World) =>
 St (⟨b7, 0, none⟩ : Addr) (.int .i64 301) w_12 fun (w_13 : World) =>
 Ld (.st [.int .i64, .int .i64, .sl, .sl, .int .i64, .sl, .int .i64, .sl]) (⟨b3, 0, none⟩ : Addr) w_13 fun (res14 : (TT [.int .i64, .int .i64, .sl, .sl, .int .i64, .sl, .int .i64, .sl])) =>
 Ld kI (⟨b5, 0, none⟩ : Addr) w_13 fun (res15 : Int) =>
 Ld kI (⟨b7, 0, none⟩ : Addr) w_13 fun (res16 : Int) =>
 R (res14) (res15) (res16) w_13)
 (Cl Tryd.prog [kI] n_script_many ⟨[(.string r9)]⟩ w_8 fun (r18 : Int) (w_17 : World) =>
 IfB (decide ((r18 : Int) > (1000 : Int)))
 (Ld (.st [.int .i64, .int .i64, .sl, .sl, .int .i64, .sl, .int .i64, .sl]) (⟨b3, 0, none⟩ : Addr) w_17 fun (x19 : (TT [.int .i64, .int .i64, .sl, .sl, .int .i64, .sl, .int .i64, .sl])) =>
 StC (⟨b3, 0, none⟩ : Addr) [(.int .i64 x19.1), (.int .i64 x19.2.1), (.slice x19.2.2.1.base x19.2.2.1.len x19.2.2.1.cap), (.slice x19.2.2.2.1.base x19.2.2.2.1.len x19.2.2.2.1.cap), (.int .i64 x19.2.2.2.2.1), (.slice x19.2.2.2.2.2.1.base x19.2.2.2.2.2.1.len x19.2.2.2.2.2.1.cap), (.int .i64 x19.2.2.2.2.2.2.1), (.slice x19.2.2.2.2.2.2.2.1.base x19.2.2.2.2.2.2.2.1.len x19.2.2.2.2.2.2.2.1.cap)] 0 w_17 fun (w_20 : World) =>
 St (⟨b5, 0, none⟩ : Addr) (.int .i64 0) w_20 fun (w_21 : World) =>
 St (⟨b7, 0, none⟩ : Addr) (.int .i64 301) w_21 fun (w_22 : World) =>
 Ld (.st [.int .i64, .int .i64, .sl, .sl, .int .i64, .sl, .int .i64, .sl]) (⟨b3, 0, none⟩ : Addr) w_22 fun (res23 : (TT [.int .i64, .int .i64, .sl, .sl, .int .i64, .sl, .int .i64, .sl])) =>
 Ld kI (⟨b5, 0, none⟩ : Addr) w_22 fun (res24 : Int) =>
 Ld kI (⟨b7, 0, none⟩ : Addr) w_22 fun (res25 : Int) =>
 R (res23) (res24) (res25) w_22)
 (Nw 27 ⟨[(.int .i64 0), (.int .i64 0), (.slice none 0 0), (.slice none 0 0), (.int .i64 0), (.slice none 0 0), (.int .i64 0), (.slice none 0 0)]⟩ w_17 fun (b27 : Nat) (w_26 : World) =>
 Cl Tryd.prog [kV] n_script_lines ⟨[(.string r9)]⟩ w_26 fun (r29 : Value) (w_28 : World) =>
 Rng Tryd.prog r29 [kI, kStr] w_28 (fun (l30 : Nat) (rec_31 : Nat → Obj) (y35 : Int) (y36 : ByteArray) (w_32 : World) (Kt33 Kf34 : World → Prop) =>
 Beg l30 rec_31 w_32 fun (w_37 : World) =>
 Cl Tryd.prog [kB] n_script_says ⟨[(.pointer (some (⟨b27, 0, none⟩ : Addr))), (.string y36)]⟩ w_37 fun (r39 : Bool) (w_38 : World) =>
 IfB (!r39)
 (Ld (.st [.int .i64, .int .i64, .sl, .sl, .int .i64, .sl, .int .i64, .sl]) (⟨b3, 0, none⟩ : Addr) w_38 fun (x40 : (TT [.int .i64, .int .i64, .sl, .sl, .int .i64, .sl, .int .i64, .sl])) =>
 StC (⟨b3, 0, none⟩ : Addr) [(.int .i64 x40.1), (.int .i64 x40.2.1), (.slice x40.2.2.1.base x40.2.2.1.len x40.2.2.1.cap), (.slice x40.2.2.2.1.base x40.2.2.2.1.len x40.2.2.2.1.cap), (.int .i64 x40.2.2.2.2.1), (.slice x40.2.2.2.2.2.1.base x40.2.2.2.2.2.1.len x40.2.2.2.2.2.1.cap), (.int .i64 x40.2.2.2.2.2.2.1), (.slice x40.2.2.2.2.2.2.2.1.base x40.2.2.2.2.2.2.2.1.len x40.2.2.2.2.2.2.2.1.cap)] 0 w_38 fun (w_41 : World) =>
 St (⟨b5, 0, none⟩ : Addr) (.int .i64 y35) w_41 fun (w_42 : World) =>
 St (⟨b7, 0, none⟩ : Addr) (.int .i64 300) w_42 fun (w_43 : World) =>
 EndF l30 rec_31 w_43 Kf34)
 (EndT l30 rec_31 w_38 Kt33))
 (fun (D44 : Nat) (w_45 : World) =>
 Ld (.st [.int .i64, .int .i64, .sl, .sl, .int .i64, .sl, .int .i64, .sl]) (⟨b27, 0, none⟩ : Addr) w_45 fun (x46 : (TT [.int .i64, .int .i64, .sl, .sl, .int .i64, .sl, .int .i64, .sl])) =>
 StC (⟨b3, 0, none⟩ : Addr) [(.int .i64 x46.1), (.int .i64 x46.2.1), (.slice x46.2.2.1.base x46.2.2.1.len x46.2.2.1.cap), (.slice x46.2.2.2.1.base x46.2.2.2.1.len x46.2.2.2.1.cap), (.int .i64 x46.2.2.2.2.1), (.slice x46.2.2.2.2.2.1.base x46.2.2.2.2.2.1.len x46.2.2.2.2.2.1.cap), (.int .i64 x46.2.2.2.2.2.2.1), (.slice x46.2.2.2.2.2.2.2.1.base x46.2.2.2.2.2.2.2.1.len x46.2.2.2.2.2.2.2.1.cap)] 0 w_45 fun (w_47 : World) =>
 St (⟨b5, 0, none⟩ : Addr) (.int .i64 0) w_47 fun (w_48 : World) =>
 St (⟨b7, 0, none⟩ : Addr) (.int .i64 0) w_48 fun (w_49 : World) =>
 Dfr (D44 :: [] : List Nat) w_49 fun (w_50 : World) =>
 Ld (.st [.int .i64, .int .i64, .sl, .sl, .int .i64, .sl, .int .i64, .sl]) (⟨b3, 0, none⟩ : Addr) w_50 fun (res51 : (TT [.int .i64, .int .i64, .sl, .sl, .int .i64, .sl, .int .i64, .sl])) =>
 Ld kI (⟨b5, 0, none⟩ : Addr) w_50 fun (res52 : Int) =>
 Ld kI (⟨b7, 0, none⟩ : Addr) w_50 fun (res53 : Int) =>
 R (res51) (res52) (res53) w_50)
 (fun (D54 : Nat) (w_55 : World) =>
 Dfr (D54 :: [] : List Nat) w_55 fun (w_56 : World) =>
 Ld (.st [.int .i64, .int .i64, .sl, .sl, .int .i64, .sl, .int .i64, .sl]) (⟨b3, 0, none⟩ : Addr) w_56 fun (res57 : (TT [.int .i64, .int .i64, .sl, .sl, .int .i64, .sl, .int .i64, .sl])) =>
 Ld kI (⟨b5, 0, none⟩ : Addr) w_56 fun (res58 : Int) =>
 Ld kI (⟨b7, 0, none⟩ : Addr) w_56 fun (res59 : Int) =>
 R (res57) (res58) (res59) w_56)))
set_option maxRecDepth 100000 in
theorem script_Parse.ok (texts1 : Sl) (R : (TT [.int .i64, .int .i64, .sl, .sl, .int .i64, .sl, .int .i64, .sl]) → Int → Int → World → Prop) (w : World) (h : script_Parse.E texts1 R w) : Cl Tryd.prog [(.st [.int .i64, .int .i64, .sl, .sl, .int .i64, .sl, .int .i64, .sl]), kI, kI] n_script_Parse ⟨[(.slice texts1.base texts1.len texts1.cap)]⟩ w R :=
  calls_of_eqR Tryd.mix Tryd.f9 [(.slice texts1.base texts1.len texts1.cap)] [(.st [.int .i64, .int .i64, .sl, .sl, .int .i64, .sl, .int .i64, .sl]), kI, kI] R 30 [.cell 2 27, .cell 3 3, .cell 4 30] (by kernel_rfl) (by kernel_rfl) (by kernel_rfl) (by kernel_rfl) (by kernel_rfl)
    (.s .o (.s .o (.s (.s .o (.c (.s .o .o) .o)) (.s .o (.s (.s .o (.b (.r [kI, kStr] (.s .o .o) (.b (.s .o (.c (.s .o .o) .o)))))) (.s .o .o))))))
    (by kernel_rfl) h
set_option maxRecDepth 100000 in
/-- script.Hex -/
def script_Hex.E (b1 : Sl) (R : ByteArray → World → Prop) (w : World) : Prop :=
 IfB (((b1.len : Int) : Int) == (0 : Int))
 (R ((ByteArray.mk #[45])) w)
 (∃ (I_2 : Sl → Int → World → Prop) (m_3 : Sl → Int → World → Nat), I_2 ((⟨none, 0, 0⟩ : Sl)) (0) w ∧
 ∀ (out4 : Sl) (t11_5 : Int), ∀ (w_6 : World), I_2 out4 t11_5 w_6 →
 IfB (decide ((t11_5 : Int) < ((b1.len : Int) : Int)))
 (Idx b1 t11_5 1 fun (q7 : Addr) =>
 Ld (kInt .u8) q7 w_6 fun (x8 : Int) =>
 Drw w_6 fun (w_9 : World) =>
 0 ≤ (4 : Int) ∧
 0 ≤ ((ishr .u8 (x8 : Int) (4 : Int)) : Int) ∧ ((ishr .u8 (x8 : Int) (4 : Int)) : Int) < (((ByteArray.mk #[48, 49, 50, 51, 52, 53, 54, 55, 56, 57, 97, 98, 99, 100, 101, 102])).size : Int) ∧
 0 ≤ ((iand .u8 (x8 : Int) (15 : Int)) : Int) ∧ ((iand .u8 (x8 : Int) (15 : Int)) : Int) < (((ByteArray.mk #[48, 49, 50, 51, 52, 53, 54, 55, 56, 57, 97, 98, 99, 100, 101, 102])).size : Int) ∧
 Nw 5 ⟨[(.int .u8 (strAt (ByteArray.mk #[48, 49, 50, 51, 52, 53, 54, 55, 56, 57, 97, 98, 99, 100, 101, 102]) ((ishr .u8 (x8 : Int) (4 : Int)) : Int).toNat)), (.int .u8 (strAt (ByteArray.mk #[48, 49, 50, 51, 52, 53, 54, 55, 56, 57, 97, 98, 99, 100, 101, 102]) ((iand .u8 (x8 : Int) (15 : Int)) : Int).toNat))]⟩ w_9 fun (b11 : Nat) (w_10 : World) =>
 Run Tryd.prog (Builtin.append_ #[24, 24] 24 ⟨[(.slice out4.base out4.len out4.cap), (.slice (⟨some ⟨b11, 0, none⟩, 2, 2⟩ : Sl).base (⟨some ⟨b11, 0, none⟩, 2, 2⟩ : Sl).len (⟨some ⟨b11, 0, none⟩, 2, 2⟩ : Sl).cap)]⟩) kS w_10 fun (s13 : Sl) (w_12 : World) =>
 I_2 (s13) ((i64 ((t11_5 : Int) + (1 : Int)))) w_12 ∧ m_3 (s13) ((i64 ((t11_5 : Int) + (1 : Int)))) w_12 < m_3 out4 t11_5 w_6)
 (Run Tryd.prog (convert 24 9 (.slice out4.base out4.len out4.cap)) kStr w_6 fun (s15 : ByteArray) (w_14 : World) =>
 R (s15) w_14))
set_option maxRecDepth 100000 in
theorem script_Hex.ok (b1 : Sl) (R : ByteArray → World → Prop) (w : World) (h : script_Hex.E b1 R w) : Cl Tryd.prog [kStr] n_script_Hex ⟨[(.slice b1.base b1.len b1.cap)]⟩ w R :=
  calls_of_eq Tryd.mix Tryd.f12 [(.slice b1.base b1.len b1.cap)] [kStr] R 27 [.tmp 2] (by kernel_rfl) (by kernel_rfl) (by kernel_rfl) (by kernel_rfl) (by kernel_rfl)
    (.s .o (.s (.s .o (.c (.s .o .o) .o)) (.s .o (.s (.s .o (.b (.l [(3, kS), (11, kI)] (.s .o (.s (.c .o .o) (.s (.b (.s .o .o)) .o)))))) (.s .o .o)))))
    (by kernel_rfl) h
set_option maxRecDepth 100000 in
/-- script.Print -/
def script_Print.E (s1 : (TT [.int .i64, .int .i64, .sl, .sl, .int .i64, .sl, .int .i64, .sl])) (R : ByteArray → Int → World → Prop) (w : World) : Prop :=
 Nw 27 ⟨[(.int .i64 s1.1), (.int .i64 s1.2.1), (.slice s1.2.2.1.base s1.2.2.1.len s1.2.2.1.cap), (.slice s1.2.2.2.1.base s1.2.2.2.1.len s1.2.2.2.1.cap), (.int .i64 s1.2.2.2.2.1), (.slice s1.2.2.2.2.2.1.base s1.2.2.2.2.2.1.len s1.2.2.2.2.2.1.cap), (.int .i64 s1.2.2.2.2.2.2.1), (.slice s1.2.2.2.2.2.2.2.1.base s1.2.2.2.2.2.2.2.1.len s1.2.2.2.2.2.2.2.1.cap)]⟩ w fun (b3 : Nat) (w_2 : World) =>
 Ld kI ((⟨b3, 0, none⟩ : Addr).add 0) w_2 fun (Size4 : Int) =>
 Ld kI ((⟨b3, 0, none⟩ : Addr).add 1) w_2 fun (Budget5 : Int) =>
 Ld kI ((⟨b3, 0, none⟩ : Addr).add 6) w_2 fun (Room6 : Int) =>
 Ld kI ((⟨b3, 0, none⟩ : Addr).add 4) w_2 fun (Drop7 : Int) =>
 Nw 3 ⟨[(.int .i64 Size4), (.int .i64 Budget5), (.int .i64 Room6), (.int .i64 Drop7)]⟩ w_2 fun (b9 : Nat) (w_8 : World) =>
 Ld kS ((⟨b3, 0, none⟩ : Addr).add 7) w_8 fun (Cuts10 : Sl) =>
 Run Tryd.prog (Builtin.append_ #[25, 25] 25 ⟨[(.slice (⟨some ⟨b9, 0, none⟩, 4, 4⟩ : Sl).base (⟨some ⟨b9, 0, none⟩, 4, 4⟩ : Sl).len (⟨some ⟨b9, 0, none⟩, 4, 4⟩ : Sl).cap), (.slice Cuts10.base Cuts10.len Cuts10.cap)]⟩) kS w_8 fun (s12 : Sl) (w_11 : World) =>
 Ld kS ((⟨b3, 0, none⟩ : Addr).add 3) w_11 fun (Spoils13 : Sl) =>
 ∃ (I_14 : Sl → Int → World → Prop) (m_15 : Sl → Int → World → Nat), I_14 (s12) (0) w_11 ∧
 ∀ (numbers16 : Sl) (t28_17 : Int), ∀ (w_18 : World), I_14 numbers16 t28_17 w_18 →
 IfB (decide ((t28_17 : Int) < ((Spoils13.len : Int) : Int)))
 (Idx Spoils13 t28_17 2 fun (q19 : Addr) =>
 Ld (.st [.int .i64, .int .u8]) q19 w_18 fun (x20 : (TT [.int .i64, .int .u8])) =>
 Nw 47 ⟨[(.int .i64 0), (.int .u8 0)]⟩ w_18 fun (b22 : Nat) (w_21 : World) =>
 StC (⟨b22, 0, none⟩ : Addr) [(.int .i64 x20.1), (.int .u8 x20.2.1)] 0 w_21 fun (w_23 : World) =>
 Ld kI ((⟨b22, 0, none⟩ : Addr).add 0) w_23 fun (At24 : Int) =>
 Nw 3 ⟨[(.int .i64 At24)]⟩ w_23 fun (b26 : Nat) (w_25 : World) =>
 Run Tryd.prog (Builtin.append_ #[25, 25] 25 ⟨[(.slice numbers16.base numbers16.len numbers16.cap), (.slice (⟨some ⟨b26, 0, none⟩, 1, 1⟩ : Sl).base (⟨some ⟨b26, 0, none⟩, 1, 1⟩ : Sl).len (⟨some ⟨b26, 0, none⟩, 1, 1⟩ : Sl).cap)]⟩) kS w_25 fun (s28 : Sl) (w_27 : World) =>
 I_14 (s28) ((i64 ((t28_17 : Int) + (1 : Int)))) w_27 ∧ m_15 (s28) ((i64 ((t28_17 : Int) + (1 : Int)))) w_27 < m_15 numbers16 t28_17 w_18)
 (Cl Tryd.prog [kB] n_slices_ContainsFunc_int_int ⟨[(.slice numbers16.base numbers16.len numbers16.cap), (.func (.func 25) ⟨[]⟩ ⟨[]⟩)]⟩ w_18 fun (r30 : Bool) (w_29 : World) =>
 IfB r30
 (R ((ByteArray.mk #[])) (2) w_29)
 (Nw 63 ⟨[(.pointer none), (.slice none 0 0)]⟩ w_29 fun (b32 : Nat) (w_31 : World) =>
 Join (fun (w_69 : World) =>
 Ld kS ((⟨b3, 0, none⟩ : Addr).add 2) w_69 fun (Deeds70 : Sl) =>
 ∃ (I_71 : Int → World → Prop) (m_72 : Int → World → Nat), I_71 (0) w_69 ∧
 ∀ (t53_73 : Int), ∀ (w_74 : World), I_71 t53_73 w_74 →
 IfB (decide ((t53_73 : Int) < ((Deeds70.len : Int) : Int)))
 (Join (fun (w_91 : World) =>
 I_71 ((i64 ((t53_73 : Int) + (1 : Int)))) w_91 ∧ m_72 ((i64 ((t53_73 : Int) + (1 : Int)))) w_91 < m_72 t53_73 w_74) fun (K_75 : World → Prop) =>
 Idx Deeds70 t53_73 2 fun (q76 : Addr) =>
 Ld (.st [.bool, .sl]) q76 w_74 fun (x77 : (TT [.bool, .sl])) =>
 Nw 40 ⟨[(.bool false), (.slice none 0 0)]⟩ w_74 fun (b79 : Nat) (w_78 : World) =>
 StC (⟨b79, 0, none⟩ : Addr) [(.bool x77.1), (.slice x77.2.1.base x77.2.1.len x77.2.1.cap)] 0 w_78 fun (w_80 : World) =>
 Ld kB ((⟨b79, 0, none⟩ : Addr).add 0) w_80 fun (Flush81 : Bool) =>
 IfB Flush81
 (Cl Tryd.prog [kI, kV] n_strings_Builder_WriteString ⟨[(.pointer (some (⟨b32, 0, none⟩ : Addr))), (.string (ByteArray.mk #[102, 108, 117, 115, 104, 10]))]⟩ w_80 fun (r83 : Int) (r84 : Value) (w_82 : World) =>
 K_75  w_82)
 (Ld kS ((⟨b79, 0, none⟩ : Addr).add 1) w_80 fun (Bytes85 : Sl) =>
 Cl Tryd.prog [kStr] n_script_Hex ⟨[(.slice Bytes85.base Bytes85.len Bytes85.cap)]⟩ w_80 fun (r87 : ByteArray) (w_86 : World) =>
 (((ByteArray.mk #[119, 114, 105, 116, 101, 32])).size : Int) + ((r87).size : Int) ≤ 9223372036854775807 ∧
 ((((ByteArray.mk #[119, 114, 105, 116, 101, 32]) ++ r87)).size : Int) + (((ByteArray.mk #[10])).size : Int) ≤ 9223372036854775807 ∧
 Cl Tryd.prog [kI, kV] n_strings_Builder_WriteString ⟨[(.pointer (some (⟨b32, 0, none⟩ : Addr))), (.string (((ByteArray.mk #[119, 114, 105, 116, 101, 32]) ++ r87) ++ (ByteArray.mk #[10])))]⟩ w_86 fun (r89 : Int) (r90 : Value) (w_88 : World) =>
 K_75  w_88))
 (Ld kS ((⟨b3, 0, none⟩ : Addr).add 3) w_74 fun (Spoils92 : Sl) =>
 ∃ (I_93 : Int → World → Prop) (m_94 : Int → World → Nat), I_93 (0) w_74 ∧
 ∀ (t70_95 : Int), ∀ (w_96 : World), I_93 t70_95 w_96 →
 IfB (decide ((t70_95 : Int) < ((Spoils92.len : Int) : Int)))
 (Idx Spoils92 t70_95 2 fun (q97 : Addr) =>
 Ld (.st [.int .i64, .int .u8]) q97 w_96 fun (x98 : (TT [.int .i64, .int .u8])) =>
 Nw 47 ⟨[(.int .i64 0), (.int .u8 0)]⟩ w_96 fun (b100 : Nat) (w_99 : World) =>
 StC (⟨b100, 0, none⟩ : Addr) [(.int .i64 x98.1), (.int .u8 x98.2.1)] 0 w_99 fun (w_101 : World) =>
 Join (fun (w_125 : World) =>
 I_93 ((i64 ((t70_95 : Int) + (1 : Int)))) w_125 ∧ m_94 ((i64 ((t70_95 : Int) + (1 : Int)))) w_125 < m_94 t70_95 w_96) fun (K_102 : World → Prop) =>
 Held w_101 fun (S103 : World → Prop) (w_104 : World) =>
 LdS kI ((⟨b100, 0, none⟩ : Addr).add 0) S103 fun (At105 : Int) =>
 LdS (kInt .u8) ((⟨b100, 0, none⟩ : Addr).add 1) S103 fun (By106 : Int) =>
 (Cl Tryd.prog [kStr] n_strconv_Itoa ⟨[(.int .i64 At105)]⟩ w_104 fun (r108 : ByteArray) (w_107 : World) =>
 S103 w_107 ∧
 (((ByteArray.mk #[115, 112, 111, 105, 108, 32])).size : Int) + ((r108).size : Int) ≤ 9223372036854775807 ∧
 ((((ByteArray.mk #[115, 112, 111, 105, 108, 32]) ++ r108)).size : Int) + (((ByteArray.mk #[32])).size : Int) ≤ 9223372036854775807 ∧
 Nw 5 ⟨[(.int .u8 By106)]⟩ w_107 fun (b110 : Nat) (w_109 : World) =>
 S103 w_109 ∧
 Cl Tryd.prog [kStr] n_script_Hex ⟨[(.slice (⟨some ⟨b110, 0, none⟩, 1, 1⟩ : Sl).base (⟨some ⟨b110, 0, none⟩, 1, 1⟩ : Sl).len (⟨some ⟨b110, 0, none⟩, 1, 1⟩ : Sl).cap)]⟩ w_109 fun (r112 : ByteArray) (w_111 : World) =>
 S103 w_111 ∧
 (((((ByteArray.mk #[115, 112, 111, 105, 108, 32]) ++ r108) ++ (ByteArray.mk #[32]))).size : Int) + ((r112).size : Int) ≤ 9223372036854775807 ∧
 ((((((ByteArray.mk #[115, 112, 111, 105, 108, 32]) ++ r108) ++ (ByteArray.mk #[32])) ++ r112)).size : Int) + (((ByteArray.mk #[10])).size : Int) ≤ 9223372036854775807 ∧
 Cl Tryd.prog [kI, kV] n_strings_Builder_WriteString ⟨[(.pointer (some (⟨b32, 0, none⟩ : Addr))), (.string (((((ByteArray.mk #[115, 112, 111, 105, 108, 32]) ++ r108) ++ (ByteArray.mk #[32])) ++ r112) ++ (ByteArray.mk #[10])))]⟩ w_111 fun (r114 : Int) (r115 : Value) (w_113 : World) =>
 S103 w_113 ∧
 K_102  w_113) ∧
 (Nw 5 ⟨[(.int .u8 By106)]⟩ w_104 fun (b117 : Nat) (w_116 : World) =>
 S103 w_116 ∧
 Cl Tryd.prog [kStr] n_strconv_Itoa ⟨[(.int .i64 At105)]⟩ w_116 fun (r119 : ByteArray) (w_118 : World) =>
 S103 w_118 ∧
 (((ByteArray.mk #[115, 112, 111, 105, 108, 32])).size : Int) + ((r119).size : Int) ≤ 9223372036854775807 ∧
 ((((ByteArray.mk #[115, 112, 111, 105, 108, 32]) ++ r119)).size : Int) + (((ByteArray.mk #[32])).size : Int) ≤ 9223372036854775807 ∧
 Cl Tryd.prog [kStr] n_script_Hex ⟨[(.slice (⟨some ⟨b117, 0, none⟩, 1, 1⟩ : Sl).base (⟨some ⟨b117, 0, none⟩, 1, 1⟩ : Sl).len (⟨some ⟨b117, 0, none⟩, 1, 1⟩ : Sl).cap)]⟩ w_118 fun (r121 : ByteArray) (w_120 : World) =>
 S103 w_120 ∧
 (((((ByteArray.mk #[115, 112, 111, 105, 108, 32]) ++ r119) ++ (ByteArray.mk #[32]))).size : Int) + ((r121).size : Int) ≤ 9223372036854775807 ∧
 ((((((ByteArray.mk #[115, 112, 111, 105, 108, 32]) ++ r119) ++ (ByteArray.mk #[32])) ++ r121)).size : Int) + (((ByteArray.mk #[10])).size : Int) ≤ 9223372036854775807 ∧
 Cl Tryd.prog [kI, kV] n_strings_Builder_WriteString ⟨[(.pointer (some (⟨b32, 0, none⟩ : Addr))), (.string (((((ByteArray.mk #[115, 112, 111, 105, 108, 32]) ++ r119) ++ (ByteArray.mk #[32])) ++ r121) ++ (ByteArray.mk #[10])))]⟩ w_120 fun (r123 : Int) (r124 : Value) (w_122 : World) =>
 S103 w_122 ∧
 K_102  w_122))
 (Ld kI ((⟨b3, 0, none⟩ : Addr).add 4) w_96 fun (Drop126 : Int) =>
 Nw 3 ⟨[(.int .i64 Drop126)]⟩ w_96 fun (b128 : Nat) (w_127 : World) =>
 Cl Tryd.prog [kStr] n_script_row ⟨[(.string (ByteArray.mk #[100, 114, 111, 112])), (.slice (⟨some ⟨b128, 0, none⟩, 1, 1⟩ : Sl).base (⟨some ⟨b128, 0, none⟩, 1, 1⟩ : Sl).len (⟨some ⟨b128, 0, none⟩, 1, 1⟩ : Sl).cap)]⟩ w_127 fun (r130 : ByteArray) (w_129 : World) =>
 Cl Tryd.prog [kI, kV] n_strings_Builder_WriteString ⟨[(.pointer (some (⟨b32, 0, none⟩ : Addr))), (.string r130)]⟩ w_129 fun (r132 : Int) (r133 : Value) (w_131 : World) =>
 Join (fun (w_142 : World) =>
 Ld kI ((⟨b3, 0, none⟩ : Addr).add 6) w_142 fun (Room143 : Int) =>
 Nw 3 ⟨[(.int .i64 Room143)]⟩ w_142 fun (b145 : Nat) (w_144 : World) =>
 Cl Tryd.prog [kStr] n_script_row ⟨[(.string (ByteArray.mk #[114, 111, 111, 109])), (.slice (⟨some ⟨b145, 0, none⟩, 1, 1⟩ : Sl).base (⟨some ⟨b145, 0, none⟩, 1, 1⟩ : Sl).len (⟨some ⟨b145, 0, none⟩, 1, 1⟩ : Sl).cap)]⟩ w_144 fun (r147 : ByteArray) (w_146 : World) =>
 Cl Tryd.prog [kI, kV] n_strings_Builder_WriteString ⟨[(.pointer (some (⟨b32, 0, none⟩ : Addr))), (.string r147)]⟩ w_146 fun (r149 : Int) (r150 : Value) (w_148 : World) =>
 Join (fun (w_159 : World) =>
 Join (fun (w_168 : World) =>
 R ((ByteArray.mk #[])) (2) w_168) fun (K_160 : World → Prop) =>
 Cl Tryd.prog [kStr] n_strings_Builder_String ⟨[(.pointer (some (⟨b32, 0, none⟩ : Addr)))]⟩ w_159 fun (r162 : ByteArray) (w_161 : World) =>
 Join (fun (t123_166 : Bool) (w_167 : World) =>
 IfB t123_166
 (R (r162) (0) w_167)
 (K_160  w_167)) fun (K_163 : Bool → World → Prop) =>
 IfB (decide ((((r162).size : Int) : Int) ≤ (65536 : Int)))
 (Cl Tryd.prog [kI] n_script_many ⟨[(.string r162)]⟩ w_161 fun (r165 : Int) (w_164 : World) =>
 K_163 ((decide ((r165 : Int) ≤ (1000 : Int)))) w_164)
 (K_163 (false) w_161)) fun (K_151 : World → Prop) =>
 Ld kS ((⟨b3, 0, none⟩ : Addr).add 7) w_148 fun (Cuts152 : Sl) =>
 IfB (decide (((Cuts152.len : Int) : Int) > (0 : Int)))
 (Ld kS ((⟨b3, 0, none⟩ : Addr).add 7) w_148 fun (Cuts153 : Sl) =>
 Cl Tryd.prog [kStr] n_script_row ⟨[(.string (ByteArray.mk #[99, 117, 116, 115])), (.slice Cuts153.base Cuts153.len Cuts153.cap)]⟩ w_148 fun (r155 : ByteArray) (w_154 : World) =>
 Cl Tryd.prog [kI, kV] n_strings_Builder_WriteString ⟨[(.pointer (some (⟨b32, 0, none⟩ : Addr))), (.string r155)]⟩ w_154 fun (r157 : Int) (r158 : Value) (w_156 : World) =>
 K_151  w_156)
 (K_151  w_148)) fun (K_134 : World → Prop) =>
 Ld kS ((⟨b3, 0, none⟩ : Addr).add 5) w_131 fun (Behind135 : Sl) =>
 IfB (decide (((Behind135.len : Int) : Int) > (0 : Int)))
 (Ld kS ((⟨b3, 0, none⟩ : Addr).add 5) w_131 fun (Behind136 : Sl) =>
 Cl Tryd.prog [kStr] n_script_Hex ⟨[(.slice Behind136.base Behind136.len Behind136.cap)]⟩ w_131 fun (r138 : ByteArray) (w_137 : World) =>
 (((ByteArray.mk #[98, 101, 104, 105, 110, 100, 32])).size : Int) + ((r138).size : Int) ≤ 9223372036854775807 ∧
 ((((ByteArray.mk #[98, 101, 104, 105, 110, 100, 32]) ++ r138)).size : Int) + (((ByteArray.mk #[10])).size : Int) ≤ 9223372036854775807 ∧
 Cl Tryd.prog [kI, kV] n_strings_Builder_WriteString ⟨[(.pointer (some (⟨b32, 0, none⟩ : Addr))), (.string (((ByteArray.mk #[98, 101, 104, 105, 110, 100, 32]) ++ r138) ++ (ByteArray.mk #[10])))]⟩ w_137 fun (r140 : Int) (r141 : Value) (w_139 : World) =>
 K_134  w_139)
 (K_134  w_131)))) fun (K_33 : World → Prop) =>
 Held w_31 fun (S34 : World → Prop) (w_35 : World) =>
 LdS kI ((⟨b3, 0, none⟩ : Addr).add 0) S34 fun (Size36 : Int) =>
 LdS kI ((⟨b3, 0, none⟩ : Addr).add 1) S34 fun (Budget37 : Int) =>
 (Nw 3 ⟨[(.int .i64 Size36)]⟩ w_35 fun (b39 : Nat) (w_38 : World) =>
 S34 w_38 ∧
 (Cl Tryd.prog [kStr] n_script_row ⟨[(.string (ByteArray.mk #[115, 105, 122, 101])), (.slice (⟨some ⟨b39, 0, none⟩, 1, 1⟩ : Sl).base (⟨some ⟨b39, 0, none⟩, 1, 1⟩ : Sl).len (⟨some ⟨b39, 0, none⟩, 1, 1⟩ : Sl).cap)]⟩ w_38 fun (r41 : ByteArray) (w_40 : World) =>
 S34 w_40 ∧
 Nw 3 ⟨[(.int .i64 Budget37)]⟩ w_40 fun (b43 : Nat) (w_42 : World) =>
 S34 w_42 ∧
 Cl Tryd.prog [kStr] n_script_row ⟨[(.string (ByteArray.mk #[98, 117, 100, 103, 101, 116])), (.slice (⟨some ⟨b43, 0, none⟩, 1, 1⟩ : Sl).base (⟨some ⟨b43, 0, none⟩, 1, 1⟩ : Sl).len (⟨some ⟨b43, 0, none⟩, 1, 1⟩ : Sl).cap)]⟩ w_42 fun (r45 : ByteArray) (w_44 : World) =>
 S34 w_44 ∧
 ((r41).size : Int) + ((r45).size : Int) ≤ 9223372036854775807 ∧
 Cl Tryd.prog [kI, kV] n_strings_Builder_WriteString ⟨[(.pointer (some (⟨b32, 0, none⟩ : Addr))), (.string (r41 ++ r45))]⟩ w_44 fun (r47 : Int) (r48 : Value) (w_46 : World) =>
 S34 w_46 ∧
 K_33  w_46) ∧
 (Nw 3 ⟨[(.int .i64 Budget37)]⟩ w_38 fun (b50 : Nat) (w_49 : World) =>
 S34 w_49 ∧
 Cl Tryd.prog [kStr] n_script_row ⟨[(.string (ByteArray.mk #[115, 105, 122, 101])), (.slice (⟨some ⟨b39, 0, none⟩, 1, 1⟩ : Sl).base (⟨some ⟨b39, 0, none⟩, 1, 1⟩ : Sl).len (⟨some ⟨b39, 0, none⟩, 1, 1⟩ : Sl).cap)]⟩ w_49 fun (r52 : ByteArray) (w_51 : World) =>
 S34 w_51 ∧
 Cl Tryd.prog [kStr] n_script_row ⟨[(.string (ByteArray.mk #[98, 117, 100, 103, 101, 116])), (.slice (⟨some ⟨b50, 0, none⟩, 1, 1⟩ : Sl).base (⟨some ⟨b50, 0, none⟩, 1, 1⟩ : Sl).len (⟨some ⟨b50, 0, none⟩, 1, 1⟩ : Sl).cap)]⟩ w_51 fun (r54 : ByteArray) (w_53 : World) =>
 S34 w_53 ∧
 ((r52).size : Int) + ((r54).size : Int) ≤ 9223372036854775807 ∧
 Cl Tryd.prog [kI, kV] n_strings_Builder_WriteString ⟨[(.pointer (some (⟨b32, 0, none⟩ : Addr))), (.string (r52 ++ r54))]⟩ w_53 fun (r56 : Int) (r57 : Value) (w_55 : World) =>
 S34 w_55 ∧
 K_33  w_55)) ∧
 (Nw 3 ⟨[(.int .i64 Budget37)]⟩ w_35 fun (b59 : Nat) (w_58 : World) =>
 S34 w_58 ∧
 Nw 3 ⟨[(.int .i64 Size36)]⟩ w_58 fun (b61 : Nat) (w_60 : World) =>
 S34 w_60 ∧
 Cl Tryd.prog [kStr] n_script_row ⟨[(.string (ByteArray.mk #[115, 105, 122, 101])), (.slice (⟨some ⟨b61, 0, none⟩, 1, 1⟩ : Sl).base (⟨some ⟨b61, 0, none⟩, 1, 1⟩ : Sl).len (⟨some ⟨b61, 0, none⟩, 1, 1⟩ : Sl).cap)]⟩ w_60 fun (r63 : ByteArray) (w_62 : World) =>
 S34 w_62 ∧
 Cl Tryd.prog [kStr] n_script_row ⟨[(.string (ByteArray.mk #[98, 117, 100, 103, 101, 116])), (.slice (⟨some ⟨b59, 0, none⟩, 1, 1⟩ : Sl).base (⟨some ⟨b59, 0, none⟩, 1, 1⟩ : Sl).len (⟨some ⟨b59, 0, none⟩, 1, 1⟩ : Sl).cap)]⟩ w_62 fun (r65 : ByteArray) (w_64 : World) =>
 S34 w_64 ∧
 ((r63).size : Int) + ((r65).size : Int) ≤ 9223372036854775807 ∧
 Cl Tryd.prog [kI, kV] n_strings_Builder_WriteString ⟨[(.pointer (some (⟨b32, 0, none⟩ : Addr))), (.string (r63 ++ r65))]⟩ w_64 fun (r67 : Int) (r68 : Value) (w_66 : World) =>
 S34 w_66 ∧
 K_33  w_66)))
set_option maxRecDepth 100000 in
theorem script_Print.ok (s1 : (TT [.int .i64, .int .i64, .sl, .sl, .int .i64, .sl, .int .i64, .sl])) (R : ByteArray → Int → World → Prop) (w : World) (h : script_Print.E s1 R w) : Cl Tryd.prog [kStr, kI] n_script_Print ⟨[(.agg ⟨[(.int .i64 s1.1), (.int .i64 s1.2.1), (.slice s1.2.2.1.base s1.2.2.1.len s1.2.2.1.cap), (.slice s1.2.2.2.1.base s1.2.2.2.1.len s1.2.2.2.1.cap), (.int .i64 s1.2.2.2.2.1), (.slice s1.2.2.2.2.2.1.base s1.2.2.2.2.2.1.len s1.2.2.2.2.2.1.cap), (.int .i64 s1.2.2.2.2.2.2.1), (.slice s1.2.2.2.2.2.2.2.1.base s1.2.2.2.2.2.2.2.1.len s1.2.2.2.2.2.2.2.1.cap)]⟩)]⟩ w R :=
  calls_of_eq Tryd.mix Tryd.f14 [(.agg ⟨[(.int .i64 s1.1), (.int .i64 s1.2.1), (.slice s1.2.2.1.base s1.2.2.1.len s1.2.2.1.cap), (.slice s1.2.2.2.1.base s1.2.2.2.1.len s1.2.2.2.1.cap), (.int .i64 s1.2.2.2.2.1), (.slice s1.2.2.2.2.2.1.base s1.2.2.2.2.2.1.len s1.2.2.2.2.2.1.cap), (.int .i64 s1.2.2.2.2.2.2.1), (.slice s1.2.2.2.2.2.2.2.1.base s1.2.2.2.2.2.2.2.1.len s1.2.2.2.2.2.2.2.1.cap)]⟩)] [kStr, kI] R 125 [.tmp 2, .tmp 3] (by kernel_rfl) (by kernel_rfl) (by kernel_rfl) (by kernel_rfl) (by kernel_rfl)
    (.s .o (.s .o (.s (.s .o (.b (.l [(4, kS), (28, kI)] (.s .o (.s (.c .o .o) (.s (.b (.s .o .o)) .o)))))) (.s (.s .o (.c (.s .o .o) .o)) (.s .o (.s .o (.s (.s .o (.b (.l [(53, kI)] (.s .o (.s (.c .o .o) (.j [] (.b (.s .o (.s .o (.c .o .o)))) .o)))))) (.s (.s .o (.b (.l [(70, kI)] (.s .o (.s (.c .o .o) (.s (.b (.s .o .o)) .o)))))) (.s .o (.j [] (.s .o (.c .o .o)) (.s .o (.j [] (.s .o (.c .o .o)) (.j [] (.s .o (.j [(123, kB)] .o (.c (.s .o .o) .o))) (.s .o .o))))))))))))))
    (by kernel_rfl) h
set_option maxRecDepth 100000 in
/-- script.Equal -/
def script_Equal.E (a1 : (TT [.int .i64, .int .i64, .sl, .sl, .int .i64, .sl, .int .i64, .sl])) (b2 : (TT [.int .i64, .int .i64, .sl, .sl, .int .i64, .sl, .int .i64, .sl])) (R : Bool → World → Prop) (w : World) : Prop :=
 Nw 27 ⟨[(.int .i64 a1.1), (.int .i64 a1.2.1), (.slice a1.2.2.1.base a1.2.2.1.len a1.2.2.1.cap), (.slice a1.2.2.2.1.base a1.2.2.2.1.len a1.2.2.2.1.cap), (.int .i64 a1.2.2.2.2.1), (.slice a1.2.2.2.2.2.1.base a1.2.2.2.2.2.1.len a1.2.2.2.2.2.1.cap), (.int .i64 a1.2.2.2.2.2.2.1), (.slice a1.2.2.2.2.2.2.2.1.base a1.2.2.2.2.2.2.2.1.len a1.2.2.2.2.2.2.2.1.cap)]⟩ w fun (b4 : Nat) (w_3 : World) =>
 Nw 27 ⟨[(.int .i64 b2.1), (.int .i64 b2.2.1), (.slice b2.2.2.1.base b2.2.2.1.len b2.2.2.1.cap), (.slice b2.2.2.2.1.base b2.2.2.2.1.len b2.2.2.2.1.cap), (.int .i64 b2.2.2.2.2.1), (.slice b2.2.2.2.2.2.1.base b2.2.2.2.2.2.1.len b2.2.2.2.2.2.1.cap), (.int .i64 b2.2.2.2.2.2.2.1), (.slice b2.2.2.2.2.2.2.2.1.base b2.2.2.2.2.2.2.2.1.len b2.2.2.2.2.2.2.2.1.cap)]⟩ w_3 fun (b6 : Nat) (w_5 : World) =>
 Ld kS ((⟨b4, 0, none⟩ : Addr).add 2) w_5 fun (Deeds7 : Sl) =>
 Ld kS ((⟨b6, 0, none⟩ : Addr).add 2) w_5 fun (Deeds8 : Sl) =>
 Cl Tryd.prog [kB] n_slices_EqualFunc_api_Op_api_Op_api_Op_api_Op ⟨[(.slice Deeds7.base Deeds7.len Deeds7.cap), (.slice Deeds8.base Deeds8.len Deeds8.cap), (.func (.func 33) ⟨[]⟩ ⟨[]⟩)]⟩ w_5 fun (r10 : Bool) (w_9 : World) =>
 Join (fun (lists24 : Bool) (w_25 : World) =>
 IfB r10
 (IfB lists24
 (Ld kI ((⟨b4, 0, none⟩ : Addr).add 0) w_25 fun (Size26 : Int) =>
 Ld kI ((⟨b6, 0, none⟩ : Addr).add 0) w_25 fun (Size27 : Int) =>
 IfB ((Size26 : Int) == (Size27 : Int))
 (Ld kI ((⟨b4, 0, none⟩ : Addr).add 1) w_25 fun (Budget28 : Int) =>
 Ld kI ((⟨b6, 0, none⟩ : Addr).add 1) w_25 fun (Budget29 : Int) =>
 IfB ((Budget28 : Int) == (Budget29 : Int))
 (Ld kI ((⟨b4, 0, none⟩ : Addr).add 4) w_25 fun (Drop30 : Int) =>
 Ld kI ((⟨b6, 0, none⟩ : Addr).add 4) w_25 fun (Drop31 : Int) =>
 IfB ((Drop30 : Int) == (Drop31 : Int))
 (Ld kI ((⟨b4, 0, none⟩ : Addr).add 6) w_25 fun (Room32 : Int) =>
 Ld kI ((⟨b6, 0, none⟩ : Addr).add 6) w_25 fun (Room33 : Int) =>
 R (((Room32 : Int) == (Room33 : Int))) w_25)
 (R (false) w_25))
 (R (false) w_25))
 (R (false) w_25))
 (R (false) w_25))
 (R (false) w_25)) fun (K_11 : Bool → World → Prop) =>
 Ld kS ((⟨b4, 0, none⟩ : Addr).add 3) w_9 fun (Spoils12 : Sl) =>
 Ld kS ((⟨b6, 0, none⟩ : Addr).add 3) w_9 fun (Spoils13 : Sl) =>
 Cl Tryd.prog [kB] n_slices_Equal_api_Patch_api_Patch ⟨[(.slice Spoils12.base Spoils12.len Spoils12.cap), (.slice Spoils13.base Spoils13.len Spoils13.cap)]⟩ w_9 fun (r15 : Bool) (w_14 : World) =>
 IfB r15
 (Ld kS ((⟨b4, 0, none⟩ : Addr).add 5) w_14 fun (Behind16 : Sl) =>
 Ld kS ((⟨b6, 0, none⟩ : Addr).add 5) w_14 fun (Behind17 : Sl) =>
 Cl Tryd.prog [kB] n_bytes_Equal ⟨[(.slice Behind16.base Behind16.len Behind16.cap), (.slice Behind17.base Behind17.len Behind17.cap)]⟩ w_14 fun (r19 : Bool) (w_18 : World) =>
 IfB r19
 (Ld kS ((⟨b4, 0, none⟩ : Addr).add 7) w_18 fun (Cuts20 : Sl) =>
 Ld kS ((⟨b6, 0, none⟩ : Addr).add 7) w_18 fun (Cuts21 : Sl) =>
 Cl Tryd.prog [kB] n_slices_Equal_int_int ⟨[(.slice Cuts20.base Cuts20.len Cuts20.cap), (.slice Cuts21.base Cuts21.len Cuts21.cap)]⟩ w_18 fun (r23 : Bool) (w_22 : World) =>
 K_11 (r23) w_22)
 (K_11 (false) w_18))
 (K_11 (false) w_14)
set_option maxRecDepth 100000 in
theorem script_Equal.ok (a1 : (TT [.int .i64, .int .i64, .sl, .sl, .int .i64, .sl, .int .i64, .sl])) (b2 : (TT [.int .i64, .int .i64, .sl, .sl, .int .i64, .sl, .int .i64, .sl])) (R : Bool → World → Prop) (w : World) (h : script_Equal.E a1 b2 R w) : Cl Tryd.prog [kB] n_script_Equal ⟨[(.agg ⟨[(.int .i64 a1.1), (.int .i64 a1.2.1), (.slice a1.2.2.1.base a1.2.2.1.len a1.2.2.1.cap), (.slice a1.2.2.2.1.base a1.2.2.2.1.len a1.2.2.2.1.cap), (.int .i64 a1.2.2.2.2.1), (.slice a1.2.2.2.2.2.1.base a1.2.2.2.2.2.1.len a1.2.2.2.2.2.1.cap), (.int .i64 a1.2.2.2.2.2.2.1), (.slice a1.2.2.2.2.2.2.2.1.base a1.2.2.2.2.2.2.2.1.len a1.2.2.2.2.2.2.2.1.cap)]⟩), (.agg ⟨[(.int .i64 b2.1), (.int .i64 b2.2.1), (.slice b2.2.2.1.base b2.2.2.1.len b2.2.2.1.cap), (.slice b2.2.2.2.1.base b2.2.2.2.1.len b2.2.2.2.1.cap), (.int .i64 b2.2.2.2.2.1), (.slice b2.2.2.2.2.2.1.base b2.2.2.2.2.2.1.len b2.2.2.2.2.2.1.cap), (.int .i64 b2.2.2.2.2.2.2.1), (.slice b2.2.2.2.2.2.2.2.1.base b2.2.2.2.2.2.2.2.1.len b2.2.2.2.2.2.2.2.1.cap)]⟩)]⟩ w R :=
  calls_of_eq Tryd.mix Tryd.f16 [(.agg ⟨[(.int .i64 a1.1), (.int .i64 a1.2.1), (.slice a1.2.2.1.base a1.2.2.1.len a1.2.2.1.cap), (.slice a1.2.2.2.1.base a1.2.2.2.1.len a1.2.2.2.1.cap), (.int .i64 a1.2.2.2.2.1), (.slice a1.2.2.2.2.2.1.base a1.2.2.2.2.2.1.len a1.2.2.2.2.2.1.cap), (.int .i64 a1.2.2.2.2.2.2.1), (.slice a1.2.2.2.2.2.2.2.1.base a1.2.2.2.2.2.2.2.1.len a1.2.2.2.2.2.2.2.1.cap)]⟩), (.agg ⟨[(.int .i64 b2.1), (.int .i64 b2.2.1), (.slice b2.2.2.1.base b2.2.2.1.len b2.2.2.1.cap), (.slice b2.2.2.2.1.base b2.2.2.2.1.len b2.2.2.2.1.cap), (.int .i64 b2.2.2.2.2.1), (.slice b2.2.2.2.2.2.1.base b2.2.2.2.2.2.1.len b2.2.2.2.2.2.1.cap), (.int .i64 b2.2.2.2.2.2.2.1), (.slice b2.2.2.2.2.2.2.2.1.base b2.2.2.2.2.2.2.2.1.len b2.2.2.2.2.2.2.2.1.cap)]⟩)] [kB] R 63 [.tmp 4] (by kernel_rfl) (by kernel_rfl) (by kernel_rfl) (by kernel_rfl) (by kernel_rfl)
    (.s .o (.s .o (.j [(6, kB)] .o (.s .o .o))))
    (by kernel_rfl) h
/-- script.many -/
def script_many.E (text1 : ByteArray) (R : Int → World → Prop) (w : World) : Prop :=
 Nw 3 ⟨[(.int .i64 0)]⟩ w fun (b3 : Nat) (w_2 : World) =>
 Cl Tryd.prog [kV] n_script_lines ⟨[(.string text1)]⟩ w_2 fun (r5 : Value) (w_4 : World) =>
 Rng Tryd.prog r5 [kI, kStr] w_4 (fun (l6 : Nat) (rec_7 : Nat → Obj) (y11 : Int) (y12 : ByteArray) (w_8 : World) (Kt9 Kf10 : World → Prop) =>
 St (⟨b3, 0, none⟩ : Addr) (.int .i64 y11) w_8 fun (w_13 : World) =>
 Beg l6 rec_7 w_13 fun (w_14 : World) =>
 EndT l6 rec_7 w_14 Kt9)
 (fun (D15 : Nat) (w_16 : World) =>
 Ld kI (⟨b3, 0, none⟩ : Addr) w_16 fun (x17 : Int) =>
 St (⟨b3, 0, none⟩ : Addr) (.int .i64 x17) w_16 fun (w_18 : World) =>
 Dfr (D15 :: [] : List Nat) w_18 fun (w_19 : World) =>
 Ld kI (⟨b3, 0, none⟩ : Addr) w_19 fun (res20 : Int) =>
 R (res20) w_19)
 (fun (D21 : Nat) (w_22 : World) =>
 Dfr (D21 :: [] : List Nat) w_22 fun (w_23 : World) =>
 Ld kI (⟨b3, 0, none⟩ : Addr) w_23 fun (res24 : Int) =>
 R (res24) w_23)
theorem script_many.ok (text1 : ByteArray) (R : Int → World → Prop) (w : World) (h : script_many.E text1 R w) : Cl Tryd.prog [kI] n_script_many ⟨[(.string text1)]⟩ w R :=
  calls_of_eqR Tryd.mix Tryd.f19 [(.string text1)] [kI] R 8 [.cell 2 3] (by kernel_rfl) (by kernel_rfl) (by kernel_rfl) (by kernel_rfl) (by kernel_rfl)
    (.s .o (.s (.s .o (.b (.r [kI, kStr] .o (.b .o)))) (.s .o .o)))
    (by kernel_rfl) h
/-- script.lines -/
def script_lines.E (text1 : ByteArray) (R : Value → World → Prop) (w : World) : Prop :=
 Nw 9 ⟨[(.string text1)]⟩ w fun (b3 : Nat) (w_2 : World) =>
 R ((.func (.func 38) ⟨[]⟩ ⟨[(.pointer (some (⟨b3, 0, none⟩ : Addr)))]⟩)) w_2
theorem script_lines.ok (text1 : ByteArray) (R : Value → World → Prop) (w : World) (h : script_lines.E text1 R w) : Cl Tryd.prog [kV] n_script_lines ⟨[(.string text1)]⟩ w R :=
  calls_of_eq Tryd.mix Tryd.f20 [(.string text1)] [kV] R 4 [.tmp 2] (by kernel_rfl) (by kernel_rfl) (by kernel_rfl) (by kernel_rfl) (by kernel_rfl)
    (.s .o (.s .o .o))
    (by kernel_rfl) h
set_option maxRecDepth 100000 in
/-- script.says -/
def script_says.E (s1 : (Option Addr)) (l2 : ByteArray) (R : Bool → World → Prop) (w : World) : Prop :=
 Cl Tryd.prog [kS] n_script_words ⟨[(.string l2)]⟩ w fun (r4 : Sl) (w_3 : World) =>
 Join (fun (w_8 : World) =>
 Drw w_8 fun (w_14 : World) =>
 Idx r4 0 1 fun (q15 : Addr) =>
 Ld kStr q15 w_14 fun (x16 : ByteArray) =>
 Slc r4 1 (r4).len (r4).cap 1 fun (s17 : Sl) =>
 Join (fun (numbers90 : (Option Nat)) (w_91 : World) =>
 RunR Tryd.prog (Instr.lookup 81 (.map numbers90) (.string x16) true) [kP, kB] w_91 fun (e93 : (Option Addr)) (e94 : Bool) (w_92 : World) =>
 IfB e94
 (IfB (((s17.len : Int) : Int) == (1 : Int))
 (Idx s17 0 1 fun (q95 : Addr) =>
 Ld kStr q95 w_92 fun (x96 : ByteArray) =>
 Cl Tryd.prog [kB] n_script_number ⟨[(.string x96), (.pointer e93)]⟩ w_92 fun (r98 : Bool) (w_97 : World) =>
 R (r98) w_97)
 (R (false) w_92))
 (Join (fun (t63_100 : Bool) (w_101 : World) =>
 IfB t63_100
 (NilCk s1 fun (p102 : Addr) =>
 Ld kS (p102.add 2) w_101 fun (Deeds103 : Sl) =>
 Nw 40 ⟨[(.bool true), (.slice none 0 0)]⟩ w_101 fun (b105 : Nat) (w_104 : World) =>
 Run Tryd.prog (Builtin.append_ #[22, 22] 22 ⟨[(.slice Deeds103.base Deeds103.len Deeds103.cap), (.slice (⟨some ⟨b105, 0, none⟩, 1, 1⟩ : Sl).base (⟨some ⟨b105, 0, none⟩, 1, 1⟩ : Sl).len (⟨some ⟨b105, 0, none⟩, 1, 1⟩ : Sl).cap)]⟩) kS w_104 fun (s107 : Sl) (w_106 : World) =>
 NilCk s1 fun (p108 : Addr) =>
 St (p108.add 2) (.slice s107.base s107.len s107.cap) w_106 fun (w_109 : World) =>
 R (true) w_109)
 (IfB ((x16).toList == ((ByteArray.mk #[99, 117, 116, 115])).toList)
 (Cl Tryd.prog [kB] n_script_cuts ⟨[(.pointer s1), (.slice s17.base s17.len s17.cap)]⟩ w_101 fun (r111 : Bool) (w_110 : World) =>
 R (r111) w_110)
 (Join (fun (t87_113 : Bool) (w_114 : World) =>
 IfB t87_113
 (Nw 47 ⟨[(.int .i64 0), (.int .u8 0)]⟩ w_114 fun (b116 : Nat) (w_115 : World) =>
 Idx s17 1 1 fun (q117 : Addr) =>
 Ld kStr q117 w_115 fun (x118 : ByteArray) =>
 Cl Tryd.prog [kS, kB] n_script_unhex ⟨[(.string x118)]⟩ w_115 fun (r120 : Sl) (r121 : Bool) (w_119 : World) =>
 IfB (!r121)
 (R (false) w_119)
 (IfB (((r120.len : Int) : Int) != (1 : Int))
 (R (false) w_119)
 (Idx s17 0 1 fun (q122 : Addr) =>
 Ld kStr q122 w_119 fun (x123 : ByteArray) =>
 Cl Tryd.prog [kB] n_script_number ⟨[(.string x123), (.pointer (some ((⟨b116, 0, none⟩ : Addr).add 0)))]⟩ w_119 fun (r125 : Bool) (w_124 : World) =>
 IfB (!r125)
 (R (false) w_124)
 (Idx r120 0 1 fun (q126 : Addr) =>
 Ld (kInt .u8) q126 w_124 fun (x127 : Int) =>
 St ((⟨b116, 0, none⟩ : Addr).add 1) (.int .u8 x127) w_124 fun (w_128 : World) =>
 Join (fun (w_147 : World) =>
 R (true) w_147) fun (K_129 : World → Prop) =>
 Drw w_128 fun (w_130 : World) =>
 NilCk s1 fun (p131 : Addr) =>
 Ld (.st [.int .i64, .int .u8]) (⟨b116, 0, none⟩ : Addr) w_130 fun (x132 : (TT [.int .i64, .int .u8])) =>
 (Ld kS (p131.add 3) w_130 fun (Spoils133 : Sl) =>
 Nw 47 ⟨[(.int .i64 x132.1), (.int .u8 x132.2.1)]⟩ w_130 fun (b135 : Nat) (w_134 : World) =>
 Run Tryd.prog (Builtin.append_ #[23, 23] 23 ⟨[(.slice Spoils133.base Spoils133.len Spoils133.cap), (.slice (⟨some ⟨b135, 0, none⟩, 1, 1⟩ : Sl).base (⟨some ⟨b135, 0, none⟩, 1, 1⟩ : Sl).len (⟨some ⟨b135, 0, none⟩, 1, 1⟩ : Sl).cap)]⟩) kS w_134 fun (s137 : Sl) (w_136 : World) =>
 NilCk s1 fun (p138 : Addr) =>
 St (p138.add 3) (.slice s137.base s137.len s137.cap) w_136 fun (w_139 : World) =>
 K_129  w_139) ∧
 (Nw 47 ⟨[(.int .i64 x132.1), (.int .u8 x132.2.1)]⟩ w_130 fun (b141 : Nat) (w_140 : World) =>
 Ld kS (p131.add 3) w_140 fun (Spoils142 : Sl) =>
 Run Tryd.prog (Builtin.append_ #[23, 23] 23 ⟨[(.slice Spoils142.base Spoils142.len Spoils142.cap), (.slice (⟨some ⟨b141, 0, none⟩, 1, 1⟩ : Sl).base (⟨some ⟨b141, 0, none⟩, 1, 1⟩ : Sl).len (⟨some ⟨b141, 0, none⟩, 1, 1⟩ : Sl).cap)]⟩) kS w_140 fun (s144 : Sl) (w_143 : World) =>
 NilCk s1 fun (p145 : Addr) =>
 St (p145.add 3) (.slice s144.base s144.len s144.cap) w_143 fun (w_146 : World) =>
 K_129  w_146)))))
 (Join (fun (t131_149 : Bool) (w_150 : World) =>
 IfB t131_149
 (Idx s17 0 1 fun (q151 : Addr) =>
 Ld kStr q151 w_150 fun (x152 : ByteArray) =>
 Cl Tryd.prog [kS, kB] n_script_unhex ⟨[(.string x152)]⟩ w_150 fun (r154 : Sl) (r155 : Bool) (w_153 : World) =>
 IfB ((x16).toList == ((ByteArray.mk #[119, 114, 105, 116, 101])).toList)
 (NilCk s1 fun (p156 : Addr) =>
 Ld kS (p156.add 2) w_153 fun (Deeds157 : Sl) =>
 Nw 40 ⟨[(.bool false), (.slice r154.base r154.len r154.cap)]⟩ w_153 fun (b159 : Nat) (w_158 : World) =>
 Run Tryd.prog (Builtin.append_ #[22, 22] 22 ⟨[(.slice Deeds157.base Deeds157.len Deeds157.cap), (.slice (⟨some ⟨b159, 0, none⟩, 1, 1⟩ : Sl).base (⟨some ⟨b159, 0, none⟩, 1, 1⟩ : Sl).len (⟨some ⟨b159, 0, none⟩, 1, 1⟩ : Sl).cap)]⟩) kS w_158 fun (s161 : Sl) (w_160 : World) =>
 NilCk s1 fun (p162 : Addr) =>
 St (p162.add 2) (.slice s161.base s161.len s161.cap) w_160 fun (w_163 : World) =>
 R (r155) w_163)
 (NilCk s1 fun (p164 : Addr) =>
 Ld kS (p164.add 5) w_153 fun (Behind165 : Sl) =>
 Run Tryd.prog (Builtin.append_ #[24, 24] 24 ⟨[(.slice Behind165.base Behind165.len Behind165.cap), (.slice r154.base r154.len r154.cap)]⟩) kS w_153 fun (s167 : Sl) (w_166 : World) =>
 NilCk s1 fun (p168 : Addr) =>
 St (p168.add 5) (.slice s167.base s167.len s167.cap) w_166 fun (w_169 : World) =>
 R (r155) w_169))
 (R (false) w_150)) fun (K_148 : Bool → World → Prop) =>
 IfB ((x16).toList == ((ByteArray.mk #[119, 114, 105, 116, 101])).toList)
 (K_148 ((((s17.len : Int) : Int) == (1 : Int))) w_114)
 (IfB ((x16).toList == ((ByteArray.mk #[98, 101, 104, 105, 110, 100])).toList)
 (K_148 ((((s17.len : Int) : Int) == (1 : Int))) w_114)
 (K_148 (false) w_114)))) fun (K_112 : Bool → World → Prop) =>
 IfB ((x16).toList == ((ByteArray.mk #[115, 112, 111, 105, 108])).toList)
 (K_112 ((((s17.len : Int) : Int) == (2 : Int))) w_101)
 (K_112 (false) w_101)))) fun (K_99 : Bool → World → Prop) =>
 IfB ((x16).toList == ((ByteArray.mk #[102, 108, 117, 115, 104])).toList)
 (K_99 ((((s17.len : Int) : Int) == (0 : Int))) w_92)
 (K_99 (false) w_92))) fun (K_18 : (Option Nat) → World → Prop) =>
 Drw w_14 fun (w_19 : World) =>
 NilCk s1 fun (p20 : Addr) =>
 NilCk s1 fun (p21 : Addr) =>
 NilCk s1 fun (p22 : Addr) =>
 NilCk s1 fun (p23 : Addr) =>
 Run Tryd.prog (Instr.makeMap 81 none) kM w_19 fun (m_25 : Option Nat) (w_24 : World) =>
 (Run Tryd.prog (do Instr.mapUpdate 81 (.map m_25) (.string (ByteArray.mk #[115, 105, 122, 101])) (.pointer (some (p20.add 0))); pure undef) kV w_24 fun (_ : Value) (w_26 : World) =>
 (Run Tryd.prog (do Instr.mapUpdate 81 (.map m_25) (.string (ByteArray.mk #[98, 117, 100, 103, 101, 116])) (.pointer (some (p21.add 1))); pure undef) kV w_26 fun (_ : Value) (w_27 : World) =>
 (Run Tryd.prog (do Instr.mapUpdate 81 (.map m_25) (.string (ByteArray.mk #[114, 111, 111, 109])) (.pointer (some (p22.add 6))); pure undef) kV w_27 fun (_ : Value) (w_28 : World) =>
 Run Tryd.prog (do Instr.mapUpdate 81 (.map m_25) (.string (ByteArray.mk #[100, 114, 111, 112])) (.pointer (some (p23.add 4))); pure undef) kV w_28 fun (_ : Value) (w_29 : World) =>
 K_18 (m_25) w_29) ∧
 (Run Tryd.prog (do Instr.mapUpdate 81 (.map m_25) (.string (ByteArray.mk #[100, 114, 111, 112])) (.pointer (some (p23.add 4))); pure undef) kV w_27 fun (_ : Value) (w_30 : World) =>
 Run Tryd.prog (do Instr.mapUpdate 81 (.map m_25) (.string (ByteArray.mk #[114, 111, 111, 109])) (.pointer (some (p22.add 6))); pure undef) kV w_30 fun (_ : Value) (w_31 : World) =>
 K_18 (m_25) w_31)) ∧
 (Run Tryd.prog (do Instr.mapUpdate 81 (.map m_25) (.string (ByteArray.mk #[114, 111, 111, 109])) (.pointer (some (p22.add 6))); pure undef) kV w_26 fun (_ : Value) (w_32 : World) =>
 (Run Tryd.prog (do Instr.mapUpdate 81 (.map m_25) (.string (ByteArray.mk #[98, 117, 100, 103, 101, 116])) (.pointer (some (p21.add 1))); pure undef) kV w_32 fun (_ : Value) (w_33 : World) =>
 Run Tryd.prog (do Instr.mapUpdate 81 (.map m_25) (.string (ByteArray.mk #[100, 114, 111, 112])) (.pointer (some (p23.add 4))); pure undef) kV w_33 fun (_ : Value) (w_34 : World) =>
 K_18 (m_25) w_34) ∧
 (Run Tryd.prog (do Instr.mapUpdate 81 (.map m_25) (.string (ByteArray.mk #[100, 114, 111, 112])) (.pointer (some (p23.add 4))); pure undef) kV w_32 fun (_ : Value) (w_35 : World) =>
 Run Tryd.prog (do Instr.mapUpdate 81 (.map m_25) (.string (ByteArray.mk #[98, 117, 100, 103, 101, 116])) (.pointer (some (p21.add 1))); pure undef) kV w_35 fun (_ : Value) (w_36 : World) =>
 K_18 (m_25) w_36)) ∧
 (Run Tryd.prog (do Instr.mapUpdate 81 (.map m_25) (.string (ByteArray.mk #[100, 114, 111, 112])) (.pointer (some (p23.add 4))); pure undef) kV w_26 fun (_ : Value) (w_37 : World) =>
 (Run Tryd.prog (do Instr.mapUpdate 81 (.map m_25) (.string (ByteArray.mk #[98, 117, 100, 103, 101, 116])) (.pointer (some (p21.add 1))); pure undef) kV w_37 fun (_ : Value) (w_38 : World) =>
 Run Tryd.prog (do Instr.mapUpdate 81 (.map m_25) (.string (ByteArray.mk #[114, 111, 111, 109])) (.pointer (some (p22.add 6))); pure undef) kV w_38 fun (_ : Value) (w_39 : World) =>
 K_18 (m_25) w_39) ∧
 (Run Tryd.prog (do Instr.mapUpdate 81 (.map m_25) (.string (ByteArray.mk #[114, 111, 111, 109])) (.pointer (some (p22.add 6))); pure undef) kV w_37 fun (_ : Value) (w_40 : World) =>
 Run Tryd.prog (do Instr.mapUpdate 81 (.map m_25) (.string (ByteArray.mk #[98, 117, 100, 103, 101, 116])) (.pointer (some (p21.add 1))); pure undef) kV w_40 fun (_ : Value) (w_41 : World) =>
 K_18 (m_25) w_41))) ∧
 (Run Tryd.prog (do Instr.mapUpdate 81 (.map m_25) (.string (ByteArray.mk #[98, 117, 100, 103, 101, 116])) (.pointer (some (p21.add 1))); pure undef) kV w_24 fun (_ : Value) (w_42 : World) =>
 (Run Tryd.prog (do Instr.mapUpdate 81 (.map m_25) (.string (ByteArray.mk #[115, 105, 122, 101])) (.pointer (some (p20.add 0))); pure undef) kV w_42 fun (_ : Value) (w_43 : World) =>
 (Run Tryd.prog (do Instr.mapUpdate 81 (.map m_25) (.string (ByteArray.mk #[114, 111, 111, 109])) (.pointer (some (p22.add 6))); pure undef) kV w_43 fun (_ : Value) (w_44 : World) =>
 Run Tryd.prog (do Instr.mapUpdate 81 (.map m_25) (.string (ByteArray.mk #[100, 114, 111, 112])) (.pointer (some (p23.add 4))); pure undef) kV w_44 fun (_ : Value) (w_45 : World) =>
 K_18 (m_25) w_45) ∧
 (Run Tryd.prog (do Instr.mapUpdate 81 (.map m_25) (.string (ByteArray.mk #[100, 114, 111, 112])) (.pointer (some (p23.add 4))); pure undef) kV w_43 fun (_ : Value) (w_46 : World) =>
 Run Tryd.prog (do Instr.mapUpdate 81 (.map m_25) (.string (ByteArray.mk #[114, 111, 111, 109])) (.pointer (some (p22.add 6))); pure undef) kV w_46 fun (_ : Value) (w_47 : World) =>
 K_18 (m_25) w_47)) ∧
 (Run Tryd.prog (do Instr.mapUpdate 81 (.map m_25) (.string (ByteArray.mk #[114, 111, 111, 109])) (.pointer (some (p22.add 6))); pure undef) kV w_42 fun (_ : Value) (w_48 : World) =>
 (Run Tryd.prog (do Instr.mapUpdate 81 (.map m_25) (.string (ByteArray.mk #[115, 105, 122, 101])) (.pointer (some (p20.add 0))); pure undef) kV w_48 fun (_ : Value) (w_49 : World) =>
 Run Tryd.prog (do Instr.mapUpdate 81 (.map m_25) (.string (ByteArray.mk #[100, 114, 111, 112])) (.pointer (some (p23.add 4))); pure undef) kV w_49 fun (_ : Value) (w_50 : World) =>
 K_18 (m_25) w_50) ∧
 (Run Tryd.prog (do Instr.mapUpdate 81 (.map m_25) (.string (ByteArray.mk #[100, 114, 111, 112])) (.pointer (some (p23.add 4))); pure undef) kV w_48 fun (_ : Value) (w_51 : World) =>
 Run Tryd.prog (do Instr.mapUpdate 81 (.map m_25) (.string (ByteArray.mk #[115, 105, 122, 101])) (.pointer (some (p20.add 0))); pure undef) kV w_51 fun (_ : Value) (w_52 : World) =>
 K_18 (m_25) w_52)) ∧
 (Run Tryd.prog (do Instr.mapUpdate 81 (.map m_25) (.string (ByteArray.mk #[100, 114, 111, 112])) (.pointer (some (p23.add 4))); pure undef) kV w_42 fun (_ : Value) (w_53 : World) =>
 (Run Tryd.prog (do Instr.mapUpdate 81 (.map m_25) (.string (ByteArray.mk #[115, 105, 122, 101])) (.pointer (some (p20.add 0))); pure undef) kV w_53 fun (_ : Value) (w_54 : World) =>
 Run Tryd.prog (do Instr.mapUpdate 81 (.map m_25) (.string (ByteArray.mk #[114, 111, 111, 109])) (.pointer (some (p22.add 6))); pure undef) kV w_54 fun (_ : Value) (w_55 : World) =>
 K_18 (m_25) w_55) ∧
 (Run Tryd.prog (do Instr.mapUpdate 81 (.map m_25) (.string (ByteArray.mk #[114, 111, 111, 109])) (.pointer (some (p22.add 6))); pure undef) kV w_53 fun (_ : Value) (w_56 : World) =>
 Run Tryd.prog (do Instr.mapUpdate 81 (.map m_25) (.string (ByteArray.mk #[115, 105, 122, 101])) (.pointer (some (p20.add 0))); pure undef) kV w_56 fun (_ : Value) (w_57 : World) =>
 K_18 (m_25) w_57))) ∧
 (Run Tryd.prog (do Instr.mapUpdate 81 (.map m_25) (.string (ByteArray.mk #[114, 111, 111, 109])) (.pointer (some (p22.add 6))); pure undef) kV w_24 fun (_ : Value) (w_58 : World) =>
 (Run Tryd.prog (do Instr.mapUpdate 81 (.map m_25) (.string (ByteArray.mk #[115, 105, 122, 101])) (.pointer (some (p20.add 0))); pure undef) kV w_58 fun (_ : Value) (w_59 : World) =>
 (Run Tryd.prog (do Instr.mapUpdate 81 (.map m_25) (.string (ByteArray.mk #[98, 117, 100, 103, 101, 116])) (.pointer (some (p21.add 1))); pure undef) kV w_59 fun (_ : Value) (w_60 : World) =>
 Run Tryd.prog (do Instr.mapUpdate 81 (.map m_25) (.string (ByteArray.mk #[100, 114, 111, 112])) (.pointer (some (p23.add 4))); pure undef) kV w_60 fun (_ : Value) (w_61 : World) =>
 K_18 (m_25) w_61) ∧
 (Run Tryd.prog (do Instr.mapUpdate 81 (.map m_25) (.string (ByteArray.mk #[100, 114, 111, 112])) (.pointer (some (p23.add 4))); pure undef) kV w_59 fun (_ : Value) (w_62 : World) =>
 Run Tryd.prog (do Instr.mapUpdate 81 (.map m_25) (.string (ByteArray.mk #[98, 117, 100, 103, 101, 116])) (.pointer (some (p21.add 1))); pure undef) kV w_62 fun (_ : Value) (w_63 : World) =>
 K_18 (m_25) w_63)) ∧
 (Run Tryd.prog (do Instr.mapUpdate 81 (.map m_25) (.string (ByteArray.mk #[98, 117, 100, 103, 101, 116])) (.pointer (some (p21.add 1))); pure undef) kV w_58 fun (_ : Value) (w_64 : World) =>
 (Run Tryd.prog (do Instr.mapUpdate 81 (.map m_25) (.string (ByteArray.mk #[115, 105, 122, 101])) (.pointer (some (p20.add 0))); pure undef) kV w_64 fun (_ : Value) (w_65 : World) =>
 Run Tryd.prog (do Instr.mapUpdate 81 (.map m_25) (.string (ByteArray.mk #[100, 114, 111, 112])) (.pointer (some (p23.add 4))); pure undef) kV w_65 fun (_ : Value) (w_66 : World) =>
 K_18 (m_25) w_66) ∧
 (Run Tryd.prog (do Instr.mapUpdate 81 (.map m_25) (.string (ByteArray.mk #[100, 114, 111, 112])) (.pointer (some (p23.add 4))); pure undef) kV w_64 fun (_ : Value) (w_67 : World) =>
 Run Tryd.prog (do Instr.mapUpdate 81 (.map m_25) (.string (ByteArray.mk #[115, 105, 122, 101])) (.pointer (some (p20.add 0))); pure undef) kV w_67 fun (_ : Value) (w_68 : World) =>
 K_18 (m_25) w_68)) ∧
 (Run Tryd.prog (do Instr.mapUpdate 81 (.map m_25) (.string (ByteArray.mk #[100, 114, 111, 112])) (.pointer (some (p23.add 4))); pure undef) kV w_58 fun (_ : Value) (w_69 : World) =>
 (Run Tryd.prog (do Instr.mapUpdate 81 (.map m_25) (.string (ByteArray.mk #[115, 105, 122, 101])) (.pointer (some (p20.add 0))); pure undef) kV w_69 fun (_ : Value) (w_70 : World) =>
 Run Tryd.prog (do Instr.mapUpdate 81 (.map m_25) (.string (ByteArray.mk #[98, 117, 100, 103, 101, 116])) (.pointer (some (p21.add 1))); pure undef) kV w_70 fun (_ : Value) (w_71 : World) =>
 K_18 (m_25) w_71) ∧
 (Run Tryd.prog (do Instr.mapUpdate 81 (.map m_25) (.string (ByteArray.mk #[98, 117, 100, 103, 101, 116])) (.pointer (some (p21.add 1))); pure undef) kV w_69 fun (_ : Value) (w_72 : World) =>
 Run Tryd.prog (do Instr.mapUpdate 81 (.map m_25) (.string (ByteArray.mk #[115, 105, 122, 101])) (.pointer (some (p20.add 0))); pure undef) kV w_72 fun (_ : Value) (w_73 : World) =>
 K_18 (m_25) w_73))) ∧
 (Run Tryd.prog (do Instr.mapUpdate 81 (.map m_25) (.string (ByteArray.mk #[100, 114, 111, 112])) (.pointer (some (p23.add 4))); pure undef) kV w_24 fun (_ : Value) (w_74 : World) =>
 (Run Tryd.prog (do Instr.mapUpdate 81 (.map m_25) (.string (ByteArray.mk #[115, 105, 122, 101])) (.pointer (some (p20.add 0))); pure undef) kV w_74 fun (_ : Value) (w_75 : World) =>
 (Run Tryd.prog (do Instr.mapUpdate 81 (.map m_25) (.string (ByteArray.mk #[98, 117, 100, 103, 101, 116])) (.pointer (some (p21.add 1))); pure undef) kV w_75 fun (_ : Value) (w_76 : World) =>
 Run Tryd.prog (do Instr.mapUpdate 81 (.map m_25) (.string (ByteArray.mk #[114, 111, 111, 109])) (.pointer (some (p22.add 6))); pure undef) kV w_76 fun (_ : Value) (w_77 : World) =>
 K_18 (m_25) w_77) ∧
 (Run Tryd.prog (do Instr.mapUpdate 81 (.map m_25) (.string (ByteArray.mk #[114, 111, 111, 109])) (.pointer (some (p22.add 6))); pure undef) kV w_75 fun (_ : Value) (w_78 : World) =>
 Run Tryd.prog (do Instr.mapUpdate 81 (.map m_25) (.string (ByteArray.mk #[98, 117, 100, 103, 101, 116])) (.pointer (some (p21.add 1))); pure undef) kV w_78 fun (_ : Value) (w_79 : World) =>
 K_18 (m_25) w_79)) ∧
 (Run Tryd.prog (do Instr.mapUpdate 81 (.map m_25) (.string (ByteArray.mk #[98, 117, 100, 103, 101, 116])) (.pointer (some (p21.add 1))); pure undef) kV w_74 fun (_ : Value) (w_80 : World) =>
 (Run Tryd.prog (do Instr.mapUpdate 81 (.map m_25) (.string (ByteArray.mk #[115, 105, 122, 101])) (.pointer (some (p20.add 0))); pure undef) kV w_80 fun (_ : Value) (w_81 : World) =>
 Run Tryd.prog (do Instr.mapUpdate 81 (.map m_25) (.string (ByteArray.mk #[114, 111, 111, 109])) (.pointer (some (p22.add 6))); pure undef) kV w_81 fun (_ : Value) (w_82 : World) =>
 K_18 (m_25) w_82) ∧
 (Run Tryd.prog (do Instr.mapUpdate 81 (.map m_25) (.string (ByteArray.mk #[114, 111, 111, 109])) (.pointer (some (p22.add 6))); pure undef) kV w_80 fun (_ : Value) (w_83 : World) =>
 Run Tryd.prog (do Instr.mapUpdate 81 (.map m_25) (.string (ByteArray.mk #[115, 105, 122, 101])) (.pointer (some (p20.add 0))); pure undef) kV w_83 fun (_ : Value) (w_84 : World) =>
 K_18 (m_25) w_84)) ∧
 (Run Tryd.prog (do Instr.mapUpdate 81 (.map m_25) (.string (ByteArray.mk #[114, 111, 111, 109])) (.pointer (some (p22.add 6))); pure undef) kV w_74 fun (_ : Value) (w_85 : World) =>
 (Run Tryd.prog (do Instr.mapUpdate 81 (.map m_25) (.string (ByteArray.mk #[115, 105, 122, 101])) (.pointer (some (p20.add 0))); pure undef) kV w_85 fun (_ : Value) (w_86 : World) =>
 Run Tryd.prog (do Instr.mapUpdate 81 (.map m_25) (.string (ByteArray.mk #[98, 117, 100, 103, 101, 116])) (.pointer (some (p21.add 1))); pure undef) kV w_86 fun (_ : Value) (w_87 : World) =>
 K_18 (m_25) w_87) ∧
 (Run Tryd.prog (do Instr.mapUpdate 81 (.map m_25) (.string (ByteArray.mk #[98, 117, 100, 103, 101, 116])) (.pointer (some (p21.add 1))); pure undef) kV w_85 fun (_ : Value) (w_88 : World) =>
 Run Tryd.prog (do Instr.mapUpdate 81 (.map m_25) (.string (ByteArray.mk #[115, 105, 122, 101])) (.pointer (some (p20.add 0))); pure undef) kV w_88 fun (_ : Value) (w_89 : World) =>
 K_18 (m_25) w_89)))) fun (K_5 : World → Prop) =>
 IfB (((r4.len : Int) : Int) == (0 : Int))
 (R (true) w_3)
 (Idx r4 0 1 fun (q6 : Addr) =>
 Ld kStr q6 w_3 fun (x7 : ByteArray) =>
 0 ≤ (0 : Int) ∧ (0 : Int) < ((x7).size : Int) ∧
 IfB (((strAt x7 (0 : Int).toNat) : Int) == (35 : Int))
 (R (true) w_3)
 (K_5  w_3))
set_option maxRecDepth 100000 in
theorem script_says.ok (s1 : (Option Addr)) (l2 : ByteArray) (R : Bool → World → Prop) (w : World) (h : script_says.E s1 l2 R w) : Cl Tryd.prog [kB] n_script_says ⟨[(.pointer s1), (.string l2)]⟩ w R :=
  calls_of_eq Tryd.mix Tryd.f21 [(.pointer s1), (.string l2)] [kB] R 173 [.tmp 4] (by kernel_rfl) (by kernel_rfl) (by kernel_rfl) (by kernel_rfl) (by kernel_rfl)
    (.s .o (.s .o (.j [] (.s .o (.c (.s .o .o) .o)) (.s .o (.s (.b .o) (.s (.s .o (.s .o (.c (.s .o .o) .o))) (.s (.b (.j [(63, kB)] .o (.c (.s .o (.s .o .o)) (.s .o (.c (.s .o .o) (.j [(87, kB)] .o (.c (.s .o (.s .o (.s (.s .o (.c (.s .o .o) .o)) (.s .o (.s (.b .o) (.s .o .o)))))) (.j [(131, kB)] .o (.c (.s .o (.s (.s .o (.c .o .o)) (.s .o .o))) .o))))))))) (.s .o .o))))))))
    (by kernel_rfl) h
/-- script.Print$1 -/
def script_Print_1.E (n1 : Int) (R : Bool → World → Prop) (w : World) : Prop :=
 IfB (decide ((n1 : Int) < ((-4611686018427387904) : Int)))
 (R (true) w)
 (R ((decide ((n1 : Int) > (4611686018427387904 : Int)))) w)
theorem script_Print_1.ok (n1 : Int) (R : Bool → World → Prop) (w : World) (h : script_Print_1.E n1 R w) : Cl Tryd.prog [kB] n_script_Print_1 ⟨[(.int .i64 n1)]⟩ w R :=
  calls_of_eq Tryd.mix Tryd.f25 [(.int .i64 n1)] [kB] R 9 [.tmp 2] (by kernel_rfl) (by kernel_rfl) (by kernel_rfl) (by kernel_rfl) (by kernel_rfl)
    (.s .o (.s .o .o))
    (by kernel_rfl) h
/-- script.row -/
def script_row.E (name1 : ByteArray) (l2 : Sl) (R : ByteArray → World → Prop) (w : World) : Prop :=
 ∃ (I_3 : ByteArray → Int → World → Prop) (m_4 : ByteArray → Int → World → Nat), I_3 (name1) (0) w ∧
 ∀ (name5 : ByteArray) (t9_6 : Int), ∀ (w_7 : World), I_3 name5 t9_6 w_7 →
 IfB (decide ((t9_6 : Int) < ((l2.len : Int) : Int)))
 (Idx l2 t9_6 1 fun (q8 : Addr) =>
 Ld kI q8 w_7 fun (x9 : Int) =>
 Cl Tryd.prog [kStr] n_strconv_Itoa ⟨[(.int .i64 x9)]⟩ w_7 fun (r11 : ByteArray) (w_10 : World) =>
 (((ByteArray.mk #[32])).size : Int) + ((r11).size : Int) ≤ 9223372036854775807 ∧
 ((name5).size : Int) + ((((ByteArray.mk #[32]) ++ r11)).size : Int) ≤ 9223372036854775807 ∧
 I_3 ((name5 ++ ((ByteArray.mk #[32]) ++ r11))) ((i64 ((t9_6 : Int) + (1 : Int)))) w_10 ∧ m_4 ((name5 ++ ((ByteArray.mk #[32]) ++ r11))) ((i64 ((t9_6 : Int) + (1 : Int)))) w_10 < m_4 name5 t9_6 w_7)
 (((name5).size : Int) + (((ByteArray.mk #[10])).size : Int) ≤ 9223372036854775807 ∧
 R ((name5 ++ (ByteArray.mk #[10]))) w_7)
theorem script_row.ok (name1 : ByteArray) (l2 : Sl) (R : ByteArray → World → Prop) (w : World) (h : script_row.E name1 l2 R w) : Cl Tryd.prog [kStr] n_script_row ⟨[(.string name1), (.slice l2.base l2.len l2.cap)]⟩ w R :=
  calls_of_eq Tryd.mix Tryd.f27 [(.string name1), (.slice l2.base l2.len l2.cap)] [kStr] R 21 [.tmp 4] (by kernel_rfl) (by kernel_rfl) (by kernel_rfl) (by kernel_rfl) (by kernel_rfl)
    (.s .o (.s (.s .o (.b (.l [(0, kStr), (9, kI)] (.s .o (.s (.c .o .o) (.s (.b (.s .o .o)) .o)))))) (.s .o .o)))
    (by kernel_rfl) h
/-- script.Equal$1 -/
def script_Equal_1.E (x1 : (TT [.bool, .sl])) (y2 : (TT [.bool, .sl])) (R : Bool → World → Prop) (w : World) : Prop :=
 Nw 40 ⟨[(.bool x1.1), (.slice x1.2.1.base x1.2.1.len x1.2.1.cap)]⟩ w fun (b4 : Nat) (w_3 : World) =>
 Nw 40 ⟨[(.bool y2.1), (.slice y2.2.1.base y2.2.1.len y2.2.1.cap)]⟩ w_3 fun (b6 : Nat) (w_5 : World) =>
 Ld kB ((⟨b4, 0, none⟩ : Addr).add 0) w_5 fun (Flush7 : Bool) =>
 Ld kB ((⟨b6, 0, none⟩ : Addr).add 0) w_5 fun (Flush8 : Bool) =>
 IfB (Flush7 == Flush8)
 (Ld kS ((⟨b4, 0, none⟩ : Addr).add 1) w_5 fun (Bytes9 : Sl) =>
 Ld kS ((⟨b6, 0, none⟩ : Addr).add 1) w_5 fun (Bytes10 : Sl) =>
 Cl Tryd.prog [kB] n_bytes_Equal ⟨[(.slice Bytes9.base Bytes9.len Bytes9.cap), (.slice Bytes10.base Bytes10.len Bytes10.cap)]⟩ w_5 fun (r12 : Bool) (w_11 : World) =>
 R (r12) w_11)
 (R (false) w_5)
theorem script_Equal_1.ok (x1 : (TT [.bool, .sl])) (y2 : (TT [.bool, .sl])) (R : Bool → World → Prop) (w : World) (h : script_Equal_1.E x1 y2 R w) : Cl Tryd.prog [kB] n_script_Equal_1 ⟨[(.agg ⟨[(.bool x1.1), (.slice x1.2.1.base x1.2.1.len x1.2.1.cap)]⟩), (.agg ⟨[(.bool y2.1), (.slice y2.2.1.base y2.2.1.len y2.2.1.cap)]⟩)]⟩ w R :=
  calls_of_eq Tryd.mix Tryd.f33 [(.agg ⟨[(.bool x1.1), (.slice x1.2.1.base x1.2.1.len x1.2.1.cap)]⟩), (.agg ⟨[(.bool y2.1), (.slice y2.2.1.base y2.2.1.len y2.2.1.cap)]⟩)] [kB] R 17 [.tmp 4] (by kernel_rfl) (by kernel_rfl) (by kernel_rfl) (by kernel_rfl) (by kernel_rfl)
    (.s .o (.s .o .o))
    (by kernel_rfl) h
/-- script.lines$1 -/
def script_lines_1.E (yield1 : Value) (c2 : Addr) (R : World → Prop) (w : World) : Prop :=
 ∃ (I_3 : Int → World → Prop) (m_4 : Int → World → Nat), I_3 (1) w ∧
 ∀ (n5 : Int), ∀ (w_6 : World), I_3 n5 w_6 →
 Ld kStr c2 w_6 fun (x7 : ByteArray) =>
 IfB (!((x7).toList == ((ByteArray.mk #[])).toList))
 (Ld kStr c2 w_6 fun (x8 : ByteArray) =>
 Cl Tryd.prog [kStr, kStr, kB] n_strings_Cut ⟨[(.string x8), (.string (ByteArray.mk #[10]))]⟩ w_6 fun (r10 : ByteArray) (r11 : ByteArray) (r12 : Bool) (w_9 : World) =>
 ClY Tryd.prog yield1 [kB] [(.int .i64 n5), (.string r10)] w_9 fun (r14 : Bool) (w_13 : World) =>
 IfB (!r14)
 (R  w_13)
 (St c2 (.string r11) w_13 fun (w_15 : World) =>
 ([] : List Nat) = ([] : List Nat) ∧ I_3 ((i64 ((n5 : Int) + (1 : Int)))) w_15 ∧ m_4 ((i64 ((n5 : Int) + (1 : Int)))) w_15 < m_4 n5 w_6))
 (R  w_6)
theorem script_lines_1.ok (yield1 : Value) (c2 : Addr) (R : World → Prop) (w : World) (h : script_lines_1.E yield1 c2 R w) : Cl Tryd.prog [] n_script_lines_1 ⟨[yield1, (.pointer (some c2))]⟩ w R :=
  calls_of_eqR Tryd.mix Tryd.f38 [yield1, (.pointer (some c2))] [] R 23 [] (by kernel_rfl) (by kernel_rfl) (by kernel_rfl) (by kernel_rfl) (by kernel_rfl)
    (.s .o (.b (.l [(3, kI)] (.s (.s .o (.c .o .o)) (.s (.b (.s .o (.s (.s .o (.c .o .o)) .o))) .o)))))
    (by kernel_rfl) h
/-- script.words -/
def script_words.E (l1 : ByteArray) (R : Sl → World → Prop) (w : World) : Prop :=
 Cl Tryd.prog [kS] n_strings_FieldsFunc ⟨[(.string l1), (.func (.func 56) ⟨[]⟩ ⟨[]⟩)]⟩ w fun (r3 : Sl) (w_2 : World) =>
 R (r3) w_2
theorem script_words.ok (l1 : ByteArray) (R : Sl → World → Prop) (w : World) (h : script_words.E l1 R w) : Cl Tryd.prog [kS] n_script_words ⟨[(.string l1)]⟩ w R :=
  calls_of_eq Tryd.mix Tryd.f40 [(.string l1)] [kS] R 5 [.tmp 2] (by kernel_rfl) (by kernel_rfl) (by kernel_rfl) (by kernel_rfl) (by kernel_rfl)
    (.s .o (.s .o .o))
    (by kernel_rfl) h
/-- script.number -/
def script_number.E (w_1 : ByteArray) (to2 : (Option Addr)) (R : Bool → World → Prop) (w : World) : Prop :=
 Cl Tryd.prog [kI, kV] n_strconv_Atoi ⟨[(.string w_1)]⟩ w fun (r4 : Int) (r5 : Value) (w_3 : World) =>
 IfNil r5 fun (isnil6 : Bool) =>
 IfB (!isnil6)
 (R (false) w_3)
 (Cl Tryd.prog [kStr] n_strconv_Itoa ⟨[(.int .i64 r4)]⟩ w_3 fun (r8 : ByteArray) (w_7 : World) =>
 IfB (!((r8).toList == (w_1).toList))
 (R (false) w_7)
 (IfB (decide ((r4 : Int) < ((-4611686018427387904) : Int)))
 (R (false) w_7)
 (IfB (decide ((r4 : Int) > (4611686018427387904 : Int)))
 (R (false) w_7)
 (NilCk to2 fun (p9 : Addr) =>
 St p9 (.int .i64 r4) w_7 fun (w_10 : World) =>
 R (true) w_10))))
theorem script_number.ok (w_1 : ByteArray) (to2 : (Option Addr)) (R : Bool → World → Prop) (w : World) (h : script_number.E w_1 to2 R w) : Cl Tryd.prog [kB] n_script_number ⟨[(.string w_1), (.pointer to2)]⟩ w R :=
  calls_of_eq Tryd.mix Tryd.f41 [(.string w_1), (.pointer to2)] [kB] R 31 [.tmp 4] (by kernel_rfl) (by kernel_rfl) (by kernel_rfl) (by kernel_rfl) (by kernel_rfl)
    (.s .o (.s .o (.s (.s .o (.c (.s .o .o) .o)) (.s .o (.s .o .o)))))
    (by kernel_rfl) h
set_option maxRecDepth 100000 in
/-- script.cuts -/
def script_cuts.E (s1 : (Option Addr)) (w_2 : Sl) (R : Bool → World → Prop) (w : World) : Prop :=
 ∃ (I_3 : Int → World → Prop) (m_4 : Int → World → Nat), I_3 (0) w ∧
 ∀ (t10_5 : Int), ∀ (w_6 : World), I_3 t10_5 w_6 →
 IfB (decide ((t10_5 : Int) < ((w_2.len : Int) : Int)))
 (Idx w_2 t10_5 1 fun (q7 : Addr) =>
 Ld kStr q7 w_6 fun (x8 : ByteArray) =>
 Nw 3 ⟨[(.int .i64 0)]⟩ w_6 fun (b10 : Nat) (w_9 : World) =>
 St (⟨b10, 0, none⟩ : Addr) (.int .i64 0) w_9 fun (w_11 : World) =>
 Cl Tryd.prog [kB] n_script_number ⟨[(.string x8), (.pointer (some (⟨b10, 0, none⟩ : Addr)))]⟩ w_11 fun (r13 : Bool) (w_12 : World) =>
 IfB (!r13)
 (R (false) w_12)
 (Drw w_12 fun (w_14 : World) =>
 NilCk s1 fun (p15 : Addr) =>
 Ld kI (⟨b10, 0, none⟩ : Addr) w_14 fun (x16 : Int) =>
 (Ld kS (p15.add 7) w_14 fun (Cuts17 : Sl) =>
 Nw 3 ⟨[(.int .i64 x16)]⟩ w_14 fun (b19 : Nat) (w_18 : World) =>
 Run Tryd.prog (Builtin.append_ #[25, 25] 25 ⟨[(.slice Cuts17.base Cuts17.len Cuts17.cap), (.slice (⟨some ⟨b19, 0, none⟩, 1, 1⟩ : Sl).base (⟨some ⟨b19, 0, none⟩, 1, 1⟩ : Sl).len (⟨some ⟨b19, 0, none⟩, 1, 1⟩ : Sl).cap)]⟩) kS w_18 fun (s21 : Sl) (w_20 : World) =>
 NilCk s1 fun (p22 : Addr) =>
 St (p22.add 7) (.slice s21.base s21.len s21.cap) w_20 fun (w_23 : World) =>
 I_3 ((i64 ((t10_5 : Int) + (1 : Int)))) w_23 ∧ m_4 ((i64 ((t10_5 : Int) + (1 : Int)))) w_23 < m_4 t10_5 w_6) ∧
 (Nw 3 ⟨[(.int .i64 x16)]⟩ w_14 fun (b25 : Nat) (w_24 : World) =>
 Ld kS (p15.add 7) w_24 fun (Cuts26 : Sl) =>
 Run Tryd.prog (Builtin.append_ #[25, 25] 25 ⟨[(.slice Cuts26.base Cuts26.len Cuts26.cap), (.slice (⟨some ⟨b25, 0, none⟩, 1, 1⟩ : Sl).base (⟨some ⟨b25, 0, none⟩, 1, 1⟩ : Sl).len (⟨some ⟨b25, 0, none⟩, 1, 1⟩ : Sl).cap)]⟩) kS w_24 fun (s28 : Sl) (w_27 : World) =>
 NilCk s1 fun (p29 : Addr) =>
 St (p29.add 7) (.slice s28.base s28.len s28.cap) w_27 fun (w_30 : World) =>
 I_3 ((i64 ((t10_5 : Int) + (1 : Int)))) w_30 ∧ m_4 ((i64 ((t10_5 : Int) + (1 : Int)))) w_30 < m_4 t10_5 w_6)))
 (R ((decide (((w_2.len : Int) : Int) > (0 : Int)))) w_6)
set_option maxRecDepth 100000 in
theorem script_cuts.ok (s1 : (Option Addr)) (w_2 : Sl) (R : Bool → World → Prop) (w : World) (h : script_cuts.E s1 w_2 R w) : Cl Tryd.prog [kB] n_script_cuts ⟨[(.pointer s1), (.slice w_2.base w_2.len w_2.cap)]⟩ w R :=
  calls_of_eq Tryd.mix Tryd.f42 [(.pointer s1), (.slice w_2.base w_2.len w_2.cap)] [kB] R 31 [.tmp 4] (by kernel_rfl) (by kernel_rfl) (by kernel_rfl) (by kernel_rfl) (by kernel_rfl)
    (.s .o (.s (.s .o (.b (.l [(10, kI)] (.s .o (.s (.c .o .o) (.s (.b (.s .o (.s .o (.s (.s .o (.c (.s .o .o) .o)) (.b .o))))) .o)))))) (.s .o .o)))
    (by kernel_rfl) h
set_option maxRecDepth 100000 in
/-- script.unhex -/
def script_unhex.E (w_1 : ByteArray) (R : Sl → Bool → World → Prop) (w : World) : Prop :=
 IfB ((w_1).toList == ((ByteArray.mk #[45])).toList)
 (R ((⟨none, 0, 0⟩ : Sl)) (true) w)
 (∃ (I_2 : Sl → Int → World → Prop) (m_3 : Sl → Int → World → Nat), I_2 ((⟨none, 0, 0⟩ : Sl)) (0) w ∧
 ∀ (b4 : Sl) (i5 : Int), ∀ (w_6 : World), I_2 b4 i5 w_6 →
 IfB (decide (((i64 ((i5 : Int) + (1 : Int))) : Int) < (((w_1).size : Int) : Int)))
 (Drw w_6 fun (w_7 : World) =>
 0 ≤ (i5 : Int) ∧ (i5 : Int) < ((w_1).size : Int) ∧
 0 ≤ ((i64 ((i5 : Int) + (1 : Int))) : Int) ∧ ((i64 ((i5 : Int) + (1 : Int))) : Int) < ((w_1).size : Int) ∧
 Cl Tryd.prog [kI] n_strings_IndexByte ⟨[(.string (ByteArray.mk #[48, 49, 50, 51, 52, 53, 54, 55, 56, 57, 97, 98, 99, 100, 101, 102])), (.int .u8 (strAt w_1 (i5 : Int).toNat))]⟩ w_7 fun (r9 : Int) (w_8 : World) =>
 Cl Tryd.prog [kI] n_strings_IndexByte ⟨[(.string (ByteArray.mk #[48, 49, 50, 51, 52, 53, 54, 55, 56, 57, 97, 98, 99, 100, 101, 102])), (.int .u8 (strAt w_1 ((i64 ((i5 : Int) + (1 : Int))) : Int).toNat))]⟩ w_8 fun (r11 : Int) (w_10 : World) =>
 IfB (decide ((r9 : Int) < (0 : Int)))
 (R ((⟨none, 0, 0⟩ : Sl)) (false) w_10)
 (IfB (decide ((r11 : Int) < (0 : Int)))
 (R ((⟨none, 0, 0⟩ : Sl)) (false) w_10)
 (0 ≤ (4 : Int) ∧
 Nw 5 ⟨[(.int .u8 (u8 (ior .i64 ((ishl .i64 (r9 : Int) (4 : Int)) : Int) (r11 : Int))))]⟩ w_10 fun (b13 : Nat) (w_12 : World) =>
 Run Tryd.prog (Builtin.append_ #[24, 24] 24 ⟨[(.slice b4.base b4.len b4.cap), (.slice (⟨some ⟨b13, 0, none⟩, 1, 1⟩ : Sl).base (⟨some ⟨b13, 0, none⟩, 1, 1⟩ : Sl).len (⟨some ⟨b13, 0, none⟩, 1, 1⟩ : Sl).cap)]⟩) kS w_12 fun (s15 : Sl) (w_14 : World) =>
 I_2 (s15) ((i64 ((i5 : Int) + (2 : Int)))) w_14 ∧ m_3 (s15) ((i64 ((i5 : Int) + (2 : Int)))) w_14 < m_3 b4 i5 w_6)))
 (IfB (decide ((((w_1).size : Int) : Int) > (0 : Int)))
 ((2 : Int) ≠ 0 ∧
 R (b4) ((((Int.tmod (((w_1).size : Int) : Int) (2 : Int)) : Int) == (0 : Int))) w_6)
 (R (b4) (false) w_6)))
set_option maxRecDepth 100000 in
theorem script_unhex.ok (w_1 : ByteArray) (R : Sl → Bool → World → Prop) (w : World) (h : script_unhex.E w_1 R w) : Cl Tryd.prog [kS, kB] n_script_unhex ⟨[(.string w_1)]⟩ w R :=
  calls_of_eq Tryd.mix Tryd.f43 [(.string w_1)] [kS, kB] R 49 [.tmp 2, .tmp 3] (by kernel_rfl) (by kernel_rfl) (by kernel_rfl) (by kernel_rfl) (by kernel_rfl)
    (.s .o (.s (.s .o (.c (.s .o .o) .o)) (.s (.s .o (.b (.l [(2, kS), (4, kI)] (.s (.s .o (.c .o .o)) (.s (.b (.s .o (.s (.s .o (.c (.s .o .o) .o)) .o))) .o))))) (.s .o .o))))
    (by kernel_rfl) h
/-- script.words$1 -/
def script_words_1.E (r1 : Int) (R : Bool → World → Prop) (w : World) : Prop :=
 R (((r1 : Int) == (32 : Int))) w
theorem script_words_1.ok (r1 : Int) (R : Bool → World → Prop) (w : World) (h : script_words_1.E r1 R w) : Cl Tryd.prog [kB] n_script_words_1 ⟨[(.int .i32 r1)]⟩ w R :=
  calls_of_eq Tryd.mix Tryd.f56 [(.int .i32 r1)] [kB] R 5 [.tmp 2] (by kernel_rfl) (by kernel_rfl) (by kernel_rfl) (by kernel_rfl) (by kernel_rfl)
    (.s .o (.s .o .o))
    (by kernel_rfl) h
end Go.Proofs.YtdfalolgngnelaaDoor
/- Fref30 -/
namespace Go.Proofs.YtdfalolgngnelaaDoor
open Go Go.Vc
set_option maxRecDepth 100000 in
/-- winepressref30.Great -/
def ref30_Great.E (s1 : (TT [.int .i64, .int .i64, .sl, .sl, .int .i64, .sl, .int .i64, .sl])) (R : Bool → World → Prop) (w : World) : Prop :=
 Nw 27 ⟨[(.int .i64 s1.1), (.int .i64 s1.2.1), (.slice s1.2.2.1.base s1.2.2.1.len s1.2.2.1.cap), (.slice s1.2.2.2.1.base s1.2.2.2.1.len s1.2.2.2.1.cap), (.int .i64 s1.2.2.2.2.1), (.slice s1.2.2.2.2.2.1.base s1.2.2.2.2.2.1.len s1.2.2.2.2.2.1.cap), (.int .i64 s1.2.2.2.2.2.2.1), (.slice s1.2.2.2.2.2.2.2.1.base s1.2.2.2.2.2.2.2.1.len s1.2.2.2.2.2.2.2.1.cap)]⟩ w fun (b3 : Nat) (w_2 : World) =>
 Ld kS ((⟨b3, 0, none⟩ : Addr).add 5) w_2 fun (Behind4 : Sl) =>
 ∃ (I_5 : Int → Int → World → Prop) (m_6 : Int → Int → World → Nat), I_5 ((if (200 : Int) < ((Behind4.len : Int) : Int) then (200 : Int) else ((Behind4.len : Int) : Int))) (0) w_2 ∧
 ∀ (n7 : Int) (i8 : Int), ∀ (w_9 : World), I_5 n7 i8 w_9 →
 Ld kS ((⟨b3, 0, none⟩ : Addr).add 2) w_9 fun (Deeds10 : Sl) =>
 IfB (decide ((i8 : Int) < ((Deeds10.len : Int) : Int)))
 (IfB (decide ((i8 : Int) ≤ (30 : Int)))
 (IfB (decide ((n7 : Int) ≤ (150 : Int)))
 (Ld kS ((⟨b3, 0, none⟩ : Addr).add 2) w_9 fun (Deeds11 : Sl) =>
 Idx Deeds11 i8 2 fun (q12 : Addr) =>
 Ld kS (q12.add 1) w_9 fun (Bytes13 : Sl) =>
 I_5 ((i64 ((n7 : Int) + ((if (200 : Int) < ((Bytes13.len : Int) : Int) then (200 : Int) else ((Bytes13.len : Int) : Int)) : Int)))) ((i64 ((i8 : Int) + (1 : Int)))) w_9 ∧ m_6 ((i64 ((n7 : Int) + ((if (200 : Int) < ((Bytes13.len : Int) : Int) then (200 : Int) else ((Bytes13.len : Int) : Int)) : Int)))) ((i64 ((i8 : Int) + (1 : Int)))) w_9 < m_6 n7 i8 w_9)
 (Ld kS ((⟨b3, 0, none⟩ : Addr).add 2) w_9 fun (Deeds14 : Sl) =>
 IfB (decide (((Deeds14.len : Int) : Int) > (30 : Int)))
 (R (true) w_9)
 (IfB (decide ((n7 : Int) > (150 : Int)))
 (R (true) w_9)
 (Ld kS ((⟨b3, 0, none⟩ : Addr).add 3) w_9 fun (Spoils15 : Sl) =>
 IfB (decide (((Spoils15.len : Int) : Int) > (20 : Int)))
 (R (true) w_9)
 (Ld kS ((⟨b3, 0, none⟩ : Addr).add 7) w_9 fun (Cuts16 : Sl) =>
 R ((decide (((Cuts16.len : Int) : Int) > (60 : Int)))) w_9)))))
 (Ld kS ((⟨b3, 0, none⟩ : Addr).add 2) w_9 fun (Deeds17 : Sl) =>
 IfB (decide (((Deeds17.len : Int) : Int) > (30 : Int)))
 (R (true) w_9)
 (IfB (decide ((n7 : Int) > (150 : Int)))
 (R (true) w_9)
 (Ld kS ((⟨b3, 0, none⟩ : Addr).add 3) w_9 fun (Spoils18 : Sl) =>
 IfB (decide (((Spoils18.len : Int) : Int) > (20 : Int)))
 (R (true) w_9)
 (Ld kS ((⟨b3, 0, none⟩ : Addr).add 7) w_9 fun (Cuts19 : Sl) =>
 R ((decide (((Cuts19.len : Int) : Int) > (60 : Int)))) w_9)))))
 (Ld kS ((⟨b3, 0, none⟩ : Addr).add 2) w_9 fun (Deeds20 : Sl) =>
 IfB (decide (((Deeds20.len : Int) : Int) > (30 : Int)))
 (R (true) w_9)
 (IfB (decide ((n7 : Int) > (150 : Int)))
 (R (true) w_9)
 (Ld kS ((⟨b3, 0, none⟩ : Addr).add 3) w_9 fun (Spoils21 : Sl) =>
 IfB (decide (((Spoils21.len : Int) : Int) > (20 : Int)))
 (R (true) w_9)
 (Ld kS ((⟨b3, 0, none⟩ : Addr).add 7) w_9 fun (Cuts22 : Sl) =>
 R ((decide (((Cuts22.len : Int) : Int) > (60 : Int)))) w_9))))
set_option maxRecDepth 100000 in
theorem ref30_Great.ok (s1 : (TT [.int .i64, .int .i64, .sl, .sl, .int .i64, .sl, .int .i64, .sl])) (R : Bool → World → Prop) (w : World) (h : ref30_Great.E s1 R w) : Cl Tryd.prog [kB] n_ref30_Great ⟨[(.agg ⟨[(.int .i64 s1.1), (.int .i64 s1.2.1), (.slice s1.2.2.1.base s1.2.2.1.len s1.2.2.1.cap), (.slice s1.2.2.2.1.base s1.2.2.2.1.len s1.2.2.2.1.cap), (.int .i64 s1.2.2.2.2.1), (.slice s1.2.2.2.2.2.1.base s1.2.2.2.2.2.1.len s1.2.2.2.2.2.1.cap), (.int .i64 s1.2.2.2.2.2.2.1), (.slice s1.2.2.2.2.2.2.2.1.base s1.2.2.2.2.2.2.2.1.len s1.2.2.2.2.2.2.2.1.cap)]⟩)]⟩ w R :=
  calls_of_eq Tryd.mix Tryd.f7 [(.agg ⟨[(.int .i64 s1.1), (.int .i64 s1.2.1), (.slice s1.2.2.1.base s1.2.2.1.len s1.2.2.1.cap), (.slice s1.2.2.2.1.base s1.2.2.2.1.len s1.2.2.2.1.cap), (.int .i64 s1.2.2.2.2.1), (.slice s1.2.2.2.2.2.1.base s1.2.2.2.2.2.1.len s1.2.2.2.2.2.1.cap), (.int .i64 s1.2.2.2.2.2.2.1), (.slice s1.2.2.2.2.2.2.2.1.base s1.2.2.2.2.2.2.2.1.len s1.2.2.2.2.2.2.2.1.cap)]⟩)] [kB] R 54 [.tmp 2] (by kernel_rfl) (by kernel_rfl) (by kernel_rfl) (by kernel_rfl) (by kernel_rfl)
    (.s .o (.s .o (.s (.s .o (.b (.l [(3, kI), (4, kI)] (.s (.s .o (.c .o .o)) (.s (.b .o) .o))))) (.s .o .o))))
    (by kernel_rfl) h
set_option maxRecDepth 100000 in
/-- winepressref30.Parse -/
def ref30_Parse.E (all_1 : ByteArray) (R : (TT [.int .i64, .int .i64, .sl, .sl, .int .i64, .sl, .int .i64, .sl]) → Int → Int → World → Prop) (w : World) : Prop :=
 Nw 27 ⟨[(.int .i64 0), (.int .i64 0), (.slice none 0 0), (.slice none 0 0), (.int .i64 0), (.slice none 0 0), (.int .i64 0), (.slice none 0 0)]⟩ w fun (b3 : Nat) (w_2 : World) =>
 Cl Tryd.prog [kS] n_ref30_Lines ⟨[(.string all_1)]⟩ w_2 fun (r5 : Sl) (w_4 : World) =>
 Join (fun (w_11 : World) =>
 Nw 27 ⟨[(.int .i64 0), (.int .i64 0), (.slice none 0 0), (.slice none 0 0), (.int .i64 0), (.slice none 0 0), (.int .i64 0), (.slice none 0 0)]⟩ w_11 fun (b13 : Nat) (w_12 : World) =>
 ∃ (I_14 : Int → World → Prop) (m_15 : Int → World → Nat), I_14 (0) w_12 ∧
 ∀ (i16 : Int), ∀ (w_17 : World), I_14 i16 w_17 →
 IfB (decide ((i16 : Int) < ((r5.len : Int) : Int)))
 (Held w_17 fun (S18 : World → Prop) (w_19 : World) =>
 LdS (.st [.int .i64, .int .i64, .sl, .sl, .int .i64, .sl, .int .i64, .sl]) (⟨b13, 0, none⟩ : Addr) S18 fun (x20 : (TT [.int .i64, .int .i64, .sl, .sl, .int .i64, .sl, .int .i64, .sl])) =>
 Idx r5 i16 1 fun (q21 : Addr) =>
 LdS kStr q21 S18 fun (x22 : ByteArray) =>
 (Cl Tryd.prog [(.st [.int .i64, .int .i64, .sl, .sl, .int .i64, .sl, .int .i64, .sl]), kB] n_ref30_says ⟨[(.agg ⟨[(.int .i64 x20.1), (.int .i64 x20.2.1), (.slice x20.2.2.1.base x20.2.2.1.len x20.2.2.1.cap), (.slice x20.2.2.2.1.base x20.2.2.2.1.len x20.2.2.2.1.cap), (.int .i64 x20.2.2.2.2.1), (.slice x20.2.2.2.2.2.1.base x20.2.2.2.2.2.1.len x20.2.2.2.2.2.1.cap), (.int .i64 x20.2.2.2.2.2.2.1), (.slice x20.2.2.2.2.2.2.2.1.base x20.2.2.2.2.2.2.2.1.len x20.2.2.2.2.2.2.2.1.cap)]⟩), (.string x22)]⟩ w_19 fun (r24 : (TT [.int .i64, .int .i64, .sl, .sl, .int .i64, .sl, .int .i64, .sl])) (r25 : Bool) (w_23 : World) =>
 S18 w_23 ∧
 Nw 27 ⟨[(.int .i64 0), (.int .i64 0), (.slice none 0 0), (.slice none 0 0), (.int .i64 0), (.slice none 0 0), (.int .i64 0), (.slice none 0 0)]⟩ w_23 fun (b27 : Nat) (w_26 : World) =>
 S18 w_26 ∧
 StC (⟨b27, 0, none⟩ : Addr) [(.int .i64 r24.1), (.int .i64 r24.2.1), (.slice r24.2.2.1.base r24.2.2.1.len r24.2.2.1.cap), (.slice r24.2.2.2.1.base r24.2.2.2.1.len r24.2.2.2.1.cap), (.int .i64 r24.2.2.2.2.1), (.slice r24.2.2.2.2.2.1.base r24.2.2.2.2.2.1.len r24.2.2.2.2.2.1.cap), (.int .i64 r24.2.2.2.2.2.2.1), (.slice r24.2.2.2.2.2.2.2.1.base r24.2.2.2.2.2.2.2.1.len r24.2.2.2.2.2.2.2.1.cap)] 0 w_26 fun (w_28 : World) =>
 S18 w_28 ∧
 IfB (!r25)
 (StC (⟨b3, 0, none⟩ : Addr) [(.int .i64 0), (.int .i64 0), (.slice none 0 0), (.slice none 0 0), (.int .i64 0), (.slice none 0 0), (.int .i64 0), (.slice none 0 0)] 0 w_28 fun (w_29 : World) =>
 Ld (.st [.int .i64, .int .i64, .sl, .sl, .int .i64, .sl, .int .i64, .sl]) (⟨b3, 0, none⟩ : Addr) w_29 fun (res30 : (TT [.int .i64, .int .i64, .sl, .sl, .int .i64, .sl, .int .i64, .sl])) =>
 R (res30) ((i64 ((i16 : Int) + (1 : Int)))) (300) w_29)
 (Ld (.st [.int .i64, .int .i64, .sl, .sl, .int .i64, .sl, .int .i64, .sl]) (⟨b27, 0, none⟩ : Addr) w_28 fun (x31 : (TT [.int .i64, .int .i64, .sl, .sl, .int .i64, .sl, .int .i64, .sl])) =>
 StC (⟨b13, 0, none⟩ : Addr) [(.int .i64 x31.1), (.int .i64 x31.2.1), (.slice x31.2.2.1.base x31.2.2.1.len x31.2.2.1.cap), (.slice x31.2.2.2.1.base x31.2.2.2.1.len x31.2.2.2.1.cap), (.int .i64 x31.2.2.2.2.1), (.slice x31.2.2.2.2.2.1.base x31.2.2.2.2.2.1.len x31.2.2.2.2.2.1.cap), (.int .i64 x31.2.2.2.2.2.2.1), (.slice x31.2.2.2.2.2.2.2.1.base x31.2.2.2.2.2.2.2.1.len x31.2.2.2.2.2.2.2.1.cap)] 0 w_28 fun (w_32 : World) =>
 I_14 ((i64 ((i16 : Int) + (1 : Int)))) w_32 ∧ m_15 ((i64 ((i16 : Int) + (1 : Int)))) w_32 < m_15 i16 w_17)) ∧
 (Nw 27 ⟨[(.int .i64 0), (.int .i64 0), (.slice none 0 0), (.slice none 0 0), (.int .i64 0), (.slice none 0 0), (.int .i64 0), (.slice none 0 0)]⟩ w_19 fun (b34 : Nat) (w_33 : World) =>
 S18 w_33 ∧
 Cl Tryd.prog [(.st [.int .i64, .int .i64, .sl, .sl, .int .i64, .sl, .int .i64, .sl]), kB] n_ref30_says ⟨[(.agg ⟨[(.int .i64 x20.1), (.int .i64 x20.2.1), (.slice x20.2.2.1.base x20.2.2.1.len x20.2.2.1.cap), (.slice x20.2.2.2.1.base x20.2.2.2.1.len x20.2.2.2.1.cap), (.int .i64 x20.2.2.2.2.1), (.slice x20.2.2.2.2.2.1.base x20.2.2.2.2.2.1.len x20.2.2.2.2.2.1.cap), (.int .i64 x20.2.2.2.2.2.2.1), (.slice x20.2.2.2.2.2.2.2.1.base x20.2.2.2.2.2.2.2.1.len x20.2.2.2.2.2.2.2.1.cap)]⟩), (.string x22)]⟩ w_33 fun (r36 : (TT [.int .i64, .int .i64, .sl, .sl, .int .i64, .sl, .int .i64, .sl])) (r37 : Bool) (w_35 : World) =>
 S18 w_35 ∧
 StC (⟨b34, 0, none⟩ : Addr) [(.int .i64 r36.1), (.int .i64 r36.2.1), (.slice r36.2.2.1.base r36.2.2.1.len r36.2.2.1.cap), (.slice r36.2.2.2.1.base r36.2.2.2.1.len r36.2.2.2.1.cap), (.int .i64 r36.2.2.2.2.1), (.slice r36.2.2.2.2.2.1.base r36.2.2.2.2.2.1.len r36.2.2.2.2.2.1.cap), (.int .i64 r36.2.2.2.2.2.2.1), (.slice r36.2.2.2.2.2.2.2.1.base r36.2.2.2.2.2.2.2.1.len r36.2.2.2.2.2.2.2.1.cap)] 0 w_35 fun (w_38 : World) =>
 S18 w_38 ∧
 IfB (!r37)
 (StC (⟨b3, 0, none⟩ : Addr) [(.int .i64 0), (.int .i64 0), (.slice none 0 0), (.slice none 0 0), (.int .i64 0), (.slice none 0 0), (.int .i64 0), (.slice none 0 0)] 0 w_38 fun (w_39 : World) =>
 Ld (.st [.int .i64, .int .i64, .sl, .sl, .int .i64, .sl, .int .i64, .sl]) (⟨b3, 0, none⟩ : Addr) w_39 fun (res40 : (TT [.int .i64, .int .i64, .sl, .sl, .int .i64, .sl, .int .i64, .sl])) =>
 R (res40) ((i64 ((i16 : Int) + (1 : Int)))) (300) w_39)
 (Ld (.st [.int .i64, .int .i64, .sl, .sl, .int .i64, .sl, .int .i64, .sl]) (⟨b34, 0, none⟩ : Addr) w_38 fun (x41 : (TT [.int .i64, .int .i64, .sl, .sl, .int .i64, .sl, .int .i64, .sl])) =>
 StC (⟨b13, 0, none⟩ : Addr) [(.int .i64 x41.1), (.int .i64 x41.2.1), (.slice x41.2.2.1.base x41.2.2.1.len x41.2.2.1.cap), (.slice x41.2.2.2.1.base x41.2.2.2.1.len x41.2.2.2.1.cap), (.int .i64 x41.2.2.2.2.1), (.slice x41.2.2.2.2.2.1.base x41.2.2.2.2.2.1.len x41.2.2.2.2.2.1.cap), (.int .i64 x41.2.2.2.2.2.2.1), (.slice x41.2.2.2.2.2.2.2.1.base x41.2.2.2.2.2.2.2.1.len x41.2.2.2.2.2.2.2.1.cap)] 0 w_38 fun (w_42 : World) =>
 I_14 ((i64 ((i16 : Int) + (1 : Int)))) w_42 ∧ m_15 ((i64 ((i16 : Int) + (1 : Int)))) w_42 < m_15 i16 w_17)))
 (Ld (.st [.int .i64, .int .i64, .sl, .sl, .int .i64, .sl, .int .i64, .sl]) (⟨b13, 0, none⟩ : Addr) w_17 fun (x43 : (TT [.int .i64, .int .i64, .sl, .sl, .int .i64, .sl, .int .i64, .sl])) =>
 StC (⟨b3, 0, none⟩ : Addr) [(.int .i64 x43.1), (.int .i64 x43.2.1), (.slice x43.2.2.1.base x43.2.2.1.len x43.2.2.1.cap), (.slice x43.2.2.2.1.base x43.2.2.2.1.len x43.2.2.2.1.cap), (.int .i64 x43.2.2.2.2.1), (.slice x43.2.2.2.2.2.1.base x43.2.2.2.2.2.1.len x43.2.2.2.2.2.1.cap), (.int .i64 x43.2.2.2.2.2.2.1), (.slice x43.2.2.2.2.2.2.2.1.base x43.2.2.2.2.2.2.2.1.len x43.2.2.2.2.2.2.2.1.cap)] 0 w_17 fun (w_44 : World) =>
 Ld (.st [.int .i64, .int .i64, .sl, .sl, .int .i64, .sl, .int .i64, .sl]) (⟨b3, 0, none⟩ : Addr) w_44 fun (res45 : (TT [.int .i64, .int .i64, .sl, .sl, .int .i64, .sl, .int .i64, .sl])) =>
 R (res45) (0) (0) w_44)) fun (K_6 : World → Prop) =>
 IfB (decide ((((all_1).size : Int) : Int) > (65536 : Int)))
 (StC (⟨b3, 0, none⟩ : Addr) [(.int .i64 0), (.int .i64 0), (.slice none 0 0), (.slice none 0 0), (.int .i64 0), (.slice none 0 0), (.int .i64 0), (.slice none 0 0)] 0 w_4 fun (w_7 : World) =>
 Ld (.st [.int .i64, .int .i64, .sl, .sl, .int .i64, .sl, .int .i64, .sl]) (⟨b3, 0, none⟩ : Addr) w_7 fun (res8 : (TT [.int .i64, .int .i64, .sl, .sl, .int .i64, .sl, .int .i64, .sl])) =>
 R (res8) (0) (301) w_7)
 (IfB (decide (((r5.len : Int) : Int) > (1000 : Int)))
 (StC (⟨b3, 0, none⟩ : Addr) [(.int .i64 0), (.int .i64 0), (.slice none 0 0), (.slice none 0 0), (.int .i64 0), (.slice none 0 0), (.int .i64 0), (.slice none 0 0)] 0 w_4 fun (w_9 : World) =>
 Ld (.st [.int .i64, .int .i64, .sl, .sl, .int .i64, .sl, .int .i64, .sl]) (⟨b3, 0, none⟩ : Addr) w_9 fun (res10 : (TT [.int .i64, .int .i64, .sl, .sl, .int .i64, .sl, .int .i64, .sl])) =>
 R (res10) (0) (301) w_9)
 (K_6  w_4))
set_option maxRecDepth 100000 in
theorem ref30_Parse.ok (all_1 : ByteArray) (R : (TT [.int .i64, .int .i64, .sl, .sl, .int .i64, .sl, .int .i64, .sl]) → Int → Int → World → Prop) (w : World) (h : ref30_Parse.E all_1 R w) : Cl Tryd.prog [(.st [.int .i64, .int .i64, .sl, .sl, .int .i64, .sl, .int .i64, .sl]), kI, kI] n_ref30_Parse ⟨[(.string all_1)]⟩ w R :=
  calls_of_eq Tryd.mix Tryd.f10 [(.string all_1)] [(.st [.int .i64, .int .i64, .sl, .sl, .int .i64, .sl, .int .i64, .sl]), kI, kI] R 43 [.cell 2 27, .tmp 3, .tmp 4] (by kernel_rfl) (by kernel_rfl) (by kernel_rfl) (by kernel_rfl) (by kernel_rfl)
    (.s .o (.s .o (.j [] (.s .o (.c (.s .o .o) .o)) (.s .o (.s (.s .o (.b (.l [(7, kI)] (.s (.s .o (.c .o .o)) (.s (.b (.s .o (.s (.s .o (.c (.s .o .o) .o)) .o))) .o))))) (.s .o .o))))))
    (by kernel_rfl) h
set_option maxRecDepth 100000 in
/-- winepressref30.Equal -/
def ref30_Equal.E (a1 : (TT [.int .i64, .int .i64, .sl, .sl, .int .i64, .sl, .int .i64, .sl])) (b2 : (TT [.int .i64, .int .i64, .sl, .sl, .int .i64, .sl, .int .i64, .sl])) (R : Bool → World → Prop) (w : World) : Prop :=
 Nw 27 ⟨[(.int .i64 a1.1), (.int .i64 a1.2.1), (.slice a1.2.2.1.base a1.2.2.1.len a1.2.2.1.cap), (.slice a1.2.2.2.1.base a1.2.2.2.1.len a1.2.2.2.1.cap), (.int .i64 a1.2.2.2.2.1), (.slice a1.2.2.2.2.2.1.base a1.2.2.2.2.2.1.len a1.2.2.2.2.2.1.cap), (.int .i64 a1.2.2.2.2.2.2.1), (.slice a1.2.2.2.2.2.2.2.1.base a1.2.2.2.2.2.2.2.1.len a1.2.2.2.2.2.2.2.1.cap)]⟩ w fun (b4 : Nat) (w_3 : World) =>
 Nw 27 ⟨[(.int .i64 b2.1), (.int .i64 b2.2.1), (.slice b2.2.2.1.base b2.2.2.1.len b2.2.2.1.cap), (.slice b2.2.2.2.1.base b2.2.2.2.1.len b2.2.2.2.1.cap), (.int .i64 b2.2.2.2.2.1), (.slice b2.2.2.2.2.2.1.base b2.2.2.2.2.2.1.len b2.2.2.2.2.2.1.cap), (.int .i64 b2.2.2.2.2.2.2.1), (.slice b2.2.2.2.2.2.2.2.1.base b2.2.2.2.2.2.2.2.1.len b2.2.2.2.2.2.2.2.1.cap)]⟩ w_3 fun (b6 : Nat) (w_5 : World) =>
 Join (fun (w_26 : World) =>
 ∃ (I_27 : Int → World → Prop) (m_28 : Int → World → Nat), I_27 (0) w_26 ∧
 ∀ (i29 : Int), ∀ (w_30 : World), I_27 i29 w_30 →
 Ld kS ((⟨b4, 0, none⟩ : Addr).add 2) w_30 fun (Deeds31 : Sl) =>
 IfB (decide ((i29 : Int) < ((Deeds31.len : Int) : Int)))
 (Held w_30 fun (S32 : World → Prop) (w_33 : World) =>
 LdS kS ((⟨b4, 0, none⟩ : Addr).add 2) S32 fun (Deeds34 : Sl) =>
 Idx Deeds34 i29 2 fun (q35 : Addr) =>
 LdS kB (q35.add 0) S32 fun (Flush36 : Bool) =>
 LdS kS ((⟨b6, 0, none⟩ : Addr).add 2) S32 fun (Deeds37 : Sl) =>
 Idx Deeds37 i29 2 fun (q38 : Addr) =>
 LdS kB (q38.add 0) S32 fun (Flush39 : Bool) =>
 IfB (!(Flush36 == Flush39))
 ((R (false) w_33) ∧
 (R (false) w_33))
 (LdS kS ((⟨b4, 0, none⟩ : Addr).add 2) S32 fun (Deeds40 : Sl) =>
 Idx Deeds40 i29 2 fun (q41 : Addr) =>
 LdS kS (q41.add 1) S32 fun (Bytes42 : Sl) =>
 LdS kS ((⟨b6, 0, none⟩ : Addr).add 2) S32 fun (Deeds43 : Sl) =>
 Idx Deeds43 i29 2 fun (q44 : Addr) =>
 LdS kS (q44.add 1) S32 fun (Bytes45 : Sl) =>
 (Run Tryd.prog (convert 24 9 (.slice Bytes42.base Bytes42.len Bytes42.cap)) kStr w_33 fun (s47 : ByteArray) (w_46 : World) =>
 S32 w_46 ∧
 Run Tryd.prog (convert 24 9 (.slice Bytes45.base Bytes45.len Bytes45.cap)) kStr w_46 fun (s49 : ByteArray) (w_48 : World) =>
 S32 w_48 ∧
 IfB (!((s47).toList == (s49).toList))
 (R (false) w_48)
 (I_27 ((i64 ((i29 : Int) + (1 : Int)))) w_48 ∧ m_28 ((i64 ((i29 : Int) + (1 : Int)))) w_48 < m_28 i29 w_30)) ∧
 (Run Tryd.prog (convert 24 9 (.slice Bytes45.base Bytes45.len Bytes45.cap)) kStr w_33 fun (s51 : ByteArray) (w_50 : World) =>
 S32 w_50 ∧
 Run Tryd.prog (convert 24 9 (.slice Bytes42.base Bytes42.len Bytes42.cap)) kStr w_50 fun (s53 : ByteArray) (w_52 : World) =>
 S32 w_52 ∧
 IfB (!((s53).toList == (s51).toList))
 (R (false) w_52)
 (I_27 ((i64 ((i29 : Int) + (1 : Int)))) w_52 ∧ m_28 ((i64 ((i29 : Int) + (1 : Int)))) w_52 < m_28 i29 w_30))))
 (∃ (I_54 : Int → World → Prop) (m_55 : Int → World → Nat), I_54 (0) w_30 ∧
 ∀ (i56 : Int), ∀ (w_57 : World), I_54 i56 w_57 →
 Ld kS ((⟨b4, 0, none⟩ : Addr).add 3) w_57 fun (Spoils58 : Sl) =>
 IfB (decide ((i56 : Int) < ((Spoils58.len : Int) : Int)))
 (Drw w_57 fun (w_59 : World) =>
 Ld kS ((⟨b4, 0, none⟩ : Addr).add 3) w_59 fun (Spoils60 : Sl) =>
 Idx Spoils60 i56 2 fun (q61 : Addr) =>
 Ld (.st [.int .i64, .int .u8]) q61 w_59 fun (x62 : (TT [.int .i64, .int .u8])) =>
 Ld kS ((⟨b6, 0, none⟩ : Addr).add 3) w_59 fun (Spoils63 : Sl) =>
 Idx Spoils63 i56 2 fun (q64 : Addr) =>
 Ld (.st [.int .i64, .int .u8]) q64 w_59 fun (x65 : (TT [.int .i64, .int .u8])) =>
 IfB (!(((x62.1 : Int) == (x65.1 : Int)) && ((x62.2.1 : Int) == (x65.2.1 : Int))))
 (R (false) w_59)
 (I_54 ((i64 ((i56 : Int) + (1 : Int)))) w_59 ∧ m_55 ((i64 ((i56 : Int) + (1 : Int)))) w_59 < m_55 i56 w_57))
 (Ld kS ((⟨b4, 0, none⟩ : Addr).add 7) w_57 fun (Cuts66 : Sl) =>
 Ld kS ((⟨b6, 0, none⟩ : Addr).add 7) w_57 fun (Cuts67 : Sl) =>
 Cl Tryd.prog [kB] n_ref07_Ints ⟨[(.slice Cuts66.base Cuts66.len Cuts66.cap), (.slice Cuts67.base Cuts67.len Cuts67.cap)]⟩ w_57 fun (r69 : Bool) (w_68 : World) =>
 R (r69) w_68))) fun (K_7 : World → Prop) =>
 Ld kI ((⟨b4, 0, none⟩ : Addr).add 0) w_5 fun (Size8 : Int) =>
 Ld kI ((⟨b6, 0, none⟩ : Addr).add 0) w_5 fun (Size9 : Int) =>
 IfB ((Size8 : Int) != (Size9 : Int))
 (R (false) w_5)
 (Ld kI ((⟨b4, 0, none⟩ : Addr).add 1) w_5 fun (Budget10 : Int) =>
 Ld kI ((⟨b6, 0, none⟩ : Addr).add 1) w_5 fun (Budget11 : Int) =>
 IfB ((Budget10 : Int) != (Budget11 : Int))
 (R (false) w_5)
 (Ld kI ((⟨b4, 0, none⟩ : Addr).add 4) w_5 fun (Drop12 : Int) =>
 Ld kI ((⟨b6, 0, none⟩ : Addr).add 4) w_5 fun (Drop13 : Int) =>
 IfB ((Drop12 : Int) != (Drop13 : Int))
 (R (false) w_5)
 (Ld kI ((⟨b4, 0, none⟩ : Addr).add 6) w_5 fun (Room14 : Int) =>
 Ld kI ((⟨b6, 0, none⟩ : Addr).add 6) w_5 fun (Room15 : Int) =>
 IfB ((Room14 : Int) != (Room15 : Int))
 (R (false) w_5)
 (Ld kS ((⟨b4, 0, none⟩ : Addr).add 2) w_5 fun (Deeds16 : Sl) =>
 Ld kS ((⟨b6, 0, none⟩ : Addr).add 2) w_5 fun (Deeds17 : Sl) =>
 IfB (((Deeds16.len : Int) : Int) != ((Deeds17.len : Int) : Int))
 (R (false) w_5)
 (Ld kS ((⟨b4, 0, none⟩ : Addr).add 3) w_5 fun (Spoils18 : Sl) =>
 Ld kS ((⟨b6, 0, none⟩ : Addr).add 3) w_5 fun (Spoils19 : Sl) =>
 IfB (((Spoils18.len : Int) : Int) != ((Spoils19.len : Int) : Int))
 (R (false) w_5)
 (Ld kS ((⟨b4, 0, none⟩ : Addr).add 5) w_5 fun (Behind20 : Sl) =>
 Run Tryd.prog (convert 24 9 (.slice Behind20.base Behind20.len Behind20.cap)) kStr w_5 fun (s22 : ByteArray) (w_21 : World) =>
 Ld kS ((⟨b6, 0, none⟩ : Addr).add 5) w_21 fun (Behind23 : Sl) =>
 Run Tryd.prog (convert 24 9 (.slice Behind23.base Behind23.len Behind23.cap)) kStr w_21 fun (s25 : ByteArray) (w_24 : World) =>
 IfB (!((s22).toList == (s25).toList))
 (R (false) w_24)
 (K_7  w_24)))))))
set_option maxRecDepth 100000 in
theorem ref30_Equal.ok (a1 : (TT [.int .i64, .int .i64, .sl, .sl, .int .i64, .sl, .int .i64, .sl])) (b2 : (TT [.int .i64, .int .i64, .sl, .sl, .int .i64, .sl, .int .i64, .sl])) (R : Bool → World → Prop) (w : World) (h : ref30_Equal.E a1 b2 R w) : Cl Tryd.prog [kB] n_ref30_Equal ⟨[(.agg ⟨[(.int .i64 a1.1), (.int .i64 a1.2.1), (.slice a1.2.2.1.base a1.2.2.1.len a1.2.2.1.cap), (.slice a1.2.2.2.1.base a1.2.2.2.1.len a1.2.2.2.1.cap), (.int .i64 a1.2.2.2.2.1), (.slice a1.2.2.2.2.2.1.base a1.2.2.2.2.2.1.len a1.2.2.2.2.2.1.cap), (.int .i64 a1.2.2.2.2.2.2.1), (.slice a1.2.2.2.2.2.2.2.1.base a1.2.2.2.2.2.2.2.1.len a1.2.2.2.2.2.2.2.1.cap)]⟩), (.agg ⟨[(.int .i64 b2.1), (.int .i64 b2.2.1), (.slice b2.2.2.1.base b2.2.2.1.len b2.2.2.1.cap), (.slice b2.2.2.2.1.base b2.2.2.2.1.len b2.2.2.2.1.cap), (.int .i64 b2.2.2.2.2.1), (.slice b2.2.2.2.2.2.1.base b2.2.2.2.2.2.1.len b2.2.2.2.2.2.1.cap), (.int .i64 b2.2.2.2.2.2.2.1), (.slice b2.2.2.2.2.2.2.2.1.base b2.2.2.2.2.2.2.2.1.len b2.2.2.2.2.2.2.2.1.cap)]⟩)]⟩ w R :=
  calls_of_eq Tryd.mix Tryd.f11 [(.agg ⟨[(.int .i64 a1.1), (.int .i64 a1.2.1), (.slice a1.2.2.1.base a1.2.2.1.len a1.2.2.1.cap), (.slice a1.2.2.2.1.base a1.2.2.2.1.len a1.2.2.2.1.cap), (.int .i64 a1.2.2.2.2.1), (.slice a1.2.2.2.2.2.1.base a1.2.2.2.2.2.1.len a1.2.2.2.2.2.1.cap), (.int .i64 a1.2.2.2.2.2.2.1), (.slice a1.2.2.2.2.2.2.2.1.base a1.2.2.2.2.2.2.2.1.len a1.2.2.2.2.2.2.2.1.cap)]⟩), (.agg ⟨[(.int .i64 b2.1), (.int .i64 b2.2.1), (.slice b2.2.2.1.base b2.2.2.1.len b2.2.2.1.cap), (.slice b2.2.2.2.1.base b2.2.2.2.1.len b2.2.2.2.1.cap), (.int .i64 b2.2.2.2.2.1), (.slice b2.2.2.2.2.2.1.base b2.2.2.2.2.2.1.len b2.2.2.2.2.2.1.cap), (.int .i64 b2.2.2.2.2.2.2.1), (.slice b2.2.2.2.2.2.2.2.1.base b2.2.2.2.2.2.2.2.1.len b2.2.2.2.2.2.2.2.1.cap)]⟩)] [kB] R 120 [.tmp 4] (by kernel_rfl) (by kernel_rfl) (by kernel_rfl) (by kernel_rfl) (by kernel_rfl)
    (.s .o (.j [] (.s .o (.c (.s .o .o) .o)) (.s (.s .o (.b (.l [(5, kI)] (.s (.s .o (.c .o .o)) (.s (.b (.s .o (.c (.s .o .o) .o))) .o))))) (.s (.s .o (.b (.l [(6, kI)] (.s (.s .o (.c .o .o)) (.s (.b (.s .o (.c (.s .o .o) .o))) .o))))) (.s .o .o)))))
    (by kernel_rfl) h
set_option maxRecDepth 100000 in
/-- winepressref30.Hex -/
def ref30_Hex.E (b1 : Sl) (R : ByteArray → World → Prop) (w : World) : Prop :=
 IfB (((b1.len : Int) : Int) == (0 : Int))
 (R ((ByteArray.mk #[45])) w)
 (∃ (I_2 : ByteArray → Int → World → Prop) (m_3 : ByteArray → Int → World → Nat), I_2 ((ByteArray.mk #[])) (0) w ∧
 ∀ (out4 : ByteArray) (i5 : Int), ∀ (w_6 : World), I_2 out4 i5 w_6 →
 IfB (decide ((i5 : Int) < ((b1.len : Int) : Int)))
 (Drw w_6 fun (w_7 : World) =>
 Idx b1 i5 1 fun (q8 : Addr) =>
 Ld (kInt .u8) q8 w_7 fun (x9 : Int) =>
 (16 : Int) ≠ 0 ∧
 Idx b1 i5 1 fun (q10 : Addr) =>
 Ld (kInt .u8) q10 w_7 fun (x11 : Int) =>
 (16 : Int) ≠ 0 ∧
 SlcS (ByteArray.mk #[48, 49, 50, 51, 52, 53, 54, 55, 56, 57, 97, 98, 99, 100, 101, 102]) (u8 (Int.tdiv (x9 : Int) (16 : Int))) (u8 (((u8 (Int.tdiv (x11 : Int) (16 : Int))) : Int) + (1 : Int))) fun (s12 : ByteArray) =>
 ((out4).size : Int) + ((s12).size : Int) ≤ 9223372036854775807 ∧
 Idx b1 i5 1 fun (q13 : Addr) =>
 Ld (kInt .u8) q13 w_7 fun (x14 : Int) =>
 (16 : Int) ≠ 0 ∧
 Idx b1 i5 1 fun (q15 : Addr) =>
 Ld (kInt .u8) q15 w_7 fun (x16 : Int) =>
 (16 : Int) ≠ 0 ∧
 SlcS (ByteArray.mk #[48, 49, 50, 51, 52, 53, 54, 55, 56, 57, 97, 98, 99, 100, 101, 102]) (Int.tmod (x14 : Int) (16 : Int)) (u8 (((Int.tmod (x16 : Int) (16 : Int)) : Int) + (1 : Int))) fun (s17 : ByteArray) =>
 (((out4 ++ s12)).size : Int) + ((s17).size : Int) ≤ 9223372036854775807 ∧
 I_2 (((out4 ++ s12) ++ s17)) ((i64 ((i5 : Int) + (1 : Int)))) w_7 ∧ m_3 (((out4 ++ s12) ++ s17)) ((i64 ((i5 : Int) + (1 : Int)))) w_7 < m_3 out4 i5 w_6)
 (R (out4) w_6))
set_option maxRecDepth 100000 in
theorem ref30_Hex.ok (b1 : Sl) (R : ByteArray → World → Prop) (w : World) (h : ref30_Hex.E b1 R w) : Cl Tryd.prog [kStr] n_ref30_Hex ⟨[(.slice b1.base b1.len b1.cap)]⟩ w R :=
  calls_of_eq Tryd.mix Tryd.f13 [(.slice b1.base b1.len b1.cap)] [kStr] R 45 [.tmp 2] (by kernel_rfl) (by kernel_rfl) (by kernel_rfl) (by kernel_rfl) (by kernel_rfl)
    (.s .o (.s (.s .o (.c (.s .o .o) .o)) (.s .o (.s .o (.s (.s .o (.b (.l [(4, kStr), (5, kI)] (.s (.s .o (.c .o .o)) (.s (.b .o) .o))))) (.s .o .o))))))
    (by kernel_rfl) h
set_option maxRecDepth 100000 in
/-- winepressref30.Print -/
def ref30_Print.E (s1 : (TT [.int .i64, .int .i64, .sl, .sl, .int .i64, .sl, .int .i64, .sl])) (R : ByteArray → Int → World → Prop) (w : World) : Prop :=
 Nw 27 ⟨[(.int .i64 s1.1), (.int .i64 s1.2.1), (.slice s1.2.2.1.base s1.2.2.1.len s1.2.2.1.cap), (.slice s1.2.2.2.1.base s1.2.2.2.1.len s1.2.2.2.1.cap), (.int .i64 s1.2.2.2.2.1), (.slice s1.2.2.2.2.2.1.base s1.2.2.2.2.2.1.len s1.2.2.2.2.2.1.cap), (.int .i64 s1.2.2.2.2.2.2.1), (.slice s1.2.2.2.2.2.2.2.1.base s1.2.2.2.2.2.2.2.1.len s1.2.2.2.2.2.2.2.1.cap)]⟩ w fun (b3 : Nat) (w_2 : World) =>
 Join (fun (ok16 : Bool) (w_17 : World) =>
 ∃ (I_18 : Bool → Int → World → Prop) (m_19 : Bool → Int → World → Nat), I_18 (ok16) (0) w_17 ∧
 ∀ (ok20 : Bool) (i21 : Int), ∀ (w_22 : World), I_18 ok20 i21 w_22 →
 Ld kS ((⟨b3, 0, none⟩ : Addr).add 3) w_22 fun (Spoils23 : Sl) =>
 IfB (decide ((i21 : Int) < ((Spoils23.len : Int) : Int)))
 (IfB ok20
 (Ld kS ((⟨b3, 0, none⟩ : Addr).add 3) w_22 fun (Spoils24 : Sl) =>
 Idx Spoils24 i21 2 fun (q25 : Addr) =>
 Ld kI (q25.add 0) w_22 fun (At26 : Int) =>
 Nw 3 ⟨[(.int .i64 At26)]⟩ w_22 fun (b28 : Nat) (w_27 : World) =>
 Cl Tryd.prog [kB] n_ref30_told ⟨[(.slice (⟨some ⟨b28, 0, none⟩, 1, 1⟩ : Sl).base (⟨some ⟨b28, 0, none⟩, 1, 1⟩ : Sl).len (⟨some ⟨b28, 0, none⟩, 1, 1⟩ : Sl).cap)]⟩ w_27 fun (r30 : Bool) (w_29 : World) =>
 I_18 (r30) ((i64 ((i21 : Int) + (1 : Int)))) w_29 ∧ m_19 (r30) ((i64 ((i21 : Int) + (1 : Int)))) w_29 < m_19 ok20 i21 w_22)
 (I_18 (false) ((i64 ((i21 : Int) + (1 : Int)))) w_22 ∧ m_19 (false) ((i64 ((i21 : Int) + (1 : Int)))) w_22 < m_19 ok20 i21 w_22))
 (IfB (!ok20)
 (R ((ByteArray.mk #[])) (2) w_22)
 (Held w_22 fun (S31 : World → Prop) (w_32 : World) =>
 LdS kI ((⟨b3, 0, none⟩ : Addr).add 0) S31 fun (Size33 : Int) =>
 LdS kI ((⟨b3, 0, none⟩ : Addr).add 1) S31 fun (Budget34 : Int) =>
 Cl Tryd.prog [kStr] n_ref30_Digits ⟨[(.int .i64 Size33)]⟩ w_32 fun (r36 : ByteArray) (w_35 : World) =>
 S31 w_35 ∧
 (((ByteArray.mk #[115, 105, 122, 101, 32])).size : Int) + ((r36).size : Int) ≤ 9223372036854775807 ∧
 ((((ByteArray.mk #[115, 105, 122, 101, 32]) ++ r36)).size : Int) + (((ByteArray.mk #[10, 98, 117, 100, 103, 101, 116, 32])).size : Int) ≤ 9223372036854775807 ∧
 Cl Tryd.prog [kStr] n_ref30_Digits ⟨[(.int .i64 Budget34)]⟩ w_35 fun (r38 : ByteArray) (w_37 : World) =>
 S31 w_37 ∧
 (((((ByteArray.mk #[115, 105, 122, 101, 32]) ++ r36) ++ (ByteArray.mk #[10, 98, 117, 100, 103, 101, 116, 32]))).size : Int) + ((r38).size : Int) ≤ 9223372036854775807 ∧
 ((((((ByteArray.mk #[115, 105, 122, 101, 32]) ++ r36) ++ (ByteArray.mk #[10, 98, 117, 100, 103, 101, 116, 32])) ++ r38)).size : Int) + (((ByteArray.mk #[10])).size : Int) ≤ 9223372036854775807 ∧
 ∃ (I_39 : ByteArray → Int → World → Prop) (m_40 : ByteArray → Int → World → Nat), I_39 ((((((ByteArray.mk #[115, 105, 122, 101, 32]) ++ r36) ++ (ByteArray.mk #[10, 98, 117, 100, 103, 101, 116, 32])) ++ r38) ++ (ByteArray.mk #[10]))) (0) w_37 ∧
 ∀ (out41 : ByteArray) (i42 : Int), ∀ (w_43 : World), I_39 out41 i42 w_43 →
 Ld kS ((⟨b3, 0, none⟩ : Addr).add 2) w_43 fun (Deeds44 : Sl) =>
 IfB (decide ((i42 : Int) < ((Deeds44.len : Int) : Int)))
 (Ld kS ((⟨b3, 0, none⟩ : Addr).add 2) w_43 fun (Deeds45 : Sl) =>
 Idx Deeds45 i42 2 fun (q46 : Addr) =>
 Ld kB (q46.add 0) w_43 fun (Flush47 : Bool) =>
 IfB Flush47
 (((out41).size : Int) + (((ByteArray.mk #[102, 108, 117, 115, 104, 10])).size : Int) ≤ 9223372036854775807 ∧
 I_39 ((out41 ++ (ByteArray.mk #[102, 108, 117, 115, 104, 10]))) ((i64 ((i42 : Int) + (1 : Int)))) w_43 ∧ m_40 ((out41 ++ (ByteArray.mk #[102, 108, 117, 115, 104, 10]))) ((i64 ((i42 : Int) + (1 : Int)))) w_43 < m_40 out41 i42 w_43)
 (((out41).size : Int) + (((ByteArray.mk #[119, 114, 105, 116, 101, 32])).size : Int) ≤ 9223372036854775807 ∧
 Ld kS ((⟨b3, 0, none⟩ : Addr).add 2) w_43 fun (Deeds48 : Sl) =>
 Idx Deeds48 i42 2 fun (q49 : Addr) =>
 Ld kS (q49.add 1) w_43 fun (Bytes50 : Sl) =>
 Cl Tryd.prog [kStr] n_ref30_Hex ⟨[(.slice Bytes50.base Bytes50.len Bytes50.cap)]⟩ w_43 fun (r52 : ByteArray) (w_51 : World) =>
 (((out41 ++ (ByteArray.mk #[119, 114, 105, 116, 101, 32]))).size : Int) + ((r52).size : Int) ≤ 9223372036854775807 ∧
 ((((out41 ++ (ByteArray.mk #[119, 114, 105, 116, 101, 32])) ++ r52)).size : Int) + (((ByteArray.mk #[10])).size : Int) ≤ 9223372036854775807 ∧
 I_39 ((((out41 ++ (ByteArray.mk #[119, 114, 105, 116, 101, 32])) ++ r52) ++ (ByteArray.mk #[10]))) ((i64 ((i42 : Int) + (1 : Int)))) w_51 ∧ m_40 ((((out41 ++ (ByteArray.mk #[119, 114, 105, 116, 101, 32])) ++ r52) ++ (ByteArray.mk #[10]))) ((i64 ((i42 : Int) + (1 : Int)))) w_51 < m_40 out41 i42 w_43))
 (∃ (I_53 : ByteArray → Int → World → Prop) (m_54 : ByteArray → Int → World → Nat), I_53 (out41) (0) w_43 ∧
 ∀ (out55 : ByteArray) (i56 : Int), ∀ (w_57 : World), I_53 out55 i56 w_57 →
 Ld kS ((⟨b3, 0, none⟩ : Addr).add 3) w_57 fun (Spoils58 : Sl) =>
 IfB (decide ((i56 : Int) < ((Spoils58.len : Int) : Int)))
 (Held w_57 fun (S59 : World → Prop) (w_60 : World) =>
 ((out55).size : Int) + (((ByteArray.mk #[115, 112, 111, 105, 108, 32])).size : Int) ≤ 9223372036854775807 ∧
 LdS kS ((⟨b3, 0, none⟩ : Addr).add 3) S59 fun (Spoils61 : Sl) =>
 Idx Spoils61 i56 2 fun (q62 : Addr) =>
 LdS kI (q62.add 0) S59 fun (At63 : Int) =>
 LdS kS ((⟨b3, 0, none⟩ : Addr).add 3) S59 fun (Spoils64 : Sl) =>
 Idx Spoils64 i56 2 fun (q65 : Addr) =>
 LdS (kInt .u8) (q65.add 1) S59 fun (By66 : Int) =>
 (Cl Tryd.prog [kStr] n_ref30_Digits ⟨[(.int .i64 At63)]⟩ w_60 fun (r68 : ByteArray) (w_67 : World) =>
 S59 w_67 ∧
 (((out55 ++ (ByteArray.mk #[115, 112, 111, 105, 108, 32]))).size : Int) + ((r68).size : Int) ≤ 9223372036854775807 ∧
 ((((out55 ++ (ByteArray.mk #[115, 112, 111, 105, 108, 32])) ++ r68)).size : Int) + (((ByteArray.mk #[32])).size : Int) ≤ 9223372036854775807 ∧
 Nw 5 ⟨[(.int .u8 By66)]⟩ w_67 fun (b70 : Nat) (w_69 : World) =>
 S59 w_69 ∧
 Cl Tryd.prog [kStr] n_ref30_Hex ⟨[(.slice (⟨some ⟨b70, 0, none⟩, 1, 1⟩ : Sl).base (⟨some ⟨b70, 0, none⟩, 1, 1⟩ : Sl).len (⟨some ⟨b70, 0, none⟩, 1, 1⟩ : Sl).cap)]⟩ w_69 fun (r72 : ByteArray) (w_71 : World) =>
 S59 w_71 ∧
 (((((out55 ++ (ByteArray.mk #[115, 112, 111, 105, 108, 32])) ++ r68) ++ (ByteArray.mk #[32]))).size : Int) + ((r72).size : Int) ≤ 9223372036854775807 ∧
 ((((((out55 ++ (ByteArray.mk #[115, 112, 111, 105, 108, 32])) ++ r68) ++ (ByteArray.mk #[32])) ++ r72)).size : Int) + (((ByteArray.mk #[10])).size : Int) ≤ 9223372036854775807 ∧
 I_53 ((((((out55 ++ (ByteArray.mk #[115, 112, 111, 105, 108, 32])) ++ r68) ++ (ByteArray.mk #[32])) ++ r72) ++ (ByteArray.mk #[10]))) ((i64 ((i56 : Int) + (1 : Int)))) w_71 ∧ m_54 ((((((out55 ++ (ByteArray.mk #[115, 112, 111, 105, 108, 32])) ++ r68) ++ (ByteArray.mk #[32])) ++ r72) ++ (ByteArray.mk #[10]))) ((i64 ((i56 : Int) + (1 : Int)))) w_71 < m_54 out55 i56 w_57) ∧
 (Nw 5 ⟨[(.int .u8 By66)]⟩ w_60 fun (b74 : Nat) (w_73 : World) =>
 S59 w_73 ∧
 Cl Tryd.prog [kStr] n_ref30_Digits ⟨[(.int .i64 At63)]⟩ w_73 fun (r76 : ByteArray) (w_75 : World) =>
 S59 w_75 ∧
 (((out55 ++ (ByteArray.mk #[115, 112, 111, 105, 108, 32]))).size : Int) + ((r76).size : Int) ≤ 9223372036854775807 ∧
 ((((out55 ++ (ByteArray.mk #[115, 112, 111, 105, 108, 32])) ++ r76)).size : Int) + (((ByteArray.mk #[32])).size : Int) ≤ 9223372036854775807 ∧
 Cl Tryd.prog [kStr] n_ref30_Hex ⟨[(.slice (⟨some ⟨b74, 0, none⟩, 1, 1⟩ : Sl).base (⟨some ⟨b74, 0, none⟩, 1, 1⟩ : Sl).len (⟨some ⟨b74, 0, none⟩, 1, 1⟩ : Sl).cap)]⟩ w_75 fun (r78 : ByteArray) (w_77 : World) =>
 S59 w_77 ∧
 (((((out55 ++ (ByteArray.mk #[115, 112, 111, 105, 108, 32])) ++ r76) ++ (ByteArray.mk #[32]))).size : Int) + ((r78).size : Int) ≤ 9223372036854775807 ∧
 ((((((out55 ++ (ByteArray.mk #[115, 112, 111, 105, 108, 32])) ++ r76) ++ (ByteArray.mk #[32])) ++ r78)).size : Int) + (((ByteArray.mk #[10])).size : Int) ≤ 9223372036854775807 ∧
 I_53 ((((((out55 ++ (ByteArray.mk #[115, 112, 111, 105, 108, 32])) ++ r76) ++ (ByteArray.mk #[32])) ++ r78) ++ (ByteArray.mk #[10]))) ((i64 ((i56 : Int) + (1 : Int)))) w_77 ∧ m_54 ((((((out55 ++ (ByteArray.mk #[115, 112, 111, 105, 108, 32])) ++ r76) ++ (ByteArray.mk #[32])) ++ r78) ++ (ByteArray.mk #[10]))) ((i64 ((i56 : Int) + (1 : Int)))) w_77 < m_54 out55 i56 w_57))
 (((out55).size : Int) + (((ByteArray.mk #[100, 114, 111, 112, 32])).size : Int) ≤ 9223372036854775807 ∧
 Ld kI ((⟨b3, 0, none⟩ : Addr).add 4) w_57 fun (Drop79 : Int) =>
 Cl Tryd.prog [kStr] n_ref30_Digits ⟨[(.int .i64 Drop79)]⟩ w_57 fun (r81 : ByteArray) (w_80 : World) =>
 (((out55 ++ (ByteArray.mk #[100, 114, 111, 112, 32]))).size : Int) + ((r81).size : Int) ≤ 9223372036854775807 ∧
 ((((out55 ++ (ByteArray.mk #[100, 114, 111, 112, 32])) ++ r81)).size : Int) + (((ByteArray.mk #[10])).size : Int) ≤ 9223372036854775807 ∧
 Join (fun (out87 : ByteArray) (w_88 : World) =>
 ((out87).size : Int) + (((ByteArray.mk #[114, 111, 111, 109, 32])).size : Int) ≤ 9223372036854775807 ∧
 Ld kI ((⟨b3, 0, none⟩ : Addr).add 6) w_88 fun (Room89 : Int) =>
 Cl Tryd.prog [kStr] n_ref30_Digits ⟨[(.int .i64 Room89)]⟩ w_88 fun (r91 : ByteArray) (w_90 : World) =>
 (((out87 ++ (ByteArray.mk #[114, 111, 111, 109, 32]))).size : Int) + ((r91).size : Int) ≤ 9223372036854775807 ∧
 ((((out87 ++ (ByteArray.mk #[114, 111, 111, 109, 32])) ++ r91)).size : Int) + (((ByteArray.mk #[10])).size : Int) ≤ 9223372036854775807 ∧
 Ld kS ((⟨b3, 0, none⟩ : Addr).add 7) w_90 fun (Cuts92 : Sl) =>
 IfB (decide (((Cuts92.len : Int) : Int) > (0 : Int)))
 ((((((out87 ++ (ByteArray.mk #[114, 111, 111, 109, 32])) ++ r91) ++ (ByteArray.mk #[10]))).size : Int) + (((ByteArray.mk #[99, 117, 116, 115])).size : Int) ≤ 9223372036854775807 ∧
 ∃ (I_93 : ByteArray → Int → World → Prop) (m_94 : ByteArray → Int → World → Nat), I_93 (((((out87 ++ (ByteArray.mk #[114, 111, 111, 109, 32])) ++ r91) ++ (ByteArray.mk #[10])) ++ (ByteArray.mk #[99, 117, 116, 115]))) (0) w_90 ∧
 ∀ (out95 : ByteArray) (i96 : Int), ∀ (w_97 : World), I_93 out95 i96 w_97 →
 Ld kS ((⟨b3, 0, none⟩ : Addr).add 7) w_97 fun (Cuts98 : Sl) =>
 IfB (decide ((i96 : Int) < ((Cuts98.len : Int) : Int)))
 (((out95).size : Int) + (((ByteArray.mk #[32])).size : Int) ≤ 9223372036854775807 ∧
 Ld kS ((⟨b3, 0, none⟩ : Addr).add 7) w_97 fun (Cuts99 : Sl) =>
 Idx Cuts99 i96 1 fun (q100 : Addr) =>
 Ld kI q100 w_97 fun (x101 : Int) =>
 Cl Tryd.prog [kStr] n_ref30_Digits ⟨[(.int .i64 x101)]⟩ w_97 fun (r103 : ByteArray) (w_102 : World) =>
 (((out95 ++ (ByteArray.mk #[32]))).size : Int) + ((r103).size : Int) ≤ 9223372036854775807 ∧
 I_93 (((out95 ++ (ByteArray.mk #[32])) ++ r103)) ((i64 ((i96 : Int) + (1 : Int)))) w_102 ∧ m_94 (((out95 ++ (ByteArray.mk #[32])) ++ r103)) ((i64 ((i96 : Int) + (1 : Int)))) w_102 < m_94 out95 i96 w_97)
 (((out95).size : Int) + (((ByteArray.mk #[10])).size : Int) ≤ 9223372036854775807 ∧
 IfB (decide (((((out95 ++ (ByteArray.mk #[10]))).size : Int) : Int) > (65536 : Int)))
 (R ((ByteArray.mk #[])) (2) w_97)
 (Cl Tryd.prog [kS] n_ref30_Lines ⟨[(.string (out95 ++ (ByteArray.mk #[10])))]⟩ w_97 fun (r105 : Sl) (w_104 : World) =>
 IfB (decide (((r105.len : Int) : Int) > (1000 : Int)))
 (R ((ByteArray.mk #[])) (2) w_104)
 (R ((out95 ++ (ByteArray.mk #[10]))) (0) w_104))))
 (IfB (decide (((((((out87 ++ (ByteArray.mk #[114, 111, 111, 109, 32])) ++ r91) ++ (ByteArray.mk #[10]))).size : Int) : Int) > (65536 : Int)))
 (R ((ByteArray.mk #[])) (2) w_90)
 (Cl Tryd.prog [kS] n_ref30_Lines ⟨[(.string (((out87 ++ (ByteArray.mk #[114, 111, 111, 109, 32])) ++ r91) ++ (ByteArray.mk #[10])))]⟩ w_90 fun (r107 : Sl) (w_106 : World) =>
 IfB (decide (((r107.len : Int) : Int) > (1000 : Int)))
 (R ((ByteArray.mk #[])) (2) w_106)
 (R ((((out87 ++ (ByteArray.mk #[114, 111, 111, 109, 32])) ++ r91) ++ (ByteArray.mk #[10]))) (0) w_106)))) fun (K_82 : ByteArray → World → Prop) =>
 Ld kS ((⟨b3, 0, none⟩ : Addr).add 5) w_80 fun (Behind83 : Sl) =>
 IfB (decide (((Behind83.len : Int) : Int) > (0 : Int)))
 ((((((out55 ++ (ByteArray.mk #[100, 114, 111, 112, 32])) ++ r81) ++ (ByteArray.mk #[10]))).size : Int) + (((ByteArray.mk #[98, 101, 104, 105, 110, 100, 32])).size : Int) ≤ 9223372036854775807 ∧
 Ld kS ((⟨b3, 0, none⟩ : Addr).add 5) w_80 fun (Behind84 : Sl) =>
 Cl Tryd.prog [kStr] n_ref30_Hex ⟨[(.slice Behind84.base Behind84.len Behind84.cap)]⟩ w_80 fun (r86 : ByteArray) (w_85 : World) =>
 ((((((out55 ++ (ByteArray.mk #[100, 114, 111, 112, 32])) ++ r81) ++ (ByteArray.mk #[10])) ++ (ByteArray.mk #[98, 101, 104, 105, 110, 100, 32]))).size : Int) + ((r86).size : Int) ≤ 9223372036854775807 ∧
 (((((((out55 ++ (ByteArray.mk #[100, 114, 111, 112, 32])) ++ r81) ++ (ByteArray.mk #[10])) ++ (ByteArray.mk #[98, 101, 104, 105, 110, 100, 32])) ++ r86)).size : Int) + (((ByteArray.mk #[10])).size : Int) ≤ 9223372036854775807 ∧
 K_82 (((((((out55 ++ (ByteArray.mk #[100, 114, 111, 112, 32])) ++ r81) ++ (ByteArray.mk #[10])) ++ (ByteArray.mk #[98, 101, 104, 105, 110, 100, 32])) ++ r86) ++ (ByteArray.mk #[10]))) w_85)
 (K_82 ((((out55 ++ (ByteArray.mk #[100, 114, 111, 112, 32])) ++ r81) ++ (ByteArray.mk #[10]))) w_80)))))) fun (K_4 : Bool → World → Prop) =>
 Ld kI ((⟨b3, 0, none⟩ : Addr).add 0) w_2 fun (Size5 : Int) =>
 Ld kI ((⟨b3, 0, none⟩ : Addr).add 1) w_2 fun (Budget6 : Int) =>
 Ld kI ((⟨b3, 0, none⟩ : Addr).add 6) w_2 fun (Room7 : Int) =>
 Ld kI ((⟨b3, 0, none⟩ : Addr).add 4) w_2 fun (Drop8 : Int) =>
 Nw 3 ⟨[(.int .i64 Size5), (.int .i64 Budget6), (.int .i64 Room7), (.int .i64 Drop8)]⟩ w_2 fun (b10 : Nat) (w_9 : World) =>
 Cl Tryd.prog [kB] n_ref30_told ⟨[(.slice (⟨some ⟨b10, 0, none⟩, 4, 4⟩ : Sl).base (⟨some ⟨b10, 0, none⟩, 4, 4⟩ : Sl).len (⟨some ⟨b10, 0, none⟩, 4, 4⟩ : Sl).cap)]⟩ w_9 fun (r12 : Bool) (w_11 : World) =>
 IfB r12
 (Ld kS ((⟨b3, 0, none⟩ : Addr).add 7) w_11 fun (Cuts13 : Sl) =>
 Cl Tryd.prog [kB] n_ref30_told ⟨[(.slice Cuts13.base Cuts13.len Cuts13.cap)]⟩ w_11 fun (r15 : Bool) (w_14 : World) =>
 K_4 (r15) w_14)
 (K_4 (false) w_11)
set_option maxRecDepth 100000 in
theorem ref30_Print.ok (s1 : (TT [.int .i64, .int .i64, .sl, .sl, .int .i64, .sl, .int .i64, .sl])) (R : ByteArray → Int → World → Prop) (w : World) (h : ref30_Print.E s1 R w) : Cl Tryd.prog [kStr, kI] n_ref30_Print ⟨[(.agg ⟨[(.int .i64 s1.1), (.int .i64 s1.2.1), (.slice s1.2.2.1.base s1.2.2.1.len s1.2.2.1.cap), (.slice s1.2.2.2.1.base s1.2.2.2.1.len s1.2.2.2.1.cap), (.int .i64 s1.2.2.2.2.1), (.slice s1.2.2.2.2.2.1.base s1.2.2.2.2.2.1.len s1.2.2.2.2.2.1.cap), (.int .i64 s1.2.2.2.2.2.2.1), (.slice s1.2.2.2.2.2.2.2.1.base s1.2.2.2.2.2.2.2.1.len s1.2.2.2.2.2.2.2.1.cap)]⟩)]⟩ w R :=
  calls_of_eq Tryd.mix Tryd.f15 [(.agg ⟨[(.int .i64 s1.1), (.int .i64 s1.2.1), (.slice s1.2.2.1.base s1.2.2.1.len s1.2.2.1.cap), (.slice s1.2.2.2.1.base s1.2.2.2.1.len s1.2.2.2.1.cap), (.int .i64 s1.2.2.2.2.1), (.slice s1.2.2.2.2.2.1.base s1.2.2.2.2.2.1.len s1.2.2.2.2.2.1.cap), (.int .i64 s1.2.2.2.2.2.2.1), (.slice s1.2.2.2.2.2.2.2.1.base s1.2.2.2.2.2.2.2.1.len s1.2.2.2.2.2.2.2.1.cap)]⟩)] [kStr, kI] R 168 [.tmp 2, .tmp 3] (by kernel_rfl) (by kernel_rfl) (by kernel_rfl) (by kernel_rfl) (by kernel_rfl)
    (.s .o (.j [(4, kB)] .o (.s (.s .o (.b (.l [(4, kB), (5, kI)] (.s (.s .o (.c .o .o)) (.s (.b .o) .o))))) (.s (.s .o (.c (.s .o .o) .o)) (.s .o (.s (.s .o (.b (.l [(6, kStr), (7, kI)] (.s (.s .o (.c .o .o)) (.s (.b (.s .o (.c .o .o))) .o))))) (.s (.s .o (.b (.l [(6, kStr), (8, kI)] (.s (.s .o (.c .o .o)) (.s (.b .o) .o))))) (.s .o (.j [(6, kStr)] (.s .o (.c .o .o)) (.s .o (.s (.s .o (.c (.s .o (.s (.s .o (.b (.l [(6, kStr), (9, kI)] (.s (.s .o (.c .o .o)) (.s (.b .o) .o))))) .o)) .o)) (.s (.s .o (.c (.s .o .o) .o)) (.s .o .o)))))))))))))
    (by kernel_rfl) h
set_option maxRecDepth 100000 in
/-- winepressref30.Lines -/
def ref30_Lines.E (text1 : ByteArray) (R : Sl → World → Prop) (w : World) : Prop :=
 ∃ (I_2 : Sl → Int → Int → World → Prop) (m_3 : Sl → Int → Int → World → Nat), I_2 ((⟨none, 0, 0⟩ : Sl)) (0) (0) w ∧
 ∀ (out4 : Sl) (from_5 : Int) (i6 : Int), ∀ (w_7 : World), I_2 out4 from_5 i6 w_7 →
 IfB (decide ((i6 : Int) < (((text1).size : Int) : Int)))
 (0 ≤ (i6 : Int) ∧ (i6 : Int) < ((text1).size : Int) ∧
 IfB (((strAt text1 (i6 : Int).toNat) : Int) == (10 : Int))
 (SlcS text1 from_5 i6 fun (s8 : ByteArray) =>
 Nw 9 ⟨[(.string s8)]⟩ w_7 fun (b10 : Nat) (w_9 : World) =>
 Run Tryd.prog (Builtin.append_ #[42, 42] 42 ⟨[(.slice out4.base out4.len out4.cap), (.slice (⟨some ⟨b10, 0, none⟩, 1, 1⟩ : Sl).base (⟨some ⟨b10, 0, none⟩, 1, 1⟩ : Sl).len (⟨some ⟨b10, 0, none⟩, 1, 1⟩ : Sl).cap)]⟩) kS w_9 fun (s12 : Sl) (w_11 : World) =>
 I_2 (s12) ((i64 ((i6 : Int) + (1 : Int)))) ((i64 ((i6 : Int) + (1 : Int)))) w_11 ∧ m_3 (s12) ((i64 ((i6 : Int) + (1 : Int)))) ((i64 ((i6 : Int) + (1 : Int)))) w_11 < m_3 out4 from_5 i6 w_7)
 (I_2 (out4) (from_5) ((i64 ((i6 : Int) + (1 : Int)))) w_7 ∧ m_3 (out4) (from_5) ((i64 ((i6 : Int) + (1 : Int)))) w_7 < m_3 out4 from_5 i6 w_7))
 (IfB (decide ((from_5 : Int) < (((text1).size : Int) : Int)))
 (SlcS text1 from_5 (text1).size fun (s13 : ByteArray) =>
 Nw 9 ⟨[(.string s13)]⟩ w_7 fun (b15 : Nat) (w_14 : World) =>
 Run Tryd.prog (Builtin.append_ #[42, 42] 42 ⟨[(.slice out4.base out4.len out4.cap), (.slice (⟨some ⟨b15, 0, none⟩, 1, 1⟩ : Sl).base (⟨some ⟨b15, 0, none⟩, 1, 1⟩ : Sl).len (⟨some ⟨b15, 0, none⟩, 1, 1⟩ : Sl).cap)]⟩) kS w_14 fun (s17 : Sl) (w_16 : World) =>
 R (s17) w_16)
 (R (out4) w_7))
set_option maxRecDepth 100000 in
theorem ref30_Lines.ok (text1 : ByteArray) (R : Sl → World → Prop) (w : World) (h : ref30_Lines.E text1 R w) : Cl Tryd.prog [kS] n_ref30_Lines ⟨[(.string text1)]⟩ w R :=
  calls_of_eq Tryd.mix Tryd.f17 [(.string text1)] [kS] R 36 [.tmp 2] (by kernel_rfl) (by kernel_rfl) (by kernel_rfl) (by kernel_rfl) (by kernel_rfl)
    (.s .o (.s .o (.s .o (.s (.s .o (.b (.l [(3, kS), (4, kI), (5, kI)] (.s (.s .o (.c .o .o)) (.s (.b (.s .o (.c (.s .o .o) .o))) .o))))) (.s (.s .o (.c .o .o)) (.s .o .o))))))
    (by kernel_rfl) h
set_option maxRecDepth 100000 in
/-- winepressref30.says -/
def ref30_says.E (s1 : (TT [.int .i64, .int .i64, .sl, .sl, .int .i64, .sl, .int .i64, .sl])) (line2 : ByteArray) (R : (TT [.int .i64, .int .i64, .sl, .sl, .int .i64, .sl, .int .i64, .sl]) → Bool → World → Prop) (w : World) : Prop :=
 Nw 27 ⟨[(.int .i64 s1.1), (.int .i64 s1.2.1), (.slice s1.2.2.1.base s1.2.2.1.len s1.2.2.1.cap), (.slice s1.2.2.2.1.base s1.2.2.2.1.len s1.2.2.2.1.cap), (.int .i64 s1.2.2.2.2.1), (.slice s1.2.2.2.2.2.1.base s1.2.2.2.2.2.1.len s1.2.2.2.2.2.1.cap), (.int .i64 s1.2.2.2.2.2.2.1), (.slice s1.2.2.2.2.2.2.2.1.base s1.2.2.2.2.2.2.2.1.len s1.2.2.2.2.2.2.2.1.cap)]⟩ w fun (b4 : Nat) (w_3 : World) =>
 Nw 27 ⟨[(.int .i64 0), (.int .i64 0), (.slice none 0 0), (.slice none 0 0), (.int .i64 0), (.slice none 0 0), (.int .i64 0), (.slice none 0 0)]⟩ w_3 fun (b6 : Nat) (w_5 : World) =>
 Cl Tryd.prog [kS] n_ref30_words ⟨[(.string line2)]⟩ w_5 fun (r8 : Sl) (w_7 : World) =>
 Join (fun (w_18 : World) =>
 Slc r8 1 (r8).len (r8).cap 1 fun (s19 : Sl) =>
 Idx r8 0 1 fun (q20 : Addr) =>
 Ld kStr q20 w_18 fun (x21 : ByteArray) =>
 Join (fun (t30_23 : Bool) (w_24 : World) =>
 IfB t30_23
 (IfB (((s19.len : Int) : Int) != (1 : Int))
 (Ld (.st [.int .i64, .int .i64, .sl, .sl, .int .i64, .sl, .int .i64, .sl]) (⟨b4, 0, none⟩ : Addr) w_24 fun (x25 : (TT [.int .i64, .int .i64, .sl, .sl, .int .i64, .sl, .int .i64, .sl])) =>
 StC (⟨b6, 0, none⟩ : Addr) [(.int .i64 x25.1), (.int .i64 x25.2.1), (.slice x25.2.2.1.base x25.2.2.1.len x25.2.2.1.cap), (.slice x25.2.2.2.1.base x25.2.2.2.1.len x25.2.2.2.1.cap), (.int .i64 x25.2.2.2.2.1), (.slice x25.2.2.2.2.2.1.base x25.2.2.2.2.2.1.len x25.2.2.2.2.2.1.cap), (.int .i64 x25.2.2.2.2.2.2.1), (.slice x25.2.2.2.2.2.2.2.1.base x25.2.2.2.2.2.2.2.1.len x25.2.2.2.2.2.2.2.1.cap)] 0 w_24 fun (w_26 : World) =>
 Ld (.st [.int .i64, .int .i64, .sl, .sl, .int .i64, .sl, .int .i64, .sl]) (⟨b6, 0, none⟩ : Addr) w_26 fun (res27 : (TT [.int .i64, .int .i64, .sl, .sl, .int .i64, .sl, .int .i64, .sl])) =>
 R (res27) (false) w_26)
 (Drw w_24 fun (w_28 : World) =>
 Ld (.st [.int .i64, .int .i64, .sl, .sl, .int .i64, .sl, .int .i64, .sl]) (⟨b4, 0, none⟩ : Addr) w_28 fun (x29 : (TT [.int .i64, .int .i64, .sl, .sl, .int .i64, .sl, .int .i64, .sl])) =>
 Idx r8 0 1 fun (q30 : Addr) =>
 Ld kStr q30 w_28 fun (x31 : ByteArray) =>
 Idx s19 0 1 fun (q32 : Addr) =>
 Ld kStr q32 w_28 fun (x33 : ByteArray) =>
 Cl Tryd.prog [(.st [.int .i64, .int .i64, .sl, .sl, .int .i64, .sl, .int .i64, .sl]), kB] n_ref30_one ⟨[(.agg ⟨[(.int .i64 x29.1), (.int .i64 x29.2.1), (.slice x29.2.2.1.base x29.2.2.1.len x29.2.2.1.cap), (.slice x29.2.2.2.1.base x29.2.2.2.1.len x29.2.2.2.1.cap), (.int .i64 x29.2.2.2.2.1), (.slice x29.2.2.2.2.2.1.base x29.2.2.2.2.2.1.len x29.2.2.2.2.2.1.cap), (.int .i64 x29.2.2.2.2.2.2.1), (.slice x29.2.2.2.2.2.2.2.1.base x29.2.2.2.2.2.2.2.1.len x29.2.2.2.2.2.2.2.1.cap)]⟩), (.string x31), (.string x33)]⟩ w_28 fun (r35 : (TT [.int .i64, .int .i64, .sl, .sl, .int .i64, .sl, .int .i64, .sl])) (r36 : Bool) (w_34 : World) =>
 StC (⟨b6, 0, none⟩ : Addr) [(.int .i64 r35.1), (.int .i64 r35.2.1), (.slice r35.2.2.1.base r35.2.2.1.len r35.2.2.1.cap), (.slice r35.2.2.2.1.base r35.2.2.2.1.len r35.2.2.2.1.cap), (.int .i64 r35.2.2.2.2.1), (.slice r35.2.2.2.2.2.1.base r35.2.2.2.2.2.1.len r35.2.2.2.2.2.1.cap), (.int .i64 r35.2.2.2.2.2.2.1), (.slice r35.2.2.2.2.2.2.2.1.base r35.2.2.2.2.2.2.2.1.len r35.2.2.2.2.2.2.2.1.cap)] 0 w_34 fun (w_37 : World) =>
 Ld (.st [.int .i64, .int .i64, .sl, .sl, .int .i64, .sl, .int .i64, .sl]) (⟨b6, 0, none⟩ : Addr) w_37 fun (res38 : (TT [.int .i64, .int .i64, .sl, .sl, .int .i64, .sl, .int .i64, .sl])) =>
 R (res38) (r36) w_37))
 (Join (fun (t49_40 : Bool) (w_41 : World) =>
 IfB t49_40
 (IfB (((s19.len : Int) : Int) != (1 : Int))
 (Ld (.st [.int .i64, .int .i64, .sl, .sl, .int .i64, .sl, .int .i64, .sl]) (⟨b4, 0, none⟩ : Addr) w_41 fun (x42 : (TT [.int .i64, .int .i64, .sl, .sl, .int .i64, .sl, .int .i64, .sl])) =>
 StC (⟨b6, 0, none⟩ : Addr) [(.int .i64 x42.1), (.int .i64 x42.2.1), (.slice x42.2.2.1.base x42.2.2.1.len x42.2.2.1.cap), (.slice x42.2.2.2.1.base x42.2.2.2.1.len x42.2.2.2.1.cap), (.int .i64 x42.2.2.2.2.1), (.slice x42.2.2.2.2.2.1.base x42.2.2.2.2.2.1.len x42.2.2.2.2.2.1.cap), (.int .i64 x42.2.2.2.2.2.2.1), (.slice x42.2.2.2.2.2.2.2.1.base x42.2.2.2.2.2.2.2.1.len x42.2.2.2.2.2.2.2.1.cap)] 0 w_41 fun (w_43 : World) =>
 Ld (.st [.int .i64, .int .i64, .sl, .sl, .int .i64, .sl, .int .i64, .sl]) (⟨b6, 0, none⟩ : Addr) w_43 fun (res44 : (TT [.int .i64, .int .i64, .sl, .sl, .int .i64, .sl, .int .i64, .sl])) =>
 R (res44) (false) w_43)
 (Drw w_41 fun (w_45 : World) =>
 Ld (.st [.int .i64, .int .i64, .sl, .sl, .int .i64, .sl, .int .i64, .sl]) (⟨b4, 0, none⟩ : Addr) w_45 fun (x46 : (TT [.int .i64, .int .i64, .sl, .sl, .int .i64, .sl, .int .i64, .sl])) =>
 Idx r8 0 1 fun (q47 : Addr) =>
 Ld kStr q47 w_45 fun (x48 : ByteArray) =>
 Idx s19 0 1 fun (q49 : Addr) =>
 Ld kStr q49 w_45 fun (x50 : ByteArray) =>
 Cl Tryd.prog [(.st [.int .i64, .int .i64, .sl, .sl, .int .i64, .sl, .int .i64, .sl]), kB] n_ref30_bytes ⟨[(.agg ⟨[(.int .i64 x46.1), (.int .i64 x46.2.1), (.slice x46.2.2.1.base x46.2.2.1.len x46.2.2.1.cap), (.slice x46.2.2.2.1.base x46.2.2.2.1.len x46.2.2.2.1.cap), (.int .i64 x46.2.2.2.2.1), (.slice x46.2.2.2.2.2.1.base x46.2.2.2.2.2.1.len x46.2.2.2.2.2.1.cap), (.int .i64 x46.2.2.2.2.2.2.1), (.slice x46.2.2.2.2.2.2.2.1.base x46.2.2.2.2.2.2.2.1.len x46.2.2.2.2.2.2.2.1.cap)]⟩), (.string x48), (.string x50)]⟩ w_45 fun (r52 : (TT [.int .i64, .int .i64, .sl, .sl, .int .i64, .sl, .int .i64, .sl])) (r53 : Bool) (w_51 : World) =>
 StC (⟨b6, 0, none⟩ : Addr) [(.int .i64 r52.1), (.int .i64 r52.2.1), (.slice r52.2.2.1.base r52.2.2.1.len r52.2.2.1.cap), (.slice r52.2.2.2.1.base r52.2.2.2.1.len r52.2.2.2.1.cap), (.int .i64 r52.2.2.2.2.1), (.slice r52.2.2.2.2.2.1.base r52.2.2.2.2.2.1.len r52.2.2.2.2.2.1.cap), (.int .i64 r52.2.2.2.2.2.2.1), (.slice r52.2.2.2.2.2.2.2.1.base r52.2.2.2.2.2.2.2.1.len r52.2.2.2.2.2.2.2.1.cap)] 0 w_51 fun (w_54 : World) =>
 Ld (.st [.int .i64, .int .i64, .sl, .sl, .int .i64, .sl, .int .i64, .sl]) (⟨b6, 0, none⟩ : Addr) w_54 fun (res55 : (TT [.int .i64, .int .i64, .sl, .sl, .int .i64, .sl, .int .i64, .sl])) =>
 R (res55) (r53) w_54))
 (IfB ((x21).toList == ((ByteArray.mk #[102, 108, 117, 115, 104])).toList)
 (Ld kS ((⟨b4, 0, none⟩ : Addr).add 2) w_41 fun (Deeds56 : Sl) =>
 Nw 40 ⟨[(.bool true), (.slice none 0 0)]⟩ w_41 fun (b58 : Nat) (w_57 : World) =>
 Run Tryd.prog (Builtin.append_ #[22, 22] 22 ⟨[(.slice Deeds56.base Deeds56.len Deeds56.cap), (.slice (⟨some ⟨b58, 0, none⟩, 1, 1⟩ : Sl).base (⟨some ⟨b58, 0, none⟩, 1, 1⟩ : Sl).len (⟨some ⟨b58, 0, none⟩, 1, 1⟩ : Sl).cap)]⟩) kS w_57 fun (s60 : Sl) (w_59 : World) =>
 St ((⟨b4, 0, none⟩ : Addr).add 2) (.slice s60.base s60.len s60.cap) w_59 fun (w_61 : World) =>
 Ld (.st [.int .i64, .int .i64, .sl, .sl, .int .i64, .sl, .int .i64, .sl]) (⟨b4, 0, none⟩ : Addr) w_61 fun (x62 : (TT [.int .i64, .int .i64, .sl, .sl, .int .i64, .sl, .int .i64, .sl])) =>
 StC (⟨b6, 0, none⟩ : Addr) [(.int .i64 x62.1), (.int .i64 x62.2.1), (.slice x62.2.2.1.base x62.2.2.1.len x62.2.2.1.cap), (.slice x62.2.2.2.1.base x62.2.2.2.1.len x62.2.2.2.1.cap), (.int .i64 x62.2.2.2.2.1), (.slice x62.2.2.2.2.2.1.base x62.2.2.2.2.2.1.len x62.2.2.2.2.2.1.cap), (.int .i64 x62.2.2.2.2.2.2.1), (.slice x62.2.2.2.2.2.2.2.1.base x62.2.2.2.2.2.2.2.1.len x62.2.2.2.2.2.2.2.1.cap)] 0 w_61 fun (w_63 : World) =>
 Ld (.st [.int .i64, .int .i64, .sl, .sl, .int .i64, .sl, .int .i64, .sl]) (⟨b6, 0, none⟩ : Addr) w_63 fun (res64 : (TT [.int .i64, .int .i64, .sl, .sl, .int .i64, .sl, .int .i64, .sl])) =>
 R (res64) ((((s19.len : Int) : Int) == (0 : Int))) w_63)
 (IfB ((x21).toList == ((ByteArray.mk #[99, 117, 116, 115])).toList)
 (Ld (.st [.int .i64, .int .i64, .sl, .sl, .int .i64, .sl, .int .i64, .sl]) (⟨b4, 0, none⟩ : Addr) w_41 fun (x65 : (TT [.int .i64, .int .i64, .sl, .sl, .int .i64, .sl, .int .i64, .sl])) =>
 Cl Tryd.prog [(.st [.int .i64, .int .i64, .sl, .sl, .int .i64, .sl, .int .i64, .sl]), kB] n_ref30_cuts ⟨[(.agg ⟨[(.int .i64 x65.1), (.int .i64 x65.2.1), (.slice x65.2.2.1.base x65.2.2.1.len x65.2.2.1.cap), (.slice x65.2.2.2.1.base x65.2.2.2.1.len x65.2.2.2.1.cap), (.int .i64 x65.2.2.2.2.1), (.slice x65.2.2.2.2.2.1.base x65.2.2.2.2.2.1.len x65.2.2.2.2.2.1.cap), (.int .i64 x65.2.2.2.2.2.2.1), (.slice x65.2.2.2.2.2.2.2.1.base x65.2.2.2.2.2.2.2.1.len x65.2.2.2.2.2.2.2.1.cap)]⟩), (.slice s19.base s19.len s19.cap)]⟩ w_41 fun (r67 : (TT [.int .i64, .int .i64, .sl, .sl, .int .i64, .sl, .int .i64, .sl])) (r68 : Bool) (w_66 : World) =>
 StC (⟨b6, 0, none⟩ : Addr) [(.int .i64 r67.1), (.int .i64 r67.2.1), (.slice r67.2.2.1.base r67.2.2.1.len r67.2.2.1.cap), (.slice r67.2.2.2.1.base r67.2.2.2.1.len r67.2.2.2.1.cap), (.int .i64 r67.2.2.2.2.1), (.slice r67.2.2.2.2.2.1.base r67.2.2.2.2.2.1.len r67.2.2.2.2.2.1.cap), (.int .i64 r67.2.2.2.2.2.2.1), (.slice r67.2.2.2.2.2.2.2.1.base r67.2.2.2.2.2.2.2.1.len r67.2.2.2.2.2.2.2.1.cap)] 0 w_66 fun (w_69 : World) =>
 Ld (.st [.int .i64, .int .i64, .sl, .sl, .int .i64, .sl, .int .i64, .sl]) (⟨b6, 0, none⟩ : Addr) w_69 fun (res70 : (TT [.int .i64, .int .i64, .sl, .sl, .int .i64, .sl, .int .i64, .sl])) =>
 R (res70) (r68) w_69)
 (IfB ((x21).toList == ((ByteArray.mk #[115, 112, 111, 105, 108])).toList)
 (IfB (((s19.len : Int) : Int) != (2 : Int))
 (Ld (.st [.int .i64, .int .i64, .sl, .sl, .int .i64, .sl, .int .i64, .sl]) (⟨b4, 0, none⟩ : Addr) w_41 fun (x71 : (TT [.int .i64, .int .i64, .sl, .sl, .int .i64, .sl, .int .i64, .sl])) =>
 StC (⟨b6, 0, none⟩ : Addr) [(.int .i64 x71.1), (.int .i64 x71.2.1), (.slice x71.2.2.1.base x71.2.2.1.len x71.2.2.1.cap), (.slice x71.2.2.2.1.base x71.2.2.2.1.len x71.2.2.2.1.cap), (.int .i64 x71.2.2.2.2.1), (.slice x71.2.2.2.2.2.1.base x71.2.2.2.2.2.1.len x71.2.2.2.2.2.1.cap), (.int .i64 x71.2.2.2.2.2.2.1), (.slice x71.2.2.2.2.2.2.2.1.base x71.2.2.2.2.2.2.2.1.len x71.2.2.2.2.2.2.2.1.cap)] 0 w_41 fun (w_72 : World) =>
 Ld (.st [.int .i64, .int .i64, .sl, .sl, .int .i64, .sl, .int .i64, .sl]) (⟨b6, 0, none⟩ : Addr) w_72 fun (res73 : (TT [.int .i64, .int .i64, .sl, .sl, .int .i64, .sl, .int .i64, .sl])) =>
 R (res73) (false) w_72)
 (Idx s19 0 1 fun (q74 : Addr) =>
 Ld kStr q74 w_41 fun (x75 : ByteArray) =>
 Cl Tryd.prog [kI, kB] n_ref30_number ⟨[(.string x75)]⟩ w_41 fun (r77 : Int) (r78 : Bool) (w_76 : World) =>
 Idx s19 1 1 fun (q79 : Addr) =>
 Ld kStr q79 w_76 fun (x80 : ByteArray) =>
 Cl Tryd.prog [kS, kB] n_ref30_unhex ⟨[(.string x80)]⟩ w_76 fun (r82 : Sl) (r83 : Bool) (w_81 : World) =>
 IfB (!r78)
 (Ld (.st [.int .i64, .int .i64, .sl, .sl, .int .i64, .sl, .int .i64, .sl]) (⟨b4, 0, none⟩ : Addr) w_81 fun (x84 : (TT [.int .i64, .int .i64, .sl, .sl, .int .i64, .sl, .int .i64, .sl])) =>
 StC (⟨b6, 0, none⟩ : Addr) [(.int .i64 x84.1), (.int .i64 x84.2.1), (.slice x84.2.2.1.base x84.2.2.1.len x84.2.2.1.cap), (.slice x84.2.2.2.1.base x84.2.2.2.1.len x84.2.2.2.1.cap), (.int .i64 x84.2.2.2.2.1), (.slice x84.2.2.2.2.2.1.base x84.2.2.2.2.2.1.len x84.2.2.2.2.2.1.cap), (.int .i64 x84.2.2.2.2.2.2.1), (.slice x84.2.2.2.2.2.2.2.1.base x84.2.2.2.2.2.2.2.1.len x84.2.2.2.2.2.2.2.1.cap)] 0 w_81 fun (w_85 : World) =>
 Ld (.st [.int .i64, .int .i64, .sl, .sl, .int .i64, .sl, .int .i64, .sl]) (⟨b6, 0, none⟩ : Addr) w_85 fun (res86 : (TT [.int .i64, .int .i64, .sl, .sl, .int .i64, .sl, .int .i64, .sl])) =>
 R (res86) (false) w_85)
 (IfB (!r83)
 (Ld (.st [.int .i64, .int .i64, .sl, .sl, .int .i64, .sl, .int .i64, .sl]) (⟨b4, 0, none⟩ : Addr) w_81 fun (x87 : (TT [.int .i64, .int .i64, .sl, .sl, .int .i64, .sl, .int .i64, .sl])) =>
 StC (⟨b6, 0, none⟩ : Addr) [(.int .i64 x87.1), (.int .i64 x87.2.1), (.slice x87.2.2.1.base x87.2.2.1.len x87.2.2.1.cap), (.slice x87.2.2.2.1.base x87.2.2.2.1.len x87.2.2.2.1.cap), (.int .i64 x87.2.2.2.2.1), (.slice x87.2.2.2.2.2.1.base x87.2.2.2.2.2.1.len x87.2.2.2.2.2.1.cap), (.int .i64 x87.2.2.2.2.2.2.1), (.slice x87.2.2.2.2.2.2.2.1.base x87.2.2.2.2.2.2.2.1.len x87.2.2.2.2.2.2.2.1.cap)] 0 w_81 fun (w_88 : World) =>
 Ld (.st [.int .i64, .int .i64, .sl, .sl, .int .i64, .sl, .int .i64, .sl]) (⟨b6, 0, none⟩ : Addr) w_88 fun (res89 : (TT [.int .i64, .int .i64, .sl, .sl, .int .i64, .sl, .int .i64, .sl])) =>
 R (res89) (false) w_88)
 (IfB (((r82.len : Int) : Int) != (1 : Int))
 (Ld (.st [.int .i64, .int .i64, .sl, .sl, .int .i64, .sl, .int .i64, .sl]) (⟨b4, 0, none⟩ : Addr) w_81 fun (x90 : (TT [.int .i64, .int .i64, .sl, .sl, .int .i64, .sl, .int .i64, .sl])) =>
 StC (⟨b6, 0, none⟩ : Addr) [(.int .i64 x90.1), (.int .i64 x90.2.1), (.slice x90.2.2.1.base x90.2.2.1.len x90.2.2.1.cap), (.slice x90.2.2.2.1.base x90.2.2.2.1.len x90.2.2.2.1.cap), (.int .i64 x90.2.2.2.2.1), (.slice x90.2.2.2.2.2.1.base x90.2.2.2.2.2.1.len x90.2.2.2.2.2.1.cap), (.int .i64 x90.2.2.2.2.2.2.1), (.slice x90.2.2.2.2.2.2.2.1.base x90.2.2.2.2.2.2.2.1.len x90.2.2.2.2.2.2.2.1.cap)] 0 w_81 fun (w_91 : World) =>
 Ld (.st [.int .i64, .int .i64, .sl, .sl, .int .i64, .sl, .int .i64, .sl]) (⟨b6, 0, none⟩ : Addr) w_91 fun (res92 : (TT [.int .i64, .int .i64, .sl, .sl, .int .i64, .sl, .int .i64, .sl])) =>
 R (res92) (false) w_91)
 (Drw w_81 fun (w_93 : World) =>
 Idx r82 0 1 fun (q94 : Addr) =>
 Ld (kInt .u8) q94 w_93 fun (x95 : Int) =>
 (Ld kS ((⟨b4, 0, none⟩ : Addr).add 3) w_93 fun (Spoils96 : Sl) =>
 Nw 47 ⟨[(.int .i64 r77), (.int .u8 x95)]⟩ w_93 fun (b98 : Nat) (w_97 : World) =>
 Run Tryd.prog (Builtin.append_ #[23, 23] 23 ⟨[(.slice Spoils96.base Spoils96.len Spoils96.cap), (.slice (⟨some ⟨b98, 0, none⟩, 1, 1⟩ : Sl).base (⟨some ⟨b98, 0, none⟩, 1, 1⟩ : Sl).len (⟨some ⟨b98, 0, none⟩, 1, 1⟩ : Sl).cap)]⟩) kS w_97 fun (s100 : Sl) (w_99 : World) =>
 St ((⟨b4, 0, none⟩ : Addr).add 3) (.slice s100.base s100.len s100.cap) w_99 fun (w_101 : World) =>
 Ld (.st [.int .i64, .int .i64, .sl, .sl, .int .i64, .sl, .int .i64, .sl]) (⟨b4, 0, none⟩ : Addr) w_101 fun (x102 : (TT [.int .i64, .int .i64, .sl, .sl, .int .i64, .sl, .int .i64, .sl])) =>
 StC (⟨b6, 0, none⟩ : Addr) [(.int .i64 x102.1), (.int .i64 x102.2.1), (.slice x102.2.2.1.base x102.2.2.1.len x102.2.2.1.cap), (.slice x102.2.2.2.1.base x102.2.2.2.1.len x102.2.2.2.1.cap), (.int .i64 x102.2.2.2.2.1), (.slice x102.2.2.2.2.2.1.base x102.2.2.2.2.2.1.len x102.2.2.2.2.2.1.cap), (.int .i64 x102.2.2.2.2.2.2.1), (.slice x102.2.2.2.2.2.2.2.1.base x102.2.2.2.2.2.2.2.1.len x102.2.2.2.2.2.2.2.1.cap)] 0 w_101 fun (w_103 : World) =>
 Ld (.st [.int .i64, .int .i64, .sl, .sl, .int .i64, .sl, .int .i64, .sl]) (⟨b6, 0, none⟩ : Addr) w_103 fun (res104 : (TT [.int .i64, .int .i64, .sl, .sl, .int .i64, .sl, .int .i64, .sl])) =>
 R (res104) (true) w_103) ∧
 (Nw 47 ⟨[(.int .i64 r77), (.int .u8 x95)]⟩ w_93 fun (b106 : Nat) (w_105 : World) =>
 Ld kS ((⟨b4, 0, none⟩ : Addr).add 3) w_105 fun (Spoils107 : Sl) =>
 Run Tryd.prog (Builtin.append_ #[23, 23] 23 ⟨[(.slice Spoils107.base Spoils107.len Spoils107.cap), (.slice (⟨some ⟨b106, 0, none⟩, 1, 1⟩ : Sl).base (⟨some ⟨b106, 0, none⟩, 1, 1⟩ : Sl).len (⟨some ⟨b106, 0, none⟩, 1, 1⟩ : Sl).cap)]⟩) kS w_105 fun (s109 : Sl) (w_108 : World) =>
 St ((⟨b4, 0, none⟩ : Addr).add 3) (.slice s109.base s109.len s109.cap) w_108 fun (w_110 : World) =>
 Ld (.st [.int .i64, .int .i64, .sl, .sl, .int .i64, .sl, .int .i64, .sl]) (⟨b4, 0, none⟩ : Addr) w_110 fun (x111 : (TT [.int .i64, .int .i64, .sl, .sl, .int .i64, .sl, .int .i64, .sl])) =>
 StC (⟨b6, 0, none⟩ : Addr) [(.int .i64 x111.1), (.int .i64 x111.2.1), (.slice x111.2.2.1.base x111.2.2.1.len x111.2.2.1.cap), (.slice x111.2.2.2.1.base x111.2.2.2.1.len x111.2.2.2.1.cap), (.int .i64 x111.2.2.2.2.1), (.slice x111.2.2.2.2.2.1.base x111.2.2.2.2.2.1.len x111.2.2.2.2.2.1.cap), (.int .i64 x111.2.2.2.2.2.2.1), (.slice x111.2.2.2.2.2.2.2.1.base x111.2.2.2.2.2.2.2.1.len x111.2.2.2.2.2.2.2.1.cap)] 0 w_110 fun (w_112 : World) =>
 Ld (.st [.int .i64, .int .i64, .sl, .sl, .int .i64, .sl, .int .i64, .sl]) (⟨b6, 0, none⟩ : Addr) w_112 fun (res113 : (TT [.int .i64, .int .i64, .sl, .sl, .int .i64, .sl, .int .i64, .sl])) =>
 R (res113) (true) w_112))))))
 (Ld (.st [.int .i64, .int .i64, .sl, .sl, .int .i64, .sl, .int .i64, .sl]) (⟨b4, 0, none⟩ : Addr) w_41 fun (x114 : (TT [.int .i64, .int .i64, .sl, .sl, .int .i64, .sl, .int .i64, .sl])) =>
 StC (⟨b6, 0, none⟩ : Addr) [(.int .i64 x114.1), (.int .i64 x114.2.1), (.slice x114.2.2.1.base x114.2.2.1.len x114.2.2.1.cap), (.slice x114.2.2.2.1.base x114.2.2.2.1.len x114.2.2.2.1.cap), (.int .i64 x114.2.2.2.2.1), (.slice x114.2.2.2.2.2.1.base x114.2.2.2.2.2.1.len x114.2.2.2.2.2.1.cap), (.int .i64 x114.2.2.2.2.2.2.1), (.slice x114.2.2.2.2.2.2.2.1.base x114.2.2.2.2.2.2.2.1.len x114.2.2.2.2.2.2.2.1.cap)] 0 w_41 fun (w_115 : World) =>
 Ld (.st [.int .i64, .int .i64, .sl, .sl, .int .i64, .sl, .int .i64, .sl]) (⟨b6, 0, none⟩ : Addr) w_115 fun (res116 : (TT [.int .i64, .int .i64, .sl, .sl, .int .i64, .sl, .int .i64, .sl])) =>
 R (res116) (false) w_115))))) fun (K_39 : Bool → World → Prop) =>
 IfB ((x21).toList == ((ByteArray.mk #[119, 114, 105, 116, 101])).toList)
 (K_39 (((x21).toList == ((ByteArray.mk #[119, 114, 105, 116, 101])).toList)) w_24)
 (K_39 (((x21).toList == ((ByteArray.mk #[98, 101, 104, 105, 110, 100])).toList)) w_24))) fun (K_22 : Bool → World → Prop) =>
 IfB ((x21).toList == ((ByteArray.mk #[115, 105, 122, 101])).toList)
 (K_22 (((x21).toList == ((ByteArray.mk #[115, 105, 122, 101])).toList)) w_18)
 (IfB ((x21).toList == ((ByteArray.mk #[98, 117, 100, 103, 101, 116])).toList)
 (K_22 (((x21).toList == ((ByteArray.mk #[98, 117, 100, 103, 101, 116])).toList)) w_18)
 (IfB ((x21).toList == ((ByteArray.mk #[114, 111, 111, 109])).toList)
 (K_22 (((x21).toList == ((ByteArray.mk #[114, 111, 111, 109])).toList)) w_18)
 (K_22 (((x21).toList == ((ByteArray.mk #[100, 114, 111, 112])).toList)) w_18)))) fun (K_9 : World → Prop) =>
 IfB (((r8.len : Int) : Int) == (0 : Int))
 (Ld (.st [.int .i64, .int .i64, .sl, .sl, .int .i64, .sl, .int .i64, .sl]) (⟨b4, 0, none⟩ : Addr) w_7 fun (x10 : (TT [.int .i64, .int .i64, .sl, .sl, .int .i64, .sl, .int .i64, .sl])) =>
 StC (⟨b6, 0, none⟩ : Addr) [(.int .i64 x10.1), (.int .i64 x10.2.1), (.slice x10.2.2.1.base x10.2.2.1.len x10.2.2.1.cap), (.slice x10.2.2.2.1.base x10.2.2.2.1.len x10.2.2.2.1.cap), (.int .i64 x10.2.2.2.2.1), (.slice x10.2.2.2.2.2.1.base x10.2.2.2.2.2.1.len x10.2.2.2.2.2.1.cap), (.int .i64 x10.2.2.2.2.2.2.1), (.slice x10.2.2.2.2.2.2.2.1.base x10.2.2.2.2.2.2.2.1.len x10.2.2.2.2.2.2.2.1.cap)] 0 w_7 fun (w_11 : World) =>
 Ld (.st [.int .i64, .int .i64, .sl, .sl, .int .i64, .sl, .int .i64, .sl]) (⟨b6, 0, none⟩ : Addr) w_11 fun (res12 : (TT [.int .i64, .int .i64, .sl, .sl, .int .i64, .sl, .int .i64, .sl])) =>
 R (res12) (true) w_11)
 (Idx r8 0 1 fun (q13 : Addr) =>
 Ld kStr q13 w_7 fun (x14 : ByteArray) =>
 0 ≤ (0 : Int) ∧ (0 : Int) < ((x14).size : Int) ∧
 IfB (((strAt x14 (0 : Int).toNat) : Int) == (35 : Int))
 (Ld (.st [.int .i64, .int .i64, .sl, .sl, .int .i64, .sl, .int .i64, .sl]) (⟨b4, 0, none⟩ : Addr) w_7 fun (x15 : (TT [.int .i64, .int .i64, .sl, .sl, .int .i64, .sl, .int .i64, .sl])) =>
 StC (⟨b6, 0, none⟩ : Addr) [(.int .i64 x15.1), (.int .i64 x15.2.1), (.slice x15.2.2.1.base x15.2.2.1.len x15.2.2.1.cap), (.slice x15.2.2.2.1.base x15.2.2.2.1.len x15.2.2.2.1.cap), (.int .i64 x15.2.2.2.2.1), (.slice x15.2.2.2.2.2.1.base x15.2.2.2.2.2.1.len x15.2.2.2.2.2.1.cap), (.int .i64 x15.2.2.2.2.2.2.1), (.slice x15.2.2.2.2.2.2.2.1.base x15.2.2.2.2.2.2.2.1.len x15.2.2.2.2.2.2.2.1.cap)] 0 w_7 fun (w_16 : World) =>
 Ld (.st [.int .i64, .int .i64, .sl, .sl, .int .i64, .sl, .int .i64, .sl]) (⟨b6, 0, none⟩ : Addr) w_16 fun (res17 : (TT [.int .i64, .int .i64, .sl, .sl, .int .i64, .sl, .int .i64, .sl])) =>
 R (res17) (true) w_16)
 (K_9  w_7))
set_option maxRecDepth 100000 in
theorem ref30_says.ok (s1 : (TT [.int .i64, .int .i64, .sl, .sl, .int .i64, .sl, .int .i64, .sl])) (line2 : ByteArray) (R : (TT [.int .i64, .int .i64, .sl, .sl, .int .i64, .sl, .int .i64, .sl]) → Bool → World → Prop) (w : World) (h : ref30_says.E s1 line2 R w) : Cl Tryd.prog [(.st [.int .i64, .int .i64, .sl, .sl, .int .i64, .sl, .int .i64, .sl]), kB] n_ref30_says ⟨[(.agg ⟨[(.int .i64 s1.1), (.int .i64 s1.2.1), (.slice s1.2.2.1.base s1.2.2.1.len s1.2.2.1.cap), (.slice s1.2.2.2.1.base s1.2.2.2.1.len s1.2.2.2.1.cap), (.int .i64 s1.2.2.2.2.1), (.slice s1.2.2.2.2.2.1.base s1.2.2.2.2.2.1.len s1.2.2.2.2.2.1.cap), (.int .i64 s1.2.2.2.2.2.2.1), (.slice s1.2.2.2.2.2.2.2.1.base s1.2.2.2.2.2.2.2.1.len s1.2.2.2.2.2.2.2.1.cap)]⟩), (.string line2)]⟩ w R :=
  calls_of_eq Tryd.mix Tryd.f22 [(.agg ⟨[(.int .i64 s1.1), (.int .i64 s1.2.1), (.slice s1.2.2.1.base s1.2.2.1.len s1.2.2.1.cap), (.slice s1.2.2.2.1.base s1.2.2.2.1.len s1.2.2.2.1.cap), (.int .i64 s1.2.2.2.2.1), (.slice s1.2.2.2.2.2.1.base s1.2.2.2.2.2.1.len s1.2.2.2.2.2.1.cap), (.int .i64 s1.2.2.2.2.2.2.1), (.slice s1.2.2.2.2.2.2.2.1.base s1.2.2.2.2.2.2.2.1.len s1.2.2.2.2.2.2.2.1.cap)]⟩), (.string line2)] [(.st [.int .i64, .int .i64, .sl, .sl, .int .i64, .sl, .int .i64, .sl]), kB] R 129 [.cell 4 27, .tmp 5] (by kernel_rfl) (by kernel_rfl) (by kernel_rfl) (by kernel_rfl) (by kernel_rfl)
    (.s .o (.s .o (.j [] (.s .o (.c (.s .o .o) .o)) (.s .o (.s (.s .o (.b (.j [(30, kB)] (.s .o (.c .o (.s .o (.c .o (.s .o (.c .o .o)))))) (.c (.s (.s .o (.c (.s .o .o) .o)) (.s .o .o)) (.j [(49, kB)] (.s .o (.c .o .o)) (.c (.s (.s .o (.c (.s .o .o) .o)) (.s .o .o)) (.s .o (.c (.s .o (.s .o .o)) (.s .o (.c (.s .o .o) (.s .o (.c (.s (.s .o (.c (.s .o .o) .o)) (.s .o (.s .o (.s (.s .o (.c (.s .o .o) .o)) (.s (.b .o) (.s .o .o)))))) .o)))))))))))) (.s .o .o))))))
    (by kernel_rfl) h
/-- winepressref30.told -/
def ref30_told.E (l1 : Sl) (R : Bool → World → Prop) (w : World) : Prop :=
 ∃ (I_2 : Int → World → Prop) (m_3 : Int → World → Nat), I_2 (0) w ∧
 ∀ (i4 : Int), ∀ (w_5 : World), I_2 i4 w_5 →
 IfB (decide ((i4 : Int) < ((l1.len : Int) : Int)))
 (Idx l1 i4 1 fun (q6 : Addr) =>
 Ld kI q6 w_5 fun (x7 : Int) =>
 IfB (decide ((x7 : Int) < ((-4611686018427387904) : Int)))
 (R (false) w_5)
 (Idx l1 i4 1 fun (q8 : Addr) =>
 Ld kI q8 w_5 fun (x9 : Int) =>
 IfB (decide ((x9 : Int) > (4611686018427387904 : Int)))
 (R (false) w_5)
 (I_2 ((i64 ((i4 : Int) + (1 : Int)))) w_5 ∧ m_3 ((i64 ((i4 : Int) + (1 : Int)))) w_5 < m_3 i4 w_5)))
 (R (true) w_5)
theorem ref30_told.ok (l1 : Sl) (R : Bool → World → Prop) (w : World) (h : ref30_told.E l1 R w) : Cl Tryd.prog [kB] n_ref30_told ⟨[(.slice l1.base l1.len l1.cap)]⟩ w R :=
  calls_of_eq Tryd.mix Tryd.f30 [(.slice l1.base l1.len l1.cap)] [kB] R 22 [.tmp 2] (by kernel_rfl) (by kernel_rfl) (by kernel_rfl) (by kernel_rfl) (by kernel_rfl)
    (.s .o (.s (.s .o (.b (.l [(3, kI)] (.s (.s .o (.c .o .o)) (.s (.b (.s .o (.c (.s .o .o) .o))) .o))))) (.s .o .o)))
    (by kernel_rfl) h
/-- winepressref30.Digits -/
def ref30_Digits.E (n1 : Int) (R : ByteArray → World → Prop) (w : World) : Prop :=
 IfB (decide ((n1 : Int) < (0 : Int)))
 (Cl Tryd.prog [kStr] n_ref30_Digits ⟨[(.int .i64 (IntKind.wrap .i64 (0 - n1)))]⟩ w fun (r3 : ByteArray) (w_2 : World) =>
 (((ByteArray.mk #[45])).size : Int) + ((r3).size : Int) ≤ 9223372036854775807 ∧
 R (((ByteArray.mk #[45]) ++ r3)) w_2)
 ((10 : Int) ≠ 0 ∧
 (10 : Int) ≠ 0 ∧
 SlcS (ByteArray.mk #[48, 49, 50, 51, 52, 53, 54, 55, 56, 57]) (Int.tmod (n1 : Int) (10 : Int)) (i64 (((Int.tmod (n1 : Int) (10 : Int)) : Int) + (1 : Int))) fun (s4 : ByteArray) =>
 IfB (decide ((n1 : Int) < (10 : Int)))
 (R (s4) w)
 ((10 : Int) ≠ 0 ∧
 Cl Tryd.prog [kStr] n_ref30_Digits ⟨[(.int .i64 (i64 (Int.tdiv (n1 : Int) (10 : Int))))]⟩ w fun (r6 : ByteArray) (w_5 : World) =>
 ((r6).size : Int) + ((s4).size : Int) ≤ 9223372036854775807 ∧
 R ((r6 ++ s4)) w_5))
theorem ref30_Digits.ok (n1 : Int) (R : ByteArray → World → Prop) (w : World) (h : ref30_Digits.E n1 R w) : Cl Tryd.prog [kStr] n_ref30_Digits ⟨[(.int .i64 n1)]⟩ w R :=
  calls_of_eq Tryd.mix Tryd.f31 [(.int .i64 n1)] [kStr] R 26 [.tmp 2] (by kernel_rfl) (by kernel_rfl) (by kernel_rfl) (by kernel_rfl) (by kernel_rfl)
    (.s .o (.s (.s .o (.c (.s .o .o) .o)) (.s .o (.s .o (.s (.s .o (.c (.s .o .o) .o)) (.s .o .o))))))
    (by kernel_rfl) h
set_option maxRecDepth 100000 in
/-- winepressref30.words -/
def ref30_words.E (l1 : ByteArray) (R : Sl → World → Prop) (w : World) : Prop :=
 ∃ (I_2 : Sl → Int → World → Prop) (m_3 : Sl → Int → World → Nat), I_2 ((⟨none, 0, 0⟩ : Sl)) (0) w ∧
 ∀ (out4 : Sl) (at_5 : Int), ∀ (w_6 : World), I_2 out4 at_5 w_6 →
 IfB (decide ((at_5 : Int) < (((l1).size : Int) : Int)))
 (∃ (I_7 : Int → World → Prop) (m_8 : Int → World → Nat), I_7 (at_5) w_6 ∧
 ∀ (end_9 : Int), ∀ (w_10 : World), I_7 end_9 w_10 →
 IfB (decide ((end_9 : Int) < (((l1).size : Int) : Int)))
 (0 ≤ (end_9 : Int) ∧ (end_9 : Int) < ((l1).size : Int) ∧
 IfB (((strAt l1 (end_9 : Int).toNat) : Int) != (32 : Int))
 (I_7 ((i64 ((end_9 : Int) + (1 : Int)))) w_10 ∧ m_8 ((i64 ((end_9 : Int) + (1 : Int)))) w_10 < m_8 end_9 w_10)
 (IfB (decide ((end_9 : Int) > (at_5 : Int)))
 (SlcS l1 at_5 end_9 fun (s11 : ByteArray) =>
 Nw 9 ⟨[(.string s11)]⟩ w_10 fun (b13 : Nat) (w_12 : World) =>
 Run Tryd.prog (Builtin.append_ #[42, 42] 42 ⟨[(.slice out4.base out4.len out4.cap), (.slice (⟨some ⟨b13, 0, none⟩, 1, 1⟩ : Sl).base (⟨some ⟨b13, 0, none⟩, 1, 1⟩ : Sl).len (⟨some ⟨b13, 0, none⟩, 1, 1⟩ : Sl).cap)]⟩) kS w_12 fun (s15 : Sl) (w_14 : World) =>
 I_2 (s15) ((i64 ((end_9 : Int) + (1 : Int)))) w_14 ∧ m_3 (s15) ((i64 ((end_9 : Int) + (1 : Int)))) w_14 < m_3 out4 at_5 w_6)
 (I_2 (out4) ((i64 ((end_9 : Int) + (1 : Int)))) w_10 ∧ m_3 (out4) ((i64 ((end_9 : Int) + (1 : Int)))) w_10 < m_3 out4 at_5 w_6)))
 (IfB (decide ((end_9 : Int) > (at_5 : Int)))
 (SlcS l1 at_5 end_9 fun (s16 : ByteArray) =>
 Nw 9 ⟨[(.string s16)]⟩ w_10 fun (b18 : Nat) (w_17 : World) =>
 Run Tryd.prog (Builtin.append_ #[42, 42] 42 ⟨[(.slice out4.base out4.len out4.cap), (.slice (⟨some ⟨b18, 0, none⟩, 1, 1⟩ : Sl).base (⟨some ⟨b18, 0, none⟩, 1, 1⟩ : Sl).len (⟨some ⟨b18, 0, none⟩, 1, 1⟩ : Sl).cap)]⟩) kS w_17 fun (s20 : Sl) (w_19 : World) =>
 I_2 (s20) ((i64 ((end_9 : Int) + (1 : Int)))) w_19 ∧ m_3 (s20) ((i64 ((end_9 : Int) + (1 : Int)))) w_19 < m_3 out4 at_5 w_6)
 (I_2 (out4) ((i64 ((end_9 : Int) + (1 : Int)))) w_10 ∧ m_3 (out4) ((i64 ((end_9 : Int) + (1 : Int)))) w_10 < m_3 out4 at_5 w_6)))
 (R (out4) w_6)
set_option maxRecDepth 100000 in
theorem ref30_words.ok (l1 : ByteArray) (R : Sl → World → Prop) (w : World) (h : ref30_words.E l1 R w) : Cl Tryd.prog [kS] n_ref30_words ⟨[(.string l1)]⟩ w R :=
  calls_of_eq Tryd.mix Tryd.f44 [(.string l1)] [kS] R 36 [.tmp 2] (by kernel_rfl) (by kernel_rfl) (by kernel_rfl) (by kernel_rfl) (by kernel_rfl)
    (.s .o (.s .o (.s .o (.s (.b (.l [(3, kS), (4, kI)] (.s (.s .o (.c .o .o)) (.b (.s .o (.s (.b (.l [(5, kI)] (.s (.s .o (.c .o .o)) (.b .o)))) (.s (.s .o (.c .o .o)) .o))))))) (.s .o .o)))))
    (by kernel_rfl) h
set_option maxRecDepth 100000 in
/-- winepressref30.one -/
def ref30_one.E (s1 : (TT [.int .i64, .int .i64, .sl, .sl, .int .i64, .sl, .int .i64, .sl])) (name2 : ByteArray) (w_3 : ByteArray) (R : (TT [.int .i64, .int .i64, .sl, .sl, .int .i64, .sl, .int .i64, .sl]) → Bool → World → Prop) (w : World) : Prop :=
 Nw 27 ⟨[(.int .i64 s1.1), (.int .i64 s1.2.1), (.slice s1.2.2.1.base s1.2.2.1.len s1.2.2.1.cap), (.slice s1.2.2.2.1.base s1.2.2.2.1.len s1.2.2.2.1.cap), (.int .i64 s1.2.2.2.2.1), (.slice s1.2.2.2.2.2.1.base s1.2.2.2.2.2.1.len s1.2.2.2.2.2.1.cap), (.int .i64 s1.2.2.2.2.2.2.1), (.slice s1.2.2.2.2.2.2.2.1.base s1.2.2.2.2.2.2.2.1.len s1.2.2.2.2.2.2.2.1.cap)]⟩ w fun (b5 : Nat) (w_4 : World) =>
 Nw 27 ⟨[(.int .i64 0), (.int .i64 0), (.slice none 0 0), (.slice none 0 0), (.int .i64 0), (.slice none 0 0), (.int .i64 0), (.slice none 0 0)]⟩ w_4 fun (b7 : Nat) (w_6 : World) =>
 Cl Tryd.prog [kI, kB] n_ref30_number ⟨[(.string w_3)]⟩ w_6 fun (r9 : Int) (r10 : Bool) (w_8 : World) =>
 IfB ((name2).toList == ((ByteArray.mk #[115, 105, 122, 101])).toList)
 (St ((⟨b5, 0, none⟩ : Addr).add 0) (.int .i64 r9) w_8 fun (w_11 : World) =>
 Ld (.st [.int .i64, .int .i64, .sl, .sl, .int .i64, .sl, .int .i64, .sl]) (⟨b5, 0, none⟩ : Addr) w_11 fun (x12 : (TT [.int .i64, .int .i64, .sl, .sl, .int .i64, .sl, .int .i64, .sl])) =>
 StC (⟨b7, 0, none⟩ : Addr) [(.int .i64 x12.1), (.int .i64 x12.2.1), (.slice x12.2.2.1.base x12.2.2.1.len x12.2.2.1.cap), (.slice x12.2.2.2.1.base x12.2.2.2.1.len x12.2.2.2.1.cap), (.int .i64 x12.2.2.2.2.1), (.slice x12.2.2.2.2.2.1.base x12.2.2.2.2.2.1.len x12.2.2.2.2.2.1.cap), (.int .i64 x12.2.2.2.2.2.2.1), (.slice x12.2.2.2.2.2.2.2.1.base x12.2.2.2.2.2.2.2.1.len x12.2.2.2.2.2.2.2.1.cap)] 0 w_11 fun (w_13 : World) =>
 Ld (.st [.int .i64, .int .i64, .sl, .sl, .int .i64, .sl, .int .i64, .sl]) (⟨b7, 0, none⟩ : Addr) w_13 fun (res14 : (TT [.int .i64, .int .i64, .sl, .sl, .int .i64, .sl, .int .i64, .sl])) =>
 R (res14) (r10) w_13)
 (IfB ((name2).toList == ((ByteArray.mk #[98, 117, 100, 103, 101, 116])).toList)
 (St ((⟨b5, 0, none⟩ : Addr).add 1) (.int .i64 r9) w_8 fun (w_15 : World) =>
 Ld (.st [.int .i64, .int .i64, .sl, .sl, .int .i64, .sl, .int .i64, .sl]) (⟨b5, 0, none⟩ : Addr) w_15 fun (x16 : (TT [.int .i64, .int .i64, .sl, .sl, .int .i64, .sl, .int .i64, .sl])) =>
 StC (⟨b7, 0, none⟩ : Addr) [(.int .i64 x16.1), (.int .i64 x16.2.1), (.slice x16.2.2.1.base x16.2.2.1.len x16.2.2.1.cap), (.slice x16.2.2.2.1.base x16.2.2.2.1.len x16.2.2.2.1.cap), (.int .i64 x16.2.2.2.2.1), (.slice x16.2.2.2.2.2.1.base x16.2.2.2.2.2.1.len x16.2.2.2.2.2.1.cap), (.int .i64 x16.2.2.2.2.2.2.1), (.slice x16.2.2.2.2.2.2.2.1.base x16.2.2.2.2.2.2.2.1.len x16.2.2.2.2.2.2.2.1.cap)] 0 w_15 fun (w_17 : World) =>
 Ld (.st [.int .i64, .int .i64, .sl, .sl, .int .i64, .sl, .int .i64, .sl]) (⟨b7, 0, none⟩ : Addr) w_17 fun (res18 : (TT [.int .i64, .int .i64, .sl, .sl, .int .i64, .sl, .int .i64, .sl])) =>
 R (res18) (r10) w_17)
 (IfB ((name2).toList == ((ByteArray.mk #[114, 111, 111, 109])).toList)
 (St ((⟨b5, 0, none⟩ : Addr).add 6) (.int .i64 r9) w_8 fun (w_19 : World) =>
 Ld (.st [.int .i64, .int .i64, .sl, .sl, .int .i64, .sl, .int .i64, .sl]) (⟨b5, 0, none⟩ : Addr) w_19 fun (x20 : (TT [.int .i64, .int .i64, .sl, .sl, .int .i64, .sl, .int .i64, .sl])) =>
 StC (⟨b7, 0, none⟩ : Addr) [(.int .i64 x20.1), (.int .i64 x20.2.1), (.slice x20.2.2.1.base x20.2.2.1.len x20.2.2.1.cap), (.slice x20.2.2.2.1.base x20.2.2.2.1.len x20.2.2.2.1.cap), (.int .i64 x20.2.2.2.2.1), (.slice x20.2.2.2.2.2.1.base x20.2.2.2.2.2.1.len x20.2.2.2.2.2.1.cap), (.int .i64 x20.2.2.2.2.2.2.1), (.slice x20.2.2.2.2.2.2.2.1.base x20.2.2.2.2.2.2.2.1.len x20.2.2.2.2.2.2.2.1.cap)] 0 w_19 fun (w_21 : World) =>
 Ld (.st [.int .i64, .int .i64, .sl, .sl, .int .i64, .sl, .int .i64, .sl]) (⟨b7, 0, none⟩ : Addr) w_21 fun (res22 : (TT [.int .i64, .int .i64, .sl, .sl, .int .i64, .sl, .int .i64, .sl])) =>
 R (res22) (r10) w_21)
 (St ((⟨b5, 0, none⟩ : Addr).add 4) (.int .i64 r9) w_8 fun (w_23 : World) =>
 Ld (.st [.int .i64, .int .i64, .sl, .sl, .int .i64, .sl, .int .i64, .sl]) (⟨b5, 0, none⟩ : Addr) w_23 fun (x24 : (TT [.int .i64, .int .i64, .sl, .sl, .int .i64, .sl, .int .i64, .sl])) =>
 StC (⟨b7, 0, none⟩ : Addr) [(.int .i64 x24.1), (.int .i64 x24.2.1), (.slice x24.2.2.1.base x24.2.2.1.len x24.2.2.1.cap), (.slice x24.2.2.2.1.base x24.2.2.2.1.len x24.2.2.2.1.cap), (.int .i64 x24.2.2.2.2.1), (.slice x24.2.2.2.2.2.1.base x24.2.2.2.2.2.1.len x24.2.2.2.2.2.1.cap), (.int .i64 x24.2.2.2.2.2.2.1), (.slice x24.2.2.2.2.2.2.2.1.base x24.2.2.2.2.2.2.2.1.len x24.2.2.2.2.2.2.2.1.cap)] 0 w_23 fun (w_25 : World) =>
 Ld (.st [.int .i64, .int .i64, .sl, .sl, .int .i64, .sl, .int .i64, .sl]) (⟨b7, 0, none⟩ : Addr) w_25 fun (res26 : (TT [.int .i64, .int .i64, .sl, .sl, .int .i64, .sl, .int .i64, .sl])) =>
 R (res26) (r10) w_25)))
set_option maxRecDepth 100000 in
theorem ref30_one.ok (s1 : (TT [.int .i64, .int .i64, .sl, .sl, .int .i64, .sl, .int .i64, .sl])) (name2 : ByteArray) (w_3 : ByteArray) (R : (TT [.int .i64, .int .i64, .sl, .sl, .int .i64, .sl, .int .i64, .sl]) → Bool → World → Prop) (w : World) (h : ref30_one.E s1 name2 w_3 R w) : Cl Tryd.prog [(.st [.int .i64, .int .i64, .sl, .sl, .int .i64, .sl, .int .i64, .sl]), kB] n_ref30_one ⟨[(.agg ⟨[(.int .i64 s1.1), (.int .i64 s1.2.1), (.slice s1.2.2.1.base s1.2.2.1.len s1.2.2.1.cap), (.slice s1.2.2.2.1.base s1.2.2.2.1.len s1.2.2.2.1.cap), (.int .i64 s1.2.2.2.2.1), (.slice s1.2.2.2.2.2.1.base s1.2.2.2.2.2.1.len s1.2.2.2.2.2.1.cap), (.int .i64 s1.2.2.2.2.2.2.1), (.slice s1.2.2.2.2.2.2.2.1.base s1.2.2.2.2.2.2.2.1.len s1.2.2.2.2.2.2.2.1.cap)]⟩), (.string name2), (.string w_3)]⟩ w R :=
  calls_of_eq Tryd.mix Tryd.f45 [(.agg ⟨[(.int .i64 s1.1), (.int .i64 s1.2.1), (.slice s1.2.2.1.base s1.2.2.1.len s1.2.2.1.cap), (.slice s1.2.2.2.1.base s1.2.2.2.1.len s1.2.2.2.1.cap), (.int .i64 s1.2.2.2.2.1), (.slice s1.2.2.2.2.2.1.base s1.2.2.2.2.2.1.len s1.2.2.2.2.2.1.cap), (.int .i64 s1.2.2.2.2.2.2.1), (.slice s1.2.2.2.2.2.2.2.1.base s1.2.2.2.2.2.2.2.1.len s1.2.2.2.2.2.2.2.1.cap)]⟩), (.string name2), (.string w_3)] [(.st [.int .i64, .int .i64, .sl, .sl, .int .i64, .sl, .int .i64, .sl]), kB] R 32 [.cell 6 27, .tmp 7] (by kernel_rfl) (by kernel_rfl) (by kernel_rfl) (by kernel_rfl) (by kernel_rfl)
    (.s .o (.s .o (.s (.s .o (.b (.s .o (.c .o (.s .o (.c .o (.s .o (.c .o .o)))))))) (.s .o .o))))
    (by kernel_rfl) h
set_option maxRecDepth 100000 in
/-- winepressref30.bytes -/
def ref30_bytes.E (s1 : (TT [.int .i64, .int .i64, .sl, .sl, .int .i64, .sl, .int .i64, .sl])) (name2 : ByteArray) (w_3 : ByteArray) (R : (TT [.int .i64, .int .i64, .sl, .sl, .int .i64, .sl, .int .i64, .sl]) → Bool → World → Prop) (w : World) : Prop :=
 Nw 27 ⟨[(.int .i64 s1.1), (.int .i64 s1.2.1), (.slice s1.2.2.1.base s1.2.2.1.len s1.2.2.1.cap), (.slice s1.2.2.2.1.base s1.2.2.2.1.len s1.2.2.2.1.cap), (.int .i64 s1.2.2.2.2.1), (.slice s1.2.2.2.2.2.1.base s1.2.2.2.2.2.1.len s1.2.2.2.2.2.1.cap), (.int .i64 s1.2.2.2.2.2.2.1), (.slice s1.2.2.2.2.2.2.2.1.base s1.2.2.2.2.2.2.2.1.len s1.2.2.2.2.2.2.2.1.cap)]⟩ w fun (b5 : Nat) (w_4 : World) =>
 Nw 27 ⟨[(.int .i64 0), (.int .i64 0), (.slice none 0 0), (.slice none 0 0), (.int .i64 0), (.slice none 0 0), (.int .i64 0), (.slice none 0 0)]⟩ w_4 fun (b7 : Nat) (w_6 : World) =>
 Cl Tryd.prog [kS, kB] n_ref30_unhex ⟨[(.string w_3)]⟩ w_6 fun (r9 : Sl) (r10 : Bool) (w_8 : World) =>
 IfB ((name2).toList == ((ByteArray.mk #[119, 114, 105, 116, 101])).toList)
 (Ld kS ((⟨b5, 0, none⟩ : Addr).add 2) w_8 fun (Deeds11 : Sl) =>
 Nw 40 ⟨[(.bool false), (.slice r9.base r9.len r9.cap)]⟩ w_8 fun (b13 : Nat) (w_12 : World) =>
 Run Tryd.prog (Builtin.append_ #[22, 22] 22 ⟨[(.slice Deeds11.base Deeds11.len Deeds11.cap), (.slice (⟨some ⟨b13, 0, none⟩, 1, 1⟩ : Sl).base (⟨some ⟨b13, 0, none⟩, 1, 1⟩ : Sl).len (⟨some ⟨b13, 0, none⟩, 1, 1⟩ : Sl).cap)]⟩) kS w_12 fun (s15 : Sl) (w_14 : World) =>
 St ((⟨b5, 0, none⟩ : Addr).add 2) (.slice s15.base s15.len s15.cap) w_14 fun (w_16 : World) =>
 Ld (.st [.int .i64, .int .i64, .sl, .sl, .int .i64, .sl, .int .i64, .sl]) (⟨b5, 0, none⟩ : Addr) w_16 fun (x17 : (TT [.int .i64, .int .i64, .sl, .sl, .int .i64, .sl, .int .i64, .sl])) =>
 StC (⟨b7, 0, none⟩ : Addr) [(.int .i64 x17.1), (.int .i64 x17.2.1), (.slice x17.2.2.1.base x17.2.2.1.len x17.2.2.1.cap), (.slice x17.2.2.2.1.base x17.2.2.2.1.len x17.2.2.2.1.cap), (.int .i64 x17.2.2.2.2.1), (.slice x17.2.2.2.2.2.1.base x17.2.2.2.2.2.1.len x17.2.2.2.2.2.1.cap), (.int .i64 x17.2.2.2.2.2.2.1), (.slice x17.2.2.2.2.2.2.2.1.base x17.2.2.2.2.2.2.2.1.len x17.2.2.2.2.2.2.2.1.cap)] 0 w_16 fun (w_18 : World) =>
 Ld (.st [.int .i64, .int .i64, .sl, .sl, .int .i64, .sl, .int .i64, .sl]) (⟨b7, 0, none⟩ : Addr) w_18 fun (res19 : (TT [.int .i64, .int .i64, .sl, .sl, .int .i64, .sl, .int .i64, .sl])) =>
 R (res19) (r10) w_18)
 (Ld kS ((⟨b5, 0, none⟩ : Addr).add 5) w_8 fun (Behind20 : Sl) =>
 Run Tryd.prog (Builtin.append_ #[24, 24] 24 ⟨[(.slice Behind20.base Behind20.len Behind20.cap), (.slice r9.base r9.len r9.cap)]⟩) kS w_8 fun (s22 : Sl) (w_21 : World) =>
 St ((⟨b5, 0, none⟩ : Addr).add 5) (.slice s22.base s22.len s22.cap) w_21 fun (w_23 : World) =>
 Ld (.st [.int .i64, .int .i64, .sl, .sl, .int .i64, .sl, .int .i64, .sl]) (⟨b5, 0, none⟩ : Addr) w_23 fun (x24 : (TT [.int .i64, .int .i64, .sl, .sl, .int .i64, .sl, .int .i64, .sl])) =>
 StC (⟨b7, 0, none⟩ : Addr) [(.int .i64 x24.1), (.int .i64 x24.2.1), (.slice x24.2.2.1.base x24.2.2.1.len x24.2.2.1.cap), (.slice x24.2.2.2.1.base x24.2.2.2.1.len x24.2.2.2.1.cap), (.int .i64 x24.2.2.2.2.1), (.slice x24.2.2.2.2.2.1.base x24.2.2.2.2.2.1.len x24.2.2.2.2.2.1.cap), (.int .i64 x24.2.2.2.2.2.2.1), (.slice x24.2.2.2.2.2.2.2.1.base x24.2.2.2.2.2.2.2.1.len x24.2.2.2.2.2.2.2.1.cap)] 0 w_23 fun (w_25 : World) =>
 Ld (.st [.int .i64, .int .i64, .sl, .sl, .int .i64, .sl, .int .i64, .sl]) (⟨b7, 0, none⟩ : Addr) w_25 fun (res26 : (TT [.int .i64, .int .i64, .sl, .sl, .int .i64, .sl, .int .i64, .sl])) =>
 R (res26) (r10) w_25)
set_option maxRecDepth 100000 in
theorem ref30_bytes.ok (s1 : (TT [.int .i64, .int .i64, .sl, .sl, .int .i64, .sl, .int .i64, .sl])) (name2 : ByteArray) (w_3 : ByteArray) (R : (TT [.int .i64, .int .i64, .sl, .sl, .int .i64, .sl, .int .i64, .sl]) → Bool → World → Prop) (w : World) (h : ref30_bytes.E s1 name2 w_3 R w) : Cl Tryd.prog [(.st [.int .i64, .int .i64, .sl, .sl, .int .i64, .sl, .int .i64, .sl]), kB] n_ref30_bytes ⟨[(.agg ⟨[(.int .i64 s1.1), (.int .i64 s1.2.1), (.slice s1.2.2.1.base s1.2.2.1.len s1.2.2.1.cap), (.slice s1.2.2.2.1.base s1.2.2.2.1.len s1.2.2.2.1.cap), (.int .i64 s1.2.2.2.2.1), (.slice s1.2.2.2.2.2.1.base s1.2.2.2.2.2.1.len s1.2.2.2.2.2.1.cap), (.int .i64 s1.2.2.2.2.2.2.1), (.slice s1.2.2.2.2.2.2.2.1.base s1.2.2.2.2.2.2.2.1.len s1.2.2.2.2.2.2.2.1.cap)]⟩), (.string name2), (.string w_3)]⟩ w R :=
  calls_of_eq Tryd.mix Tryd.f46 [(.agg ⟨[(.int .i64 s1.1), (.int .i64 s1.2.1), (.slice s1.2.2.1.base s1.2.2.1.len s1.2.2.1.cap), (.slice s1.2.2.2.1.base s1.2.2.2.1.len s1.2.2.2.1.cap), (.int .i64 s1.2.2.2.2.1), (.slice s1.2.2.2.2.2.1.base s1.2.2.2.2.2.1.len s1.2.2.2.2.2.1.cap), (.int .i64 s1.2.2.2.2.2.2.1), (.slice s1.2.2.2.2.2.2.2.1.base s1.2.2.2.2.2.2.2.1.len s1.2.2.2.2.2.2.2.1.cap)]⟩), (.string name2), (.string w_3)] [(.st [.int .i64, .int .i64, .sl, .sl, .int .i64, .sl, .int .i64, .sl]), kB] R 31 [.cell 6 27, .tmp 7] (by kernel_rfl) (by kernel_rfl) (by kernel_rfl) (by kernel_rfl) (by kernel_rfl)
    (.s .o (.s .o (.s (.s .o (.c .o .o)) (.s .o .o))))
    (by kernel_rfl) h
set_option maxRecDepth 100000 in
/-- winepressref30.cuts -/
def ref30_cuts.E (s1 : (TT [.int .i64, .int .i64, .sl, .sl, .int .i64, .sl, .int .i64, .sl])) (l2 : Sl) (R : (TT [.int .i64, .int .i64, .sl, .sl, .int .i64, .sl, .int .i64, .sl]) → Bool → World → Prop) (w : World) : Prop :=
 Nw 27 ⟨[(.int .i64 s1.1), (.int .i64 s1.2.1), (.slice s1.2.2.1.base s1.2.2.1.len s1.2.2.1.cap), (.slice s1.2.2.2.1.base s1.2.2.2.1.len s1.2.2.2.1.cap), (.int .i64 s1.2.2.2.2.1), (.slice s1.2.2.2.2.2.1.base s1.2.2.2.2.2.1.len s1.2.2.2.2.2.1.cap), (.int .i64 s1.2.2.2.2.2.2.1), (.slice s1.2.2.2.2.2.2.2.1.base s1.2.2.2.2.2.2.2.1.len s1.2.2.2.2.2.2.2.1.cap)]⟩ w fun (b4 : Nat) (w_3 : World) =>
 Nw 27 ⟨[(.int .i64 0), (.int .i64 0), (.slice none 0 0), (.slice none 0 0), (.int .i64 0), (.slice none 0 0), (.int .i64 0), (.slice none 0 0)]⟩ w_3 fun (b6 : Nat) (w_5 : World) =>
 ∃ (I_7 : Int → World → Prop) (m_8 : Int → World → Nat), I_7 (0) w_5 ∧
 ∀ (i9 : Int), ∀ (w_10 : World), I_7 i9 w_10 →
 IfB (decide ((i9 : Int) < ((l2.len : Int) : Int)))
 (Idx l2 i9 1 fun (q11 : Addr) =>
 Ld kStr q11 w_10 fun (x12 : ByteArray) =>
 Cl Tryd.prog [kI, kB] n_ref30_number ⟨[(.string x12)]⟩ w_10 fun (r14 : Int) (r15 : Bool) (w_13 : World) =>
 IfB (!r15)
 (Ld (.st [.int .i64, .int .i64, .sl, .sl, .int .i64, .sl, .int .i64, .sl]) (⟨b4, 0, none⟩ : Addr) w_13 fun (x16 : (TT [.int .i64, .int .i64, .sl, .sl, .int .i64, .sl, .int .i64, .sl])) =>
 StC (⟨b6, 0, none⟩ : Addr) [(.int .i64 x16.1), (.int .i64 x16.2.1), (.slice x16.2.2.1.base x16.2.2.1.len x16.2.2.1.cap), (.slice x16.2.2.2.1.base x16.2.2.2.1.len x16.2.2.2.1.cap), (.int .i64 x16.2.2.2.2.1), (.slice x16.2.2.2.2.2.1.base x16.2.2.2.2.2.1.len x16.2.2.2.2.2.1.cap), (.int .i64 x16.2.2.2.2.2.2.1), (.slice x16.2.2.2.2.2.2.2.1.base x16.2.2.2.2.2.2.2.1.len x16.2.2.2.2.2.2.2.1.cap)] 0 w_13 fun (w_17 : World) =>
 Ld (.st [.int .i64, .int .i64, .sl, .sl, .int .i64, .sl, .int .i64, .sl]) (⟨b6, 0, none⟩ : Addr) w_17 fun (res18 : (TT [.int .i64, .int .i64, .sl, .sl, .int .i64, .sl, .int .i64, .sl])) =>
 R (res18) (false) w_17)
 (Ld kS ((⟨b4, 0, none⟩ : Addr).add 7) w_13 fun (Cuts19 : Sl) =>
 Nw 3 ⟨[(.int .i64 r14)]⟩ w_13 fun (b21 : Nat) (w_20 : World) =>
 Run Tryd.prog (Builtin.append_ #[25, 25] 25 ⟨[(.slice Cuts19.base Cuts19.len Cuts19.cap), (.slice (⟨some ⟨b21, 0, none⟩, 1, 1⟩ : Sl).base (⟨some ⟨b21, 0, none⟩, 1, 1⟩ : Sl).len (⟨some ⟨b21, 0, none⟩, 1, 1⟩ : Sl).cap)]⟩) kS w_20 fun (s23 : Sl) (w_22 : World) =>
 St ((⟨b4, 0, none⟩ : Addr).add 7) (.slice s23.base s23.len s23.cap) w_22 fun (w_24 : World) =>
 I_7 ((i64 ((i9 : Int) + (1 : Int)))) w_24 ∧ m_8 ((i64 ((i9 : Int) + (1 : Int)))) w_24 < m_8 i9 w_10))
 (Ld (.st [.int .i64, .int .i64, .sl, .sl, .int .i64, .sl, .int .i64, .sl]) (⟨b4, 0, none⟩ : Addr) w_10 fun (x25 : (TT [.int .i64, .int .i64, .sl, .sl, .int .i64, .sl, .int .i64, .sl])) =>
 StC (⟨b6, 0, none⟩ : Addr) [(.int .i64 x25.1), (.int .i64 x25.2.1), (.slice x25.2.2.1.base x25.2.2.1.len x25.2.2.1.cap), (.slice x25.2.2.2.1.base x25.2.2.2.1.len x25.2.2.2.1.cap), (.int .i64 x25.2.2.2.2.1), (.slice x25.2.2.2.2.2.1.base x25.2.2.2.2.2.1.len x25.2.2.2.2.2.1.cap), (.int .i64 x25.2.2.2.2.2.2.1), (.slice x25.2.2.2.2.2.2.2.1.base x25.2.2.2.2.2.2.2.1.len x25.2.2.2.2.2.2.2.1.cap)] 0 w_10 fun (w_26 : World) =>
 Ld (.st [.int .i64, .int .i64, .sl, .sl, .int .i64, .sl, .int .i64, .sl]) (⟨b6, 0, none⟩ : Addr) w_26 fun (res27 : (TT [.int .i64, .int .i64, .sl, .sl, .int .i64, .sl, .int .i64, .sl])) =>
 R (res27) ((decide (((l2.len : Int) : Int) > (0 : Int)))) w_26)
set_option maxRecDepth 100000 in
theorem ref30_cuts.ok (s1 : (TT [.int .i64, .int .i64, .sl, .sl, .int .i64, .sl, .int .i64, .sl])) (l2 : Sl) (R : (TT [.int .i64, .int .i64, .sl, .sl, .int .i64, .sl, .int .i64, .sl]) → Bool → World → Prop) (w : World) (h : ref30_cuts.E s1 l2 R w) : Cl Tryd.prog [(.st [.int .i64, .int .i64, .sl, .sl, .int .i64, .sl, .int .i64, .sl]), kB] n_ref30_cuts ⟨[(.agg ⟨[(.int .i64 s1.1), (.int .i64 s1.2.1), (.slice s1.2.2.1.base s1.2.2.1.len s1.2.2.1.cap), (.slice s1.2.2.2.1.base s1.2.2.2.1.len s1.2.2.2.1.cap), (.int .i64 s1.2.2.2.2.1), (.slice s1.2.2.2.2.2.1.base s1.2.2.2.2.2.1.len s1.2.2.2.2.2.1.cap), (.int .i64 s1.2.2.2.2.2.2.1), (.slice s1.2.2.2.2.2.2.2.1.base s1.2.2.2.2.2.2.2.1.len s1.2.2.2.2.2.2.2.1.cap)]⟩), (.slice l2.base l2.len l2.cap)]⟩ w R :=
  calls_of_eq Tryd.mix Tryd.f47 [(.agg ⟨[(.int .i64 s1.1), (.int .i64 s1.2.1), (.slice s1.2.2.1.base s1.2.2.1.len s1.2.2.1.cap), (.slice s1.2.2.2.1.base s1.2.2.2.1.len s1.2.2.2.1.cap), (.int .i64 s1.2.2.2.2.1), (.slice s1.2.2.2.2.2.1.base s1.2.2.2.2.2.1.len s1.2.2.2.2.2.1.cap), (.int .i64 s1.2.2.2.2.2.2.1), (.slice s1.2.2.2.2.2.2.2.1.base s1.2.2.2.2.2.2.2.1.len s1.2.2.2.2.2.2.2.1.cap)]⟩), (.slice l2.base l2.len l2.cap)] [(.st [.int .i64, .int .i64, .sl, .sl, .int .i64, .sl, .int .i64, .sl]), kB] R 36 [.cell 4 27, .tmp 5] (by kernel_rfl) (by kernel_rfl) (by kernel_rfl) (by kernel_rfl) (by kernel_rfl)
    (.s .o (.s (.s .o (.b (.l [(6, kI)] (.s (.s .o (.c .o .o)) (.s (.b (.s .o (.s (.s .o (.c (.s .o .o) .o)) .o))) .o))))) (.s .o .o)))
    (by kernel_rfl) h
set_option maxRecDepth 100000 in
/-- winepressref30.number -/
def ref30_number.E (w_1 : ByteArray) (R : Int → Bool → World → Prop) (w : World) : Prop :=
 Join (fun (d4 : ByteArray) (w_5 : World) =>
 Join (fun (w_7 : World) =>
 ∃ (I_8 : Int → Int → World → Prop) (m_9 : Int → Int → World → Nat), I_8 (0) (0) w_7 ∧
 ∀ (n10 : Int) (i11 : Int), ∀ (w_12 : World), I_8 n10 i11 w_12 →
 IfB (decide ((i11 : Int) < (((d4).size : Int) : Int)))
 (0 ≤ (i11 : Int) ∧ (i11 : Int) < ((d4).size : Int) ∧
 IfB (decide (((strAt d4 (i11 : Int).toNat) : Int) < (48 : Int)))
 (R (0) (false) w_12)
 (0 ≤ (i11 : Int) ∧ (i11 : Int) < ((d4).size : Int) ∧
 IfB (decide (((strAt d4 (i11 : Int).toNat) : Int) > (57 : Int)))
 (R (0) (false) w_12)
 (0 ≤ (i11 : Int) ∧ (i11 : Int) < ((d4).size : Int) ∧
 I_8 ((u64 (((u64 ((10 : Int) * (n10 : Int))) : Int) + ((u64 (u8 (((strAt d4 (i11 : Int).toNat) : Int) - (48 : Int)))) : Int)))) ((i64 ((i11 : Int) + (1 : Int)))) w_12 ∧ m_9 ((u64 (((u64 ((10 : Int) * (n10 : Int))) : Int) + ((u64 (u8 (((strAt d4 (i11 : Int).toNat) : Int) - (48 : Int)))) : Int)))) ((i64 ((i11 : Int) + (1 : Int)))) w_12 < m_9 n10 i11 w_12)))
 (IfB (decide ((n10 : Int) > (4611686018427387904 : Int)))
 (R (0) (false) w_12)
 (IfB (decide ((((d4).size : Int) : Int) < (((w_1).size : Int) : Int)))
 (R ((IntKind.wrap .i64 (0 - (i64 n10)))) (true) w_12)
 (R ((i64 n10)) (true) w_12)))) fun (K_6 : World → Prop) =>
 IfB ((((d4).size : Int) : Int) == (0 : Int))
 (R (0) (false) w_5)
 (IfB (decide ((((d4).size : Int) : Int) > (19 : Int)))
 (R (0) (false) w_5)
 (0 ≤ (0 : Int) ∧ (0 : Int) < ((d4).size : Int) ∧
 IfB (((strAt d4 (0 : Int).toNat) : Int) == (48 : Int))
 (IfB (decide ((((w_1).size : Int) : Int) > (1 : Int)))
 (R (0) (false) w_5)
 (K_6  w_5))
 (K_6  w_5)))) fun (K_2 : ByteArray → World → Prop) =>
 IfB (decide ((((w_1).size : Int) : Int) > (0 : Int)))
 (0 ≤ (0 : Int) ∧ (0 : Int) < ((w_1).size : Int) ∧
 IfB (((strAt w_1 (0 : Int).toNat) : Int) == (45 : Int))
 (SlcS w_1 1 (w_1).size fun (s3 : ByteArray) =>
 K_2 (s3) w)
 (K_2 (w_1) w))
 (K_2 (w_1) w)
set_option maxRecDepth 100000 in
theorem ref30_number.ok (w_1 : ByteArray) (R : Int → Bool → World → Prop) (w : World) (h : ref30_number.E w_1 R w) : Cl Tryd.prog [kI, kB] n_ref30_number ⟨[(.string w_1)]⟩ w R :=
  calls_of_eq Tryd.mix Tryd.f48 [(.string w_1)] [kI, kB] R 72 [.tmp 2, .tmp 3] (by kernel_rfl) (by kernel_rfl) (by kernel_rfl) (by kernel_rfl) (by kernel_rfl)
    (.s .o (.s .o (.j [(4, kStr)] (.s .o (.c .o .o)) (.j [] (.s .o (.c (.s .o .o) .o)) (.s .o (.s (.s .o (.b (.l [(5, (kInt .u64)), (6, kI)] (.s (.s .o (.c .o .o)) (.s (.b (.s (.s .o (.c (.s .o .o) .o)) .o)) .o))))) (.s (.s .o (.c (.s .o .o) .o)) (.s (.s .o (.c (.s .o .o) .o)) (.s .o .o)))))))))
    (by kernel_rfl) h
set_option maxRecDepth 100000 in
/-- winepressref30.unhex -/
def ref30_unhex.E (w_1 : ByteArray) (R : Sl → Bool → World → Prop) (w : World) : Prop :=
 IfB ((w_1).toList == ((ByteArray.mk #[45])).toList)
 (R ((⟨none, 0, 0⟩ : Sl)) (true) w)
 ((2 : Int) ≠ 0 ∧
 IfB (((Int.tmod (((w_1).size : Int) : Int) (2 : Int)) : Int) != (0 : Int))
 (R ((⟨none, 0, 0⟩ : Sl)) (false) w)
 (∃ (I_2 : Sl → Int → World → Prop) (m_3 : Sl → Int → World → Nat), I_2 ((⟨none, 0, 0⟩ : Sl)) (0) w ∧
 ∀ (out4 : Sl) (i5 : Int), ∀ (w_6 : World), I_2 out4 i5 w_6 →
 IfB (decide ((i5 : Int) < (((w_1).size : Int) : Int)))
 (0 ≤ (i5 : Int) ∧ (i5 : Int) < ((w_1).size : Int) ∧
 Cl Tryd.prog [kI] n_ref30_digit ⟨[(.int .u8 (strAt w_1 (i5 : Int).toNat))]⟩ w_6 fun (r8 : Int) (w_7 : World) =>
 IfB (decide ((r8 : Int) < (0 : Int)))
 (R ((⟨none, 0, 0⟩ : Sl)) (false) w_7)
 (0 ≤ ((i64 ((i5 : Int) + (1 : Int))) : Int) ∧ ((i64 ((i5 : Int) + (1 : Int))) : Int) < ((w_1).size : Int) ∧
 Cl Tryd.prog [kI] n_ref30_digit ⟨[(.int .u8 (strAt w_1 ((i64 ((i5 : Int) + (1 : Int))) : Int).toNat))]⟩ w_7 fun (r10 : Int) (w_9 : World) =>
 IfB (decide ((r10 : Int) < (0 : Int)))
 (R ((⟨none, 0, 0⟩ : Sl)) (false) w_9)
 (Drw w_9 fun (w_11 : World) =>
 0 ≤ (i5 : Int) ∧ (i5 : Int) < ((w_1).size : Int) ∧
 0 ≤ ((i64 ((i5 : Int) + (1 : Int))) : Int) ∧ ((i64 ((i5 : Int) + (1 : Int))) : Int) < ((w_1).size : Int) ∧
 Cl Tryd.prog [kI] n_ref30_digit ⟨[(.int .u8 (strAt w_1 (i5 : Int).toNat))]⟩ w_11 fun (r13 : Int) (w_12 : World) =>
 Cl Tryd.prog [kI] n_ref30_digit ⟨[(.int .u8 (strAt w_1 ((i64 ((i5 : Int) + (1 : Int))) : Int).toNat))]⟩ w_12 fun (r15 : Int) (w_14 : World) =>
 Nw 5 ⟨[(.int .u8 (u8 (i64 (((i64 ((16 : Int) * (r13 : Int))) : Int) + (r15 : Int)))))]⟩ w_14 fun (b17 : Nat) (w_16 : World) =>
 Run Tryd.prog (Builtin.append_ #[24, 24] 24 ⟨[(.slice out4.base out4.len out4.cap), (.slice (⟨some ⟨b17, 0, none⟩, 1, 1⟩ : Sl).base (⟨some ⟨b17, 0, none⟩, 1, 1⟩ : Sl).len (⟨some ⟨b17, 0, none⟩, 1, 1⟩ : Sl).cap)]⟩) kS w_16 fun (s19 : Sl) (w_18 : World) =>
 I_2 (s19) ((i64 ((i5 : Int) + (2 : Int)))) w_18 ∧ m_3 (s19) ((i64 ((i5 : Int) + (2 : Int)))) w_18 < m_3 out4 i5 w_6)))
 (R (out4) (true) w_6)))
set_option maxRecDepth 100000 in
theorem ref30_unhex.ok (w_1 : ByteArray) (R : Sl → Bool → World → Prop) (w : World) (h : ref30_unhex.E w_1 R w) : Cl Tryd.prog [kS, kB] n_ref30_unhex ⟨[(.string w_1)]⟩ w R :=
  calls_of_eq Tryd.mix Tryd.f49 [(.string w_1)] [kS, kB] R 47 [.tmp 2, .tmp 3] (by kernel_rfl) (by kernel_rfl) (by kernel_rfl) (by kernel_rfl) (by kernel_rfl)
    (.s .o (.s (.s .o (.c (.s .o .o) .o)) (.s (.s .o (.c (.s .o .o) .o)) (.s .o (.s (.s .o (.b (.l [(4, kS), (5, kI)] (.s (.s .o (.c .o .o)) (.s (.b (.s (.s .o (.c (.s .o .o) .o)) .o)) .o))))) (.s .o .o))))))
    (by kernel_rfl) h
/-- winepressref30.digit -/
def ref30_digit.E (c1 : Int) (R : Int → World → Prop) (w : World) : Prop :=
 IfB (decide ((c1 : Int) ≥ (48 : Int)))
 (IfB (decide ((c1 : Int) ≤ (57 : Int)))
 (R ((i64 (u8 ((c1 : Int) - (48 : Int))))) w)
 (IfB (decide ((c1 : Int) ≥ (97 : Int)))
 (IfB (decide ((c1 : Int) ≤ (102 : Int)))
 (R ((i64 (((i64 (u8 ((c1 : Int) - (97 : Int)))) : Int) + (10 : Int)))) w)
 (R ((-1)) w))
 (R ((-1)) w)))
 (IfB (decide ((c1 : Int) ≥ (97 : Int)))
 (IfB (decide ((c1 : Int) ≤ (102 : Int)))
 (R ((i64 (((i64 (u8 ((c1 : Int) - (97 : Int)))) : Int) + (10 : Int)))) w)
 (R ((-1)) w))
 (R ((-1)) w))
theorem ref30_digit.ok (c1 : Int) (R : Int → World → Prop) (w : World) (h : ref30_digit.E c1 R w) : Cl Tryd.prog [kI] n_ref30_digit ⟨[(.int .u8 c1)]⟩ w R :=
  calls_of_eq Tryd.mix Tryd.f59 [(.int .u8 c1)] [kI] R 22 [.tmp 2] (by kernel_rfl) (by kernel_rfl) (by kernel_rfl) (by kernel_rfl) (by kernel_rfl)
    (.s .o (.s (.s .o (.c (.s .o .o) .o)) (.s (.s .o (.c (.s .o .o) .o)) (.s .o .o))))
    (by kernel_rfl) h
end Go.Proofs.YtdfalolgngnelaaDoor
/- Sep -/
namespace Go.Vc
open Go

abbrev Frag := Nat → Option Obj
abbrev HP := Frag → Prop
def Frag.emp : Frag := fun _ => none
def Frag.one (b : Nat) (o : Obj) : Frag := fun r => if r = b then some o else none
def Frag.add (f g : Frag) : Frag := fun r => match f r with | some o => some o | none => g r
def Apart (f g : Frag) : Prop := ∀ r, f r = none ∨ g r = none
def Blk (b : Nat) (o : Obj) : HP := fun f => f = Frag.one b o
def Sat : List HP → HP
  | [], f => f = Frag.emp
  | A :: l, f => ∃ g h, Apart g h ∧ f = g.add h ∧ A g ∧ Sat l h
def SubW (f : Frag) (w : World) : Prop := ∀ r o, f r = some o → w.heap[r]? = some o
/-- the world holds these assertions, apart from each other; its streams are those of E -/
structure Hp (E : World) (w : World) (l : List HP) : Prop where
  os : w.os = E.os
  output : w.output = E.output
  tape : w.tape = E.tape
  frag : ∃ f, SubW f w ∧ Sat l f

theorem Apart.comm {f g : Frag} (h : Apart f g) : Apart g f := fun r => (h r).symm
theorem Frag.add_comm {f g : Frag} (h : Apart f g) : f.add g = g.add f := by
  funext r
  unfold Frag.add
  rcases h r with h | h
  · rw [h]; cases g r <;> rfl
  · rw [h]; cases f r <;> rfl
theorem Frag.add_assoc (f g h : Frag) : (f.add g).add h = f.add (g.add h) := by
  funext r
  unfold Frag.add
  cases f r <;> rfl
theorem Frag.add_emp (f : Frag) : f.add Frag.emp = f := by
  funext r; unfold Frag.add Frag.emp; cases f r <;> rfl
theorem Frag.emp_add (f : Frag) : Frag.emp.add f = f := by
  funext r; rfl
theorem apart_add {f g h : Frag} : Apart f (g.add h) ↔ Apart f g ∧ Apart f h := by
  constructor
  · intro H
    refine ⟨fun r => ?_, fun r => ?_⟩
    · rcases H r with h1 | h1
      · exact .inl h1
      · right; unfold Frag.add at h1; cases hg : g r <;> simp_all
    · rcases H r with h1 | h1
      · exact .inl h1
      · right; unfold Frag.add at h1; cases hg : g r <;> simp_all
  · rintro ⟨h1, h2⟩ r
    rcases h1 r with h | h
    · exact .inl h
    · rcases h2 r with h' | h'
      · exact .inl h'
      · right; simp [Frag.add, h, h']
theorem add_apart {f g h : Frag} : Apart (f.add g) h ↔ Apart f h ∧ Apart g h :=
  ⟨fun H => let ⟨a, b⟩ := apart_add.1 H.comm; ⟨a.comm, b.comm⟩, fun ⟨a, b⟩ => (apart_add.2 ⟨a.comm, b.comm⟩).comm⟩
theorem Sat.swap {A B : HP} {l : List HP} {f : Frag} (h : Sat (A :: B :: l) f) : Sat (B :: A :: l) f := by
  obtain ⟨g, h1, hd, rfl, hA, g2, h2, hd2, rfl, hB, hl⟩ := h
  obtain ⟨d1, d2⟩ := apart_add.1 hd
  refine ⟨g2, g.add h2, apart_add.2 ⟨d1.comm, hd2⟩, ?_, hB, g, h2, d2, rfl, hA, hl⟩
  rw [← Frag.add_assoc, ← Frag.add_assoc, Frag.add_comm d1]
theorem Sat.tail {A : HP} {l l' : List HP} (h : ∀ f, Sat l f → Sat l' f) {f : Frag} (hs : Sat (A :: l) f) : Sat (A :: l') f := by
  obtain ⟨g, k, hd, rfl, hA, hl⟩ := hs
  exact ⟨g, k, hd, rfl, hA, h _ hl⟩
theorem Sat.perm {l l' : List HP} (hp : l.Perm l') : ∀ f, Sat l f → Sat l' f := by
  induction hp with
  | nil => exact fun _ h => h
  | cons A _ ih => exact fun f h => h.tail ih
  | swap A B l => exact fun f h => h.swap
  | trans _ _ ih1 ih2 => exact fun f h => ih2 f (ih1 f h)
theorem Sat.append {l l' : List HP} {f : Frag} : Sat (l ++ l') f ↔ ∃ g h, Apart g h ∧ f = g.add h ∧ Sat l g ∧ Sat l' h := by
  induction l generalizing f with
  | nil => exact ⟨fun h => ⟨Frag.emp, f, fun _ => .inl rfl, (Frag.emp_add f).symm, rfl, h⟩, fun ⟨g, h, _, e, hg, hh⟩ => by
      have : g = Frag.emp := hg
      rw [e, this, Frag.emp_add]; exact hh⟩
  | cons A l ih =>
    constructor
    · rintro ⟨g, h, hd, rfl, hA, hs⟩
      obtain ⟨g2, h2, hd2, rfl, hs2, hs3⟩ := ih.1 hs
      obtain ⟨d1, d2⟩ := apart_add.1 hd
      exact ⟨g.add g2, h2, add_apart.2 ⟨d2, hd2⟩, (Frag.add_assoc _ _ _).symm, ⟨g, g2, d1, rfl, hA, hs2⟩, hs3⟩
    · rintro ⟨g, h, hd, rfl, ⟨g2, h2, hd2, rfl, hA, hs2⟩, hs3⟩
      obtain ⟨d1, d2⟩ := add_apart.1 hd
      exact ⟨g2, h2.add h, apart_add.2 ⟨hd2, d1⟩, Frag.add_assoc _ _ _, hA, ih.2 ⟨h2, h, d2, rfl, hs2, hs3⟩⟩
section
variable {E w w' : World} {A B C D G : HP} {l l' F : List HP}
theorem Hp.perm (h : Hp E w l) (hp : l.Perm l') : Hp E w l' :=
  ⟨h.os, h.output, h.tape, let ⟨f, a, b⟩ := h.frag; ⟨f, a, Sat.perm hp f b⟩⟩
/-- bring the assertion number k to the front -/
theorem Hp.p1 (h : Hp E w (A :: B :: F)) : Hp E w (B :: A :: F) := h.perm (.swap ..)
theorem Hp.p2 (h : Hp E w (A :: B :: C :: F)) : Hp E w (C :: A :: B :: F) := h.perm ((List.Perm.cons A (.swap ..)).trans (.swap ..))
theorem Hp.p3 (h : Hp E w (A :: B :: C :: D :: F)) : Hp E w (D :: A :: B :: C :: F) :=
  h.perm ((List.Perm.cons A ((List.Perm.cons B (.swap ..)).trans (.swap ..))).trans (.swap ..))
theorem Hp.p4 (h : Hp E w (A :: B :: C :: D :: G :: F)) : Hp E w (G :: A :: B :: C :: D :: F) :=
  h.perm ((List.Perm.cons A ((List.Perm.cons B ((List.Perm.cons C (.swap ..)).trans (.swap ..))).trans (.swap ..))).trans (.swap ..))
/-- put the first assertion behind the next k -/
theorem Hp.q2 (h : Hp E w (A :: B :: C :: F)) : Hp E w (B :: C :: A :: F) := h.p1.perm (.cons B (.swap ..))
theorem Hp.q3 (h : Hp E w (A :: B :: C :: D :: F)) : Hp E w (B :: C :: D :: A :: F) := h.q2.perm (.cons B (.cons C (.swap ..)))
theorem Hp.q4 (h : Hp E w (A :: B :: C :: D :: G :: F)) : Hp E w (B :: C :: D :: G :: A :: F) := h.q3.perm (.cons B (.cons C (.cons D (.swap ..))))
theorem Hp.flat (h : Hp E w (Sat l :: F)) : Hp E w (l ++ F) :=
  ⟨h.os, h.output, h.tape, let ⟨f, a, g, k, hd, e, h1, h2⟩ := h.frag; ⟨f, a, Sat.append.2 ⟨g, k, hd, e, h1, h2⟩⟩⟩
theorem Hp.fold (h : Hp E w (l ++ F)) : Hp E w (Sat l :: F) :=
  ⟨h.os, h.output, h.tape, let ⟨f, a, h1⟩ := h.frag; let ⟨g, k, hd, e, h1, h2⟩ := Sat.append.1 h1; ⟨f, a, g, k, hd, e, h1, h2⟩⟩
/-- what the first assertion comes to -/
theorem Hp.open1 {α : Sort _} {X : α → Prop} {L : α → List HP} (hA : ∀ f, A f → ∃ x, X x ∧ Sat (L x) f) (h : Hp E w (A :: F)) : ∃ x, X x ∧ Hp E w (L x ++ F) := by
  obtain ⟨f, a, g, k, hd, e, h1, h2⟩ := h.frag
  obtain ⟨x, hx, h3⟩ := hA g h1
  exact ⟨x, hx, h.os, h.output, h.tape, f, a, Sat.append.2 ⟨g, k, hd, e, h3, h2⟩⟩
theorem Hp.shut1 (hA : ∀ f, Sat l f → A f) (h : Hp E w (l ++ F)) : Hp E w (A :: F) := by
  obtain ⟨f, a, h1⟩ := h.frag
  obtain ⟨g, k, hd, e, h1, h2⟩ := Sat.append.1 h1
  exact ⟨h.os, h.output, h.tape, f, a, g, k, hd, e, hA _ h1, h2⟩
theorem Hp.weak (hA : ∀ f, A f → B f) (h : Hp E w (A :: F)) : Hp E w (B :: F) := by
  obtain ⟨f, a, g, k, hd, e, h1, h2⟩ := h.frag
  exact ⟨h.os, h.output, h.tape, f, a, g, k, hd, e, hA _ h1, h2⟩
theorem Hp.drop (h : Hp E w (A :: F)) : Hp E w F := by
  obtain ⟨f, a, g, k, hd, rfl, h1, h2⟩ := h.frag
  refine ⟨h.os, h.output, h.tape, k, fun r o hr => a r o ?_, h2⟩
  rcases hd r with hg | hk
  · simp [Frag.add, hg, hr]
  · rw [hk] at hr; cases hr
theorem Hp.emp (h : Hp E w F) (hA : A Frag.emp) : Hp E w (A :: F) := by
  obtain ⟨f, a, h1⟩ := h.frag
  exact ⟨h.os, h.output, h.tape, f, a, Frag.emp, f, fun _ => .inl rfl, (Frag.emp_add f).symm, hA, h1⟩
/-- a world that differs in its draws alone -/
theorem Hp.same (h : Hp E w l) (h1 : w'.heap = w.heap) (h2 : w'.os = w.os) (h3 : w'.output = w.output) (h4 : w'.tape = w.tape) : Hp E w' l :=
  ⟨h2.trans h.os, h3.trans h.output, h4.trans h.tape, let ⟨f, a, b⟩ := h.frag; ⟨f, fun r o hr => by rw [h1]; exact a r o hr, b⟩⟩
theorem Hp.drew {n : Nat} (h : Hp E w l) : Hp E { w with drawn := n } l := h.same rfl rfl rfl rfl
theorem Hp.blk {b : Nat} {o : Obj} (h : Hp E w (Blk b o :: F)) : w.heap[b]? = some o := by
  obtain ⟨f, a, g, k, hd, rfl, rfl, h2⟩ := h.frag
  exact a b o (by simp [Frag.add, Frag.one])
theorem Hp.cell {b i : Nat} {c : Array Value} {t : TypeId} {fr : Nat × Nat} (h : Hp E w (Blk b (.cells c t fr) :: F)) : w.cell? ⟨b, i, none⟩ = c[i]? := by
  simp [World.cell?, h.blk]
theorem Hp.alloc (h : Hp E w F) (o : Obj) : Hp E (w.alloc o) (Blk w.heap.size o :: F) := by
  obtain ⟨f, a, h1⟩ := h.frag
  have hn : f w.heap.size = none := by
    cases hf : f w.heap.size with
    | none => rfl
    | some o => have := a _ _ hf; simp at this
  refine ⟨h.os, h.output, h.tape, (Frag.one w.heap.size o).add f, fun r o' hr => ?_, _, _, fun r => ?_, rfl, rfl, h1⟩
  · show (w.heap.push o)[r]? = _
    rw [Array.getElem?_push]
    by_cases hr0 : r = w.heap.size
    · subst hr0; simp [Frag.add, Frag.one] at hr; simp [hr]
    · simp [Frag.add, Frag.one, hr0] at hr
      rw [if_neg hr0]; exact a r o' hr
  · by_cases hr0 : r = w.heap.size
    · subst hr0; exact .inr hn
    · exact .inl (by simp [Frag.one, hr0])
theorem Hp.setObj {b : Nat} {o o' : Obj} (h : Hp E w (Blk b o :: F)) (h1 : w'.heap = w.heap.set! b o') (h2 : w'.os = w.os) (h3 : w'.output = w.output) (h4 : w'.tape = w.tape) : Hp E w' (Blk b o' :: F) := by
  have hb := h.blk
  obtain ⟨f, a, g, k, hd, rfl, rfl, h5⟩ := h.frag
  have hk : k b = none := by
    rcases hd b with hh | hh
    · simp [Frag.one] at hh
    · exact hh
  refine ⟨h2.trans h.os, h3.trans h.output, h4.trans h.tape, (Frag.one b o').add k, fun r x hr => ?_, _, _, fun r => ?_, rfl, rfl, h5⟩
  · rw [h1]
    have hlt : b < w.heap.size := by
      rcases Nat.lt_or_ge b w.heap.size with hh | hh
      · exact hh
      · simp [Array.getElem?_eq_none hh] at hb
    by_cases hr0 : r = b
    · subst hr0
      simp [Frag.add, Frag.one] at hr
      simp [hr, hlt]
    · simp [Frag.add, Frag.one, hr0] at hr
      have := a r x (by simp [Frag.add, Frag.one, hr0, hr])
      rw [Array.set!_eq_setIfInBounds, Array.getElem?_setIfInBounds_ne (Ne.symm hr0)]
      exact this
  · by_cases hr0 : r = b
    · subst hr0; exact .inr hk
    · exact .inl (by simp [Frag.one, hr0])
theorem Hp.setCell {b i : Nat} {c : Array Value} {t : TypeId} {fr : Nat × Nat} (h : Hp E w (Blk b (.cells c t fr) :: F)) (v : Value) :
    Hp E (w.setCell ⟨b, i, none⟩ v) (Blk b (.cells (c.setIfInBounds i v) t fr) :: F) := by
  have hb := h.blk
  refine h.setObj (o' := .cells (c.setIfInBounds i v) t fr) ?_ rfl rfl rfl
  apply Array.ext_getElem?
  intro r
  have hlt : b < w.heap.size := by
    rcases Nat.lt_or_ge b w.heap.size with hh | hh
    · exact hh
    · simp [Array.getElem?_eq_none hh] at hb
  simp only [World.setCell, Array.getElem?_modify, Array.set!_eq_setIfInBounds, Array.getElem?_setIfInBounds]
  by_cases hr : b = r
  · subst hr
    have hv : w.heap[b] = .cells c t fr := by simpa [hlt] using hb
    simp [hlt, hv]
  · simp [hr]

/-! what the rest of the heap tells -/
/-- whatever world holds F meets φ -/
def Tells (F : List HP) (φ : World → Prop) : Prop := ∀ w f, SubW f w → Sat F f → φ w
theorem Hp.tells {φ : World → Prop} (h : Hp E w F) (ht : Tells F φ) : φ w := let ⟨f, a, b⟩ := h.frag; ht w f a b
theorem Tells.cons {φ : World → Prop} (ht : Tells F φ) : Tells (A :: F) φ := by
  rintro w f a ⟨g, k, hd, rfl, h1, h2⟩
  refine ht w k (fun r o hr => a r o ?_) h2
  rcases hd r with hg | hk
  · simp [Frag.add, hg, hr]
  · rw [hk] at hr; cases hr
theorem Tells.perm {φ : World → Prop} (ht : Tells l φ) (hp : l.Perm l') : Tells l' φ := fun w f a b => ht w f a (Sat.perm hp.symm f b)
theorem Tells.imp {φ ψ : World → Prop} (ht : Tells F φ) (h : ∀ w, φ w → ψ w) : Tells F ψ := fun w f a b => h w (ht w f a b)
theorem Tells.and {φ ψ : World → Prop} (h1 : Tells F φ) (h2 : Tells F ψ) : Tells F (fun w => φ w ∧ ψ w) := fun w f a b => ⟨h1 w f a b, h2 w f a b⟩
theorem Tells.all {α : Sort _} {φ : α → World → Prop} (h : ∀ x, Tells F (φ x)) : Tells F (fun w => ∀ x, φ x w) := fun w f a b x => h x w f a b
theorem Tells.const {p : Prop} (h : p) : Tells F (fun _ => p) := fun _ _ _ _ => h
/-- all blocks of an older world, as they were -/
def Old (W : World) : HP := fun f => ∀ r, f r = W.heap[r]?
theorem Hp.start (W : World) : Hp W W [Old W] :=
  ⟨rfl, rfl, rfl, fun r => W.heap[r]?, fun _ _ h => h, fun r => W.heap[r]?, Frag.emp, fun _ => .inr rfl, (Frag.add_emp _).symm, fun _ => rfl, rfl⟩
theorem Tells.old {W : World} {φ : World → Prop} (h : ∀ w, (∀ r, r < W.heap.size → w.heap[r]? = W.heap[r]?) → φ w) : Tells (Old W :: F) φ := by
  rintro w f a ⟨g, k, hd, rfl, h1, h2⟩
  refine h w fun r hr => ?_
  have : g r = some W.heap[r] := by rw [h1 r]; simp [hr]
  rw [a r W.heap[r] (by simp [Frag.add, this])]
  simp [hr]
/-- at the end: nothing that was there has turned -/
theorem Hp.below {W : World} (h : Hp W w (Old W :: F)) : Go.RowKit.Below W.heap.size W w := by
  have hk := h.tells (Tells.old (φ := fun w => ∀ r, r < W.heap.size → w.heap[r]? = W.heap[r]?) fun w h => h)
  refine ⟨h.os, h.tape, h.output, ?_, hk⟩
  rcases Nat.lt_or_ge w.heap.size W.heap.size with hlt | hge
  · have := hk w.heap.size hlt
    simp [hlt] at this
  · exact hge
end

/-! the heads of formulas over this logic -/
section
variable {E w : World} {F : List HP}
theorem IfB.mk {b : Bool} {X Y : Prop} (h1 : b = true → X) (h2 : b = false → Y) : IfB b X Y := by
  cases b
  · exact h2 rfl
  · exact h1 rfl
theorem IfB.t {b : Bool} {X Y : Prop} (hb : b = true) (h : X) : IfB b X Y := by subst hb; exact h
theorem IfB.f {b : Bool} {X Y : Prop} (hb : b = false) (h : Y) : IfB b X Y := by subst hb; exact h
theorem Ld.sc {s : Sc} {p : Addr} {K : s.T → Prop} (x : s.T) (hc : w.cell? p = some (s.enc x)) (h : K x) : Ld (.sc s) p w K :=
  ⟨x, fun w' hw => by subst hw; exact hc, h⟩
theorem St.mk {p : Addr} {v : Value} {K : World → Prop} {b i : Nat} {c : Array Value} {t : TypeId} (hp : p = ⟨b, i, none⟩) (hh : Hp E w (Blk b (.cells c t (0, 0)) :: F)) (hi : i < c.size) (hv : scalarB v = true)
    (h : ∀ w', Hp E w' (Blk b (.cells (c.setIfInBounds i v) t (0, 0)) :: F) → K w') : St p v w K := by
  subst hp
  unfold St
  rw [hv]
  refine ⟨?_, ?_, h _ (hh.setCell v)⟩
  · rw [hh.cell]; simp [hi]
  · simp [World.frozen?, hh.blk]
theorem Nw.mk {t : TypeId} {cs : Array Value} {K : Nat → World → Prop} (hh : Hp E w F) (h : ∀ b w', Hp E w' (Blk b (.cells cs t (0, 0)) :: F) → K b w') : Nw t cs w K := h _ _ (hh.alloc _)
theorem Drw.mk {K : World → Prop} (hh : Hp E w F) (h : ∀ w', Hp E w' F → K w') : Drw w K := h _ hh.drew
theorem Cl.imp {P : Program} {ks : List Ki} {i : FuncId} {args : Array Value} {K K' : FnK ks (World → Prop)} (h : Cl P ks i args w K) (hk : ∀ e w', resPost ks K e w' → resPost ks K' e w') : Cl P ks i args w K' :=
  Calls.mono h hk
end
end Go.Vc
/- Lib -/
namespace Go.Vc
open Go

/-! numbers -/
theorem i64_id {x : Int} (h : -9223372036854775808 ≤ x ∧ x ≤ 9223372036854775807) : i64 x = x := IntWalk.i64_in x h
theorem u64_id {x : Int} (h : 0 ≤ x ∧ x ≤ 18446744073709551615) : u64 x = x := IntWalk.u64_in x h
theorem u32_id {x : Int} (h : 0 ≤ x ∧ x ≤ 4294967295) : u32 x = x := IntWalk.u32_in x h
theorem u16_id {x : Int} (h : 0 ≤ x ∧ x ≤ 65535) : u16 x = x := IntWalk.u16_in x h
theorem i32_id {x : Int} (h : -2147483648 ≤ x ∧ x ≤ 2147483647) : i32 x = x := IntWalk.i32_in x h
theorem u8_mod (x : Int) : u8 x = x % 256 := by
  show IntKind.wrap .u8 x = x % 256
  simp [IntKind.wrap, IntKind.bits, IntKind.signed]
theorem u8_id {x : Int} (h : 0 ≤ x ∧ x ≤ 255) : u8 x = x := by rw [u8_mod]; omega
theorem u32_mod (x : Int) : u32 x = x % 4294967296 := by
  show IntKind.wrap .u32 x = _
  simp [IntKind.wrap, IntKind.bits, IntKind.signed]
theorem u64_mod (x : Int) : u64 x = x % 18446744073709551616 := by
  show IntKind.wrap .u64 x = _
  simp [IntKind.wrap, IntKind.bits, IntKind.signed]
theorem ofInt_nat (n a : Nat) (h : a < 2 ^ n) : (BitVec.ofInt n (a : Int)).toNat = a := by
  rw [BitVec.toNat_ofInt]
  have : ((a : Int) % ((2 ^ n : Nat) : Int)) = ((a % 2 ^ n : Nat) : Int) := by omega
  rw [this, Int.toNat_natCast, Nat.mod_eq_of_lt h]
theorem wrap_nat {k : IntKind} {a : Nat} (h : (a : Int) ≤ k.max) : k.wrap (a : Int) = a := by
  cases k
  · have : IntKind.max .i8 = 127 := rfl
    exact IntWalk.i8_in _ (by omega)
  · have : IntKind.max .i16 = 32767 := rfl
    exact IntWalk.i16_in _ (by omega)
  · have : IntKind.max .i32 = 2147483647 := rfl
    exact IntWalk.i32_in _ (by omega)
  · have : IntKind.max .i64 = 9223372036854775807 := rfl
    exact IntWalk.i64_in _ (by omega)
  · have : IntKind.max .u8 = 255 := rfl
    exact IntWalk.u8_in _ (by omega)
  · have : IntKind.max .u16 = 65535 := rfl
    exact IntWalk.u16_in _ (by omega)
  · have : IntKind.max .u32 = 4294967295 := rfl
    exact IntWalk.u32_in _ (by omega)
  · have : IntKind.max .u64 = 18446744073709551615 := rfl
    exact IntWalk.u64_in _ (by omega)
theorem max_lt (k : IntKind) : (k.max : Int) < 2 ^ k.bits := by cases k <;> decide
theorem lt_bits {k : IntKind} {a : Nat} (ha : (a : Int) ≤ k.max) : a < 2 ^ k.bits := by
  have := max_lt k
  have h2 : (a : Int) < 2 ^ k.bits := Int.lt_of_le_of_lt ha this
  exact_mod_cast h2
theorem ior_nat {k : IntKind} {a b : Nat} (ha : (a : Int) ≤ k.max) (hb : (b : Int) ≤ k.max) (h : ((a ||| b : Nat) : Int) ≤ k.max) : ior k a b = ((a ||| b : Nat) : Int) := by
  unfold ior
  rw [BitVec.toNat_or, ofInt_nat _ _ (lt_bits ha), ofInt_nat _ _ (lt_bits hb), wrap_nat h]
theorem iand_nat {k : IntKind} {a b : Nat} (ha : (a : Int) ≤ k.max) (hb : (b : Int) ≤ k.max) : iand k a b = ((a &&& b : Nat) : Int) := by
  unfold iand
  rw [BitVec.toNat_and, ofInt_nat _ _ (lt_bits ha), ofInt_nat _ _ (lt_bits hb), wrap_nat]
  have := Nat.and_le_left (n := a) (m := b)
  omega
theorem ixor_nat {k : IntKind} {a b : Nat} (ha : (a : Int) ≤ k.max) (hb : (b : Int) ≤ k.max) (h : ((a ^^^ b : Nat) : Int) ≤ k.max) : ixor k a b = ((a ^^^ b : Nat) : Int) := by
  unfold ixor
  rw [BitVec.toNat_xor, ofInt_nat _ _ (lt_bits ha), ofInt_nat _ _ (lt_bits hb), wrap_nat h]
theorem ishr_nat {k : IntKind} {a b : Nat} (hb : b ≤ k.bits) : ishr k a b = ((a / 2 ^ b : Nat) : Int) := by
  unfold ishr
  rw [Int.toNat_natCast, Nat.min_eq_left hb, Int.fdiv_eq_ediv_of_nonneg _ (by exact_mod_cast Nat.zero_le _)]
  exact_mod_cast rfl
theorem ishl_nat {k : IntKind} {a b : Nat} (hb : b ≤ k.bits) (h : ((a * 2 ^ b : Nat) : Int) ≤ k.max) : ishl k a b = ((a * 2 ^ b : Nat) : Int) := by
  unfold ishl
  rw [Int.toNat_natCast, Nat.min_eq_left hb]
  have : (a : Int) * 2 ^ b = ((a * 2 ^ b : Nat) : Int) := by push_cast; rfl
  rw [this, wrap_nat h]

/-! addresses -/
theorem add_mk (b o n : Nat) : (⟨b, o, none⟩ : Addr).add n = ⟨b, o + n, none⟩ := by
  unfold Addr.add
  split
  · rename_i h; subst h; rfl
  · rfl
theorem add_zero (p : Addr) : p.add 0 = p := by simp [Addr.add]

/-! slices that are read -/
/-- slice s holds the cells xs, sz to an element -/
def SlT (sz : Nat) (s : Sl) (xs : List Value) (w : World) : Prop :=
  xs.length = s.len * sz ∧ ∀ i (h : i < xs.length), ∃ p, s.base = some p ∧ w.cell? (p.add i) = some xs[i]
/-- slice s is owned: its row of cells is this assertion's, from its place to its capacity -/
def OwnS (sz : Nat) (s : Sl) (xs : List Value) : HP := fun f =>
  xs.length = s.len * sz ∧ ((s.base = none ∧ s.len = 0 ∧ s.cap = 0 ∧ f = Frag.emp) ∨
  ∃ b off arr t, s.base = some ⟨b, off, none⟩ ∧ s.len ≤ s.cap ∧ off + s.cap * sz ≤ arr.size ∧ (∀ i (h : i < xs.length), arr[off + i]? = some xs[i]) ∧ f = Frag.one b (.cells arr t (0, 0)))
section
variable {E w w' : World} {F : List HP} {sz : Nat} {s : Sl} {xs ys : List Value}
theorem OwnS.nil (sz : Nat) : OwnS sz ⟨none, 0, 0⟩ [] Frag.emp := ⟨by simp, .inl ⟨rfl, rfl, rfl, rfl⟩⟩
theorem Hp.ownNil (h : Hp E w F) (sz : Nat) : Hp E w (OwnS sz ⟨none, 0, 0⟩ [] :: F) := h.emp (OwnS.nil sz)
theorem Hp.ownNew {b : Nat} {arr : Array Value} {t : TypeId} {n : Nat} (h : Hp E w (Blk b (.cells arr t (0, 0)) :: F)) (hn : arr.toList.length = n * sz) :
    Hp E w (OwnS sz ⟨some ⟨b, 0, none⟩, n, n⟩ arr.toList :: F) := by
  refine h.weak fun f hf => ⟨hn, .inr ⟨b, 0, arr, t, rfl, Nat.le_refl _, ?_, ?_, hf⟩⟩
  · have : arr.size = n * sz := by simpa using hn
    simp only [this]; omega
  · intro i hi
    have hi' : i < arr.size := by simpa using hi
    simp [hi']
theorem Hp.ownLen (h : Hp E w (OwnS sz s xs :: F)) : xs.length = s.len * sz := by
  obtain ⟨f, a, g, k, hd, e, h1, h2⟩ := h.frag
  exact h1.1
theorem Hp.ownCap (h : Hp E w (OwnS sz s xs :: F)) : s.len ≤ s.cap := by
  obtain ⟨f, a, g, k, hd, e, h1, h2⟩ := h.frag
  rcases h1.2 with ⟨h1, h2, h3, _⟩ | ⟨b, off, arr, t, h1, h2, _⟩
  · omega
  · exact h2
/-- an owned slice: nil, or a row -/
theorem Hp.ownOpen (h : Hp E w (OwnS sz s xs :: F)) : (s = ⟨none, 0, 0⟩ ∧ xs = [] ∧ Hp E w F) ∨
    ∃ b off arr t, s.base = some ⟨b, off, none⟩ ∧ s.len ≤ s.cap ∧ off + s.cap * sz ≤ arr.size ∧ (∀ i (h : i < xs.length), arr[off + i]? = some xs[i]) ∧ Hp E w (Blk b (.cells arr t (0, 0)) :: F) := by
  have hl := h.ownLen
  obtain ⟨f, a, g, k, hd, rfl, h1, h2⟩ := h.frag
  rcases h1.2 with ⟨h3, h4, h5, h6⟩ | ⟨b, off, arr, t, h3, h4, h5, h6, h7⟩
  · refine .inl ⟨by cases s; simp_all, ?_, h.drop⟩
    have : xs.length = 0 := by rw [hl, h4]; simp
    exact List.length_eq_zero_iff.1 this
  · exact .inr ⟨b, off, arr, t, h3, h4, h5, h6, h.os, h.output, h.tape, _, a, g, k, hd, rfl, h7, h2⟩
theorem Hp.ownShut {b off : Nat} {arr : Array Value} {t : TypeId} (h : Hp E w (Blk b (.cells arr t (0, 0)) :: F)) (hl : xs.length = s.len * sz) (h1 : s.base = some ⟨b, off, none⟩) (h2 : s.len ≤ s.cap) (h3 : off + s.cap * sz ≤ arr.size)
    (h4 : ∀ i (h : i < xs.length), arr[off + i]? = some xs[i]) : Hp E w (OwnS sz s xs :: F) :=
  h.weak fun _ hf => ⟨hl, .inr ⟨b, off, arr, t, h1, h2, h3, h4, hf⟩⟩
theorem Tells.own : Tells (OwnS sz s xs :: F) (SlT sz s xs) := by
  rintro w f a ⟨g, k, hd, rfl, ⟨hl, h1⟩, h2⟩
  refine ⟨hl, fun i hi => ?_⟩
  rcases h1 with ⟨h3, h4, h5, _⟩ | ⟨b, off, arr, t, h3, h4, h5, h6, rfl⟩
  · rw [hl, h4] at hi; simp at hi
  · refine ⟨_, h3, ?_⟩
    have : w.heap[b]? = some (.cells arr t (0, 0)) := a b _ (by simp [Frag.add, Frag.one])
    rw [add_mk]
    simp only [World.cell?, this]
    exact h6 i hi
theorem Tells.cell {W : World} {p : Addr} {v : Value} (h : W.cell? p = some v) : Tells (Old W :: F) (fun w => w.cell? p = some v) := by
  refine Tells.old fun w hw => ?_
  have hlt : p.block < W.heap.size := by
    unfold World.cell? at h
    rcases Nat.lt_or_ge p.block W.heap.size with hh | hh
    · exact hh
    · simp [Array.getElem?_eq_none hh] at h
  rw [← h]
  unfold World.cell?
  rw [hw _ hlt]
theorem Tells.slT {W : World} (h : SlT sz s xs W) : Tells (Old W :: F) (SlT sz s xs) := by
  intro w f a b
  refine ⟨h.1, fun i hi => ?_⟩
  obtain ⟨p, hp, hc⟩ := h.2 i hi
  exact ⟨p, hp, (Tells.cell hc) w f a b⟩
theorem Idx.mk {i : Int} {K : Addr → Prop} {p : Addr} (hp : s.base = some p) (h0 : 0 ≤ i) (h1 : i < (s.len : Int)) (h : K (p.add (i.toNat * sz))) : Idx s i sz K := ⟨p, hp, h0, h1, h⟩
/-- an element of one cell is read -/
theorem Idx.rd {i : Int} {K : Addr → Prop} (hs : SlT 1 s xs w) (h0 : 0 ≤ i) (h1 : i < (s.len : Int)) (h : ∀ p (hi : i.toNat < xs.length), w.cell? p = some xs[i.toNat] → K p) : Idx s i 1 K := by
  have hl : i.toNat < xs.length := by rw [hs.1]; omega
  obtain ⟨p, hp, hc⟩ := hs.2 _ hl
  exact ⟨p, hp, h0, h1, h _ hl (by simpa using hc)⟩
/-- a cell of an element of several cells is read -/
theorem Idx.rdn {i : Int} {K : Addr → Prop} (hs : SlT sz s xs w) (hz : 0 < sz) (h0 : 0 ≤ i) (h1 : i < (s.len : Int)) (h : ∀ p, (∀ j (hj : i.toNat * sz + j < xs.length), j < sz → w.cell? (p.add j) = some xs[i.toNat * sz + j]) → K p) : Idx s i sz K := by
  have hlt : i.toNat < s.len := by omega
  have hmul : i.toNat * sz + sz ≤ s.len * sz := by
    have : (i.toNat + 1) * sz ≤ s.len * sz := Nat.mul_le_mul_right _ hlt
    rw [Nat.succ_mul] at this; exact this
  obtain ⟨p, hp, _⟩ := hs.2 (i.toNat * sz) (by rw [hs.1]; omega)
  refine ⟨p, hp, h0, h1, h _ fun j hj hjs => ?_⟩
  obtain ⟨q, hq, hc⟩ := hs.2 (i.toNat * sz + j) hj
  have : q = p := Option.some.inj (hq.symm.trans hp)
  subst this
  rw [← hc]
  congr 1
  unfold Addr.add
  by_cases e1 : i.toNat * sz = 0 <;> by_cases e2 : j = 0 <;> simp [e1, e2, Nat.add_assoc]

/-! a row of cells written -/
theorem Hp.setRow {b off : Nat} {t : TypeId} : ∀ (vs : List Value) (i : Nat) (w : World) (arr : Array Value), Hp E w (Blk b (.cells arr t (0, 0)) :: F) → off + i + vs.length ≤ arr.size →
    ∃ arr' : Array Value, arr'.size = arr.size ∧ (∀ j (h : j < vs.length), arr'[off + i + j]? = some vs[j]) ∧ (∀ j, j < off + i → arr'[j]? = arr[j]?) ∧
      Hp E (StA.setRow w ⟨b, off, none⟩ vs i) (Blk b (.cells arr' t (0, 0)) :: F)
  | [], i, w, arr, h, _ => ⟨arr, rfl, fun j h => by simp at h, fun _ _ => rfl, h⟩
  | v :: vs, i, w, arr, h, hl => by
    simp only [List.length_cons] at hl
    have h1 := h.setCell (i := off + i) v
    have hsz : off + (i + 1) + vs.length ≤ (arr.setIfInBounds (off + i) v).size := by rw [Array.size_setIfInBounds]; omega
    obtain ⟨arr', e1, e2, e3, h2⟩ := Hp.setRow (b := b) (off := off) (t := t) vs (i + 1) _ (arr.setIfInBounds (off + i) v) h1 hsz
    refine ⟨arr', by simpa using e1, fun j hj => ?_, fun j hj => ?_, ?_⟩
    · cases j with
      | zero =>
        rw [Nat.add_zero, e3 _ (by omega)]
        simp [show off + i < arr.size by omega]
      | succ j =>
        have := e2 j (by simp at hj; omega)
        rw [show off + i + (j + 1) = off + (i + 1) + j by omega]
        simpa using this
    · rw [e3 _ (by omega), Array.getElem?_setIfInBounds_ne (by omega)]
    · rw [StA.setRow, add_mk]; exact h2
theorem run_row {P : Program} {b off : Nat} {arr : Array Value} {t : TypeId} (h : Hp E w (Blk b (.cells arr t (0, 0)) :: F)) (vs : List Value) (i : Nat) (hl : off + i + vs.length ≤ arr.size) (hv : ∀ v ∈ vs, scalarB v = true) :
    (storeCells ⟨b, off, none⟩ vs i).run P w = .ok () (StA.setRow w ⟨b, off, none⟩ vs i) := by
  refine run_setRow vs i w fun j hj => ⟨hv _ (List.getElem_mem hj), ?_, ?_⟩
  · rw [add_mk, h.cell]; simp; omega
  · rw [add_mk]; simp [World.frozen?, h.blk]
theorem grow_le : ∀ (r c n : Nat), c ≤ 2 * n + 1024 → Builtin.growBy n r c ≤ 2 * n + 1024
  | 0, c, n, h => h
  | r + 1, c, n, h => by
    unfold Builtin.growBy
    split
    · exact h
    · exact grow_le r _ n (by omega)
theorem next_le {n c : Nat} (h : c < n) : Builtin.nextslicecap n c ≤ 2 * n + 1024 := by
  unfold Builtin.nextslicecap
  split
  · omega
  · split
    · omega
    · exact grow_le 4 c n (by omega)
/-- what an append needs to know of its element type -/
structure ElemT (P : Program) (t e : TypeId) (sz bytes : Nat) : Prop where
  und : P.underlying t = some (.slice e)
  info : ∃ it z, P.info? e = some it ∧ it.size = sz ∧ it.bytes = bytes ∧ it.zero = some z ∧ z.cells.size = sz
def elemB (P : Program) (e : TypeId) (sz bytes : Nat) : Bool :=
  match P.info? e with
  | some it => it.size == sz && it.bytes == bytes && (match it.zero with | some z => z.cells.size == sz | none => false)
  | none => false
theorem ElemT.of {P : Program} {t e : TypeId} {sz bytes : Nat} (h1 : P.underlying t = some (.slice e)) (h2 : elemB P e sz bytes = true) : ElemT P t e sz bytes := by
  refine ⟨h1, ?_⟩
  unfold elemB at h2
  split at h2
  · rename_i it hi
    simp only [Bool.and_eq_true, beq_iff_eq] at h2
    obtain ⟨⟨h2, h3⟩, h4⟩ := h2
    split at h4
    · rename_i z hz
      exact ⟨it, z, hi, h2, h3, hz, by simpa using h4⟩
    · simp at h4
  · simp at h2
theorem run_cells {P : Program} {vs : List Value} {p : Addr} (h : ∀ i (hi : i < vs.length), w.cell? (p.add i) = some vs[i]) : (loadCells p vs.length).run P w = .ok vs.toArray w := by
  have := loadCellsFrom_run (P := P) (w := w) (a := p) vs 0 #[] (fun j hj => by simpa using h j hj)
  simpa [loadCells] using this
/-- the cells that an append takes from its second argument -/
def Src (sz n : Nat) (x : Value) (ys : List Value) (w : World) : Prop :=
  (∃ b l c, x = .slice b l c ∧ n = l ∧ SlT sz ⟨b, l, c⟩ ys w) ∨ (∃ s : ByteArray, x = .string s ∧ n = s.size ∧ ys = s.data.toList.map fun b => .int .u8 b.toNat)
theorem Src.run {P : Program} {n : Nat} {x : Value} (h : Src sz n x ys w) : (Builtin.firstCells sz n x).run P w = .ok ys.toArray w ∧ (Builtin.lenOf x).run P w = .ok n w := by
  rcases h with ⟨b, l, c, rfl, rfl, hl, hc⟩ | ⟨s, rfl, rfl, rfl⟩
  · refine ⟨?_, rfl⟩
    simp only at hl
    cases b with
    | none =>
      cases ys with
      | nil => rfl
      | cons y ys => obtain ⟨p, hp, _⟩ := hc 0 (by simp); cases hp
    | some p =>
      show (loadCells p (n * sz)).run P w = _
      rw [← hl]
      exact run_cells fun i hi => by obtain ⟨q, hq, hc⟩ := hc i hi; cases hq; exact hc
  · refine ⟨?_, rfl⟩
    show Result.ok ((s.extract 0 s.size).data.map fun b => Value.int .u8 b.toNat) w = _
    congr 1
    have : s.extract 0 s.size = s := by simp
    rw [this]
    apply Array.ext'
    simp
theorem Src.len {n : Nat} {x : Value} (h : Src 1 n x ys w) : ys.length = n := by
  rcases h with ⟨b, l, c, rfl, rfl, hl, hc⟩ | ⟨s, rfl, rfl, rfl⟩
  · simpa using hl
  · simp
theorem zeroCells_size (z : Array Value) (n : Nat) : (Builtin.zeroCells z n).size = n * z.size := by simp [Builtin.zeroCells]
/-- append to an owned slice: it stays owned, and holds what it held and what was appended -/
theorem run_appendK {P : Program} {t tx ty e : TypeId} {bytes n : Nat} {x : Value} {K : Sl → World → Prop} (he : ElemT P t e sz bytes) (_ : 0 < sz) (hx : (∃ e2, P.underlying tx = some (.slice e2)) ∨ P.underlying tx = some .string)
    (hh : Hp E w (OwnS sz s xs :: F)) (hs : Src sz n x ys w) (hyl : ys.length = n * sz) (hys : ∀ y ∈ ys, scalarB y = true) (hb : (2 * (s.len + n) + 1024) * bytes ≤ 2 ^ 48) (hb2 : s.len + n < 2 ^ 62)
    (h : ∀ s' w', Hp E w' (OwnS sz s' (xs ++ ys) :: F) → s'.len = s.len + n → SlT sz s xs w' → K s' w') : Run P (Builtin.append_ #[t, tx] ty ⟨[.slice s.base s.len s.cap, x]⟩) kS w K := by
  obtain ⟨it, z, hi, hsz, hby, hze, hzs⟩ := he.info
  obtain ⟨hs1, hs2⟩ := hs.run (P := P)
  have hlen := hh.ownLen
  have hcap := hh.ownCap
  have hso : (sizeOf e).run P w = .ok sz w := by rw [run_size hi, hsz]
  have step : ∀ v w', (Builtin.append_ #[t, tx] ty ⟨[.slice s.base s.len s.cap, x]⟩).run P w = .ok v w' → (∃ s' : Sl, v = .slice s'.base s'.len s'.cap ∧ Hp E w' (OwnS sz s' (xs ++ ys) :: F) ∧ s'.len = s.len + n ∧ SlT sz s xs w') →
      Run P (Builtin.append_ #[t, tx] ty ⟨[.slice s.base s.len s.cap, x]⟩) kS w K := by
    rintro v w' h1 ⟨s', rfl, h2, h3, h4⟩
    unfold Run
    rw [h1]
    exact h s' w' h2 h3 h4
  have hlen2 : (xs ++ ys).length = (s.len + n) * sz := by rw [List.length_append, hlen, hyl, Nat.add_mul]
  by_cases hfit : s.len + n ≤ s.cap
  · rcases hh.ownOpen with ⟨rfl, rfl, hF⟩ | ⟨b, off, arr, tt, h1, h2, h3, h4, hB⟩
    · have hn0 : n = 0 := by simp at hfit; exact hfit
      subst hn0
      have hy0 : ys = [] := by simpa using hyl
      subst hy0
      refine step (.slice none 0 0) w ?_ ⟨⟨none, 0, 0⟩, rfl, hh, rfl, hh.tells Tells.own⟩
      rcases hx with ⟨e2, hd⟩ | hd <;> simp [Builtin.append_, run_underlying he.und, hso, run_underlying hd, hs1, hs2]
    · have hmul : (s.len + n) * sz ≤ s.cap * sz := Nat.mul_le_mul_right _ hfit
      rw [Nat.add_mul] at hmul
      have hlr : off + s.len * sz + ys.length ≤ arr.size := by omega
      obtain ⟨arr', e1, e2, e3, hB'⟩ := Hp.setRow (off := off) ys (s.len * sz) w arr hB (by omega)
      have hrow := run_row (P := P) (off := off + s.len * sz) hB ys 0 (by omega) hys
      have hro2 : StA.setRow w ⟨b, off + s.len * sz, none⟩ ys 0 = StA.setRow w ⟨b, off, none⟩ ys (s.len * sz) := by
        have key : ∀ (vs : List Value) (w : World) (i : Nat), StA.setRow w ⟨b, off + s.len * sz, none⟩ vs i = StA.setRow w ⟨b, off, none⟩ vs (s.len * sz + i) := by
          intro vs
          induction vs with
          | nil => intro w i; rfl
          | cons v vs ih => intro w i; simp only [StA.setRow, ih, add_mk, Nat.add_assoc]
        simpa using key ys w 0
      refine step (.slice s.base (s.len + n) s.cap) (StA.setRow w ⟨b, off, none⟩ ys (s.len * sz)) ?_ ⟨⟨s.base, s.len + n, s.cap⟩, rfl, ?_, rfl, ⟨hlen, fun i hi => ⟨_, h1, by rw [add_mk, hB'.cell, e3 _ (by omega)]; exact h4 i hi⟩⟩⟩
      · rw [hro2] at hrow
        rcases hx with ⟨e2, hd⟩ | hd <;> simp [Builtin.append_, run_underlying he.und, hso, run_underlying hd, hs1, hs2, hfit, h1, add_mk, hrow]
      · refine Hp.ownShut hB' hlen2 h1 hfit (by simp only; omega) fun i hi => ?_
        by_cases hi2 : i < xs.length
        · rw [e3 _ (by omega), List.getElem_append_left hi2]; exact h4 i hi2
        · rw [List.getElem_append_right (by omega)]
          have := e2 (i - xs.length) (by simp at hi; omega)
          rw [← this]
          congr 1
          omega
  · have hnext : ¬ Builtin.nextslicecap (s.len + n) s.cap * it.bytes > 2 ^ 48 := by
      have := next_le (n := s.len + n) (c := s.cap) (by omega)
      have h2 : Builtin.nextslicecap (s.len + n) s.cap * it.bytes ≤ (2 * (s.len + n) + 1024) * bytes := by rw [hby]; exact Nat.mul_le_mul_right _ this
      omega
    have hmax : ¬ ((s.len + n : Nat) : Int) > IntKind.i64.max := by
      have : IntKind.i64.max = 9223372036854775807 := rfl
      rw [this]; omega
    have hold : (Builtin.firstCells sz s.len (.slice s.base s.len s.cap)).run P w = .ok xs.toArray w := by
      have : Src sz s.len (.slice s.base s.len s.cap) xs w := .inl ⟨s.base, s.len, s.cap, rfl, rfl, hh.tells Tells.own⟩
      exact (this.run (P := P)).1
    generalize hq : Question.cut (.appendCap (s.len + n) s.cap e) (w.tape w.drawn (.appendCap (s.len + n) s.cap e)) = newCap
    have hnc : s.len + n ≤ newCap := by rw [← hq]; exact Nat.le_add_right _ _
    have hF : Hp E w F := hh.drop
    have hD : Hp E w.drew F := hF.drew (n := w.drawn + 1)
    have hold' : (Builtin.firstCells sz s.len (.slice s.base s.len s.cap)).run P w.drew = .ok xs.toArray w.drew := by
      have : Src sz s.len (.slice s.base s.len s.cap) xs w.drew := .inl ⟨s.base, s.len, s.cap, rfl, rfl, (hh.drew (n := w.drawn + 1)).tells Tells.own⟩
      exact (this.run (P := P)).1
    have hs1' : (Builtin.firstCells sz n x).run P w.drew = .ok ys.toArray w.drew := (Src.run (P := P) (w := w.drew) hs).1
    have hA := hD.alloc (.cells (xs.toArray ++ ys.toArray ++ Builtin.zeroCells z.cells (newCap - (s.len + n))) e)
    refine step (.slice (some ⟨w.heap.size, 0, none⟩) (s.len + n) newCap) _ ?_ ⟨⟨some ⟨w.heap.size, 0, none⟩, s.len + n, newCap⟩, rfl, Hp.ownShut hA hlen2 rfl hnc ?_ ?_, rfl, ((hh.drew (n := w.drawn + 1)).alloc (.cells (xs.toArray ++ ys.toArray ++ Builtin.zeroCells z.cells (newCap - (s.len + n))) e)).tells (Tells.cons Tells.own)⟩
    · have hz' : ∀ w : World, (zeroValue e).run P w = .ok z w := by intro w; simp [zeroValue, typeInfo, hi, hze]
      have hti : ∀ w : World, (typeInfo e).run P w = .ok it w := by intro w; simp [typeInfo, hi]
      have hmax' : ¬ (9223372036854775807 < (s.len : Int) + (n : Int) ∧ it.bytes = 0) := by omega
      have hfo : Question.forced (.appendCap (s.len + n) s.cap e) = false := rfl
      rcases hx with ⟨e2, hd⟩ | hd <;> simp [Builtin.append_, run_underlying he.und, hso, run_underlying hd, hs2, hfit, hmax', hti, hnext, hfo, hq, hold', hs1', hz', newRow]
      all_goals rw [← Array.append_assoc, show xs.toArray ++ ys.toArray = (xs ++ ys).toArray by simp]
    · simp only [Array.size_append, List.size_toArray, zeroCells_size, hzs, hlen, hyl]
      have : newCap * sz = (s.len + n) * sz + (newCap - (s.len + n)) * sz := by rw [← Nat.add_mul]; congr 1; omega
      rw [this, Nat.add_mul]; omega
    · intro i hi
      have h1 : i < (xs.toArray ++ ys.toArray).size := by simpa using hi
      rw [Nat.zero_add, Array.getElem?_append_left h1]
      have : (xs.toArray ++ ys.toArray) = (xs ++ ys).toArray := by simp
      rw [this]
      simp only [List.getElem?_toArray]
      exact List.getElem?_eq_getElem hi
theorem run_append {P : Program} {t tx ty e : TypeId} {bytes n : Nat} {x : Value} {K : Sl → World → Prop} (he : ElemT P t e sz bytes) (hz : 0 < sz) (hx : (∃ e2, P.underlying tx = some (.slice e2)) ∨ P.underlying tx = some .string)
    (hh : Hp E w (OwnS sz s xs :: F)) (hs : Src sz n x ys w) (hyl : ys.length = n * sz) (hys : ∀ y ∈ ys, scalarB y = true) (hb : (2 * (s.len + n) + 1024) * bytes ≤ 2 ^ 48) (hb2 : s.len + n < 2 ^ 62)
    (h : ∀ s' w', Hp E w' (OwnS sz s' (xs ++ ys) :: F) → s'.len = s.len + n → K s' w') : Run P (Builtin.append_ #[t, tx] ty ⟨[.slice s.base s.len s.cap, x]⟩) kS w K :=
  run_appendK he hz hx hh hs hyl hys hb hb2 fun s' w' h1 h2 _ => h s' w' h1 h2
end

/-- a function value that is known is called -/
theorem ClV.mk {P : Program} {i : FuncId} {first captured : Array Value} {ks : List Ki} {args : List Value} {w : World} {K : FnK ks (World → Prop)} (ok : okCall P i = true) (h : Cl P ks i ⟨first.toList ++ args ++ captured.toList⟩ w K) :
    ClV P (.func (.func i) first captured) ks args w K := by
  show onB _ _
  rw [ok]; exact h
theorem ClX.mk {P : Program} {i : FuncId} {first captured : Array Value} {ks : List Ki} {args : List Value} {w : World} {K : FnK ks (World → Prop)} (ok : okCall P i = true) (h : Cl P ks i ⟨first.toList ++ args ++ captured.toList⟩ w K) :
    ClX P (.func (.func i) first captured) ks args w K := by
  unfold ClX
  simp only [ok]
  exact h
/-! small steps -/
theorem IfB_t {X Y : Prop} : IfB true X Y = X := rfl
theorem IfB_f {X Y : Prop} : IfB false X Y = Y := rfl
theorem NilCk_some {p : Addr} {K : Addr → Prop} : NilCk (some p) K = K p := rfl
theorem Join_eq {α : Type} (r : α) (k : α → Prop) : Join r k = k r := rfl
section
variable {E w : World} {F : List HP}
/-- a field of an owned block is read -/
theorem Ld.blk {s : Sc} {b i : Nat} {c : Array Value} {t : TypeId} {fr : Nat × Nat} {K : s.T → Prop} (h : Hp E w (Blk b (.cells c t fr) :: F)) (x : s.T) (hx : c[i]? = some (s.enc x)) (hk : K x) : Ld (.sc s) ⟨b, i, none⟩ w K :=
  Ld.sc x (by rw [h.cell]; exact hx) hk
theorem St.blk {v : Value} {K : World → Prop} {b i : Nat} {c : Array Value} {t : TypeId} (hh : Hp E w (Blk b (.cells c t (0, 0)) :: F)) (hi : i < c.size) (hv : scalarB v = true)
    (h : ∀ w', Hp E w' (Blk b (.cells (c.setIfInBounds i v) t (0, 0)) :: F) → K w') : St ⟨b, i, none⟩ v w K := St.mk rfl hh hi hv h
end
def big : Nat := 1099511627776
theorem big_eq : big = 1099511627776 := rfl
def vB (x : Nat) : Value := .int .u8 (x : Int)
def vI (x : Int) : Value := .int .i64 x
theorem vB_scalar {xs : List Nat} : ∀ y ∈ xs.map vB, scalarB y = true := by
  intro y hy
  obtain ⟨x, _, rfl⟩ := List.mem_map.1 hy
  rfl
theorem vI_scalar {xs : List Int} : ∀ y ∈ xs.map vI, scalarB y = true := by
  intro y hy
  obtain ⟨x, _, rfl⟩ := List.mem_map.1 hy
  rfl
/-- a cell of an element of an owned slice is written -/
theorem St.ownN {E w : World} {F : List HP} {sz j : Nat} {s : Sl} {xs : List Value} {i : Int} {v : Value} {K : World → Prop} (hh : Hp E w (OwnS sz s xs :: F)) (hj : j < sz) (h0 : 0 ≤ i) (h1 : i < (s.len : Int)) (hv : scalarB v = true)
    (h : ∀ w', Hp E w' (OwnS sz s (xs.set (i.toNat * sz + j) v) :: F) → K w') : Idx s i sz (fun q => St (q.add j) v w K) := by
  have hl := hh.ownLen
  have hlt : i.toNat < s.len := by omega
  have hmul : i.toNat * sz + sz ≤ s.len * sz := by
    have : (i.toNat + 1) * sz ≤ s.len * sz := Nat.mul_le_mul_right _ hlt
    rw [Nat.succ_mul] at this; exact this
  rcases hh.ownOpen with ⟨rfl, rfl, hF⟩ | ⟨b, off, arr, t, e1, e2, e3, e4, hB⟩
  · simp at hlt
  · have hcm : s.len * sz ≤ s.cap * sz := Nat.mul_le_mul_right _ e2
    refine ⟨_, e1, h0, h1, ?_⟩
    rw [add_mk]
    show St (Addr.add _ j) v w K
    rw [add_mk]
    refine St.mk rfl hB (by omega) hv fun w' h' => h _ ?_
    refine h'.ownShut (by simpa using hl) e1 e2 (by simpa using e3) fun r hr => ?_
    rw [List.length_set] at hr
    rw [Array.getElem?_setIfInBounds, List.getElem_set]
    by_cases hq : i.toNat * sz + j = r
    · rw [if_pos (by omega), if_pos (by omega), if_pos hq]
    · rw [if_neg (by omega), if_neg hq]; exact e4 r hr
/-- an element of one cell of an owned slice is written -/
theorem St.own {E w : World} {F : List HP} {s : Sl} {xs : List Value} {i : Int} {v : Value} {K : World → Prop} (hh : Hp E w (OwnS 1 s xs :: F)) (h0 : 0 ≤ i) (h1 : i < (s.len : Int)) (hv : scalarB v = true)
    (h : ∀ w', Hp E w' (OwnS 1 s (xs.set i.toNat v) :: F) → K w') : Idx s i 1 (fun q => St q v w K) := by
  have := St.ownN (sz := 1) (j := 0) (K := K) hh (by decide) h0 h1 hv (by simpa using h)
  simpa only [add_zero] using this
theorem Tells.blk {F : List HP} {b n m sz : Nat} {arr : Array Value} {xs : List Value} {t : TypeId} {fr : Nat × Nat} (hx : arr.toList = xs) (hl : xs.length = n * sz) : Tells (Blk b (.cells arr t fr) :: F) (SlT sz ⟨some ⟨b, 0, none⟩, n, m⟩ xs) := by
  subst hx
  rintro w f a ⟨g, k, hd, rfl, rfl, h2⟩
  refine ⟨hl, fun i hi => ⟨_, rfl, ?_⟩⟩
  have : w.heap[b]? = some (.cells arr t fr) := a b _ (by simp [Frag.add, Frag.one])
  rw [add_mk]
  simp only [World.cell?, this, Nat.zero_add]
  have hi' : i < arr.size := by simpa using hi
  simp [hi']
theorem Tells.nil {F : List HP} {sz : Nat} : Tells F (SlT sz ⟨none, 0, 0⟩ []) := fun _ _ _ _ => ⟨by simp, fun i hi => by simp at hi⟩
/-- an element of a slice is read, as any world of the frame has it -/
theorem Idx.rdT {E w : World} {F : List HP} {sz : Nat} {s : Sl} {xs : List Value} {i : Int} {K : Addr → Prop} (hh : Hp E w F) (hs : Tells F (SlT sz s xs)) (hz : 0 < sz) (h0 : 0 ≤ i) (h1 : i < (s.len : Int))
    (h : ∀ p, (∀ j, j < sz → Tells F (fun w => w.cell? (p.add j) = xs[i.toNat * sz + j]?)) → K p) : Idx s i sz K := by
  have hs1 := hh.tells hs
  have hlt : i.toNat < s.len := by omega
  have hmul : i.toNat * sz + sz ≤ s.len * sz := by
    have : (i.toNat + 1) * sz ≤ s.len * sz := Nat.mul_le_mul_right _ hlt
    rw [Nat.succ_mul] at this; exact this
  have hx : xs.length = s.len * sz := hs1.1
  obtain ⟨p, hp, _⟩ := hs1.2 (i.toNat * sz) (by omega)
  refine ⟨p, hp, h0, h1, h _ fun j hj => hs.imp fun w' hs' => ?_⟩
  obtain ⟨q, hq, hc⟩ := hs'.2 (i.toNat * sz + j) (by omega)
  have : q = p := Option.some.inj (hq.symm.trans hp)
  subst this
  rw [List.getElem?_eq_getElem (by omega), ← hc]
  congr 1
  unfold Addr.add
  by_cases e1 : i.toNat * sz = 0 <;> by_cases e2 : j = 0 <;> simp [e1, e2, Nat.add_assoc]
/-- a slice of an owned slice -/
theorem Slc.own {E w : World} {F : List HP} {s : Sl} {xs : List Value} {lo hi : Int} {K : Sl → Prop} (hh : Hp E w (OwnS 1 s xs :: F)) (h0 : 0 ≤ lo) (h1 : lo ≤ hi) (h2 : hi ≤ (s.len : Int))
    (h : ∀ s' : Sl, Hp E w (OwnS 1 s' ((xs.drop lo.toNat).take (hi.toNat - lo.toNat)) :: F) → s'.len = hi.toNat - lo.toNat → K s') : Slc s lo hi s.cap 1 K := by
  have hl := hh.ownLen
  have hc := hh.ownCap
  refine ⟨h0, h1, by omega, by omega, h _ ?_ rfl⟩
  rcases hh.ownOpen with ⟨rfl, rfl, hF⟩ | ⟨b, off, arr, t, e1, e2, e3, e4, hB⟩
  · simp only at h2
    have e1 : lo.toNat = 0 := by omega
    have e2 : hi.toNat = 0 := by omega
    simpa [e1, e2] using hh
  · have key : (if (s.cap : Int).toNat = lo.toNat then s.base else s.base.map (·.add (lo.toNat * 1))) = if s.cap = lo.toNat then s.base else some ⟨b, off + lo.toNat, none⟩ := by
      rw [Int.toNat_natCast, e1]
      simp only [Option.map_some, add_mk, Nat.mul_one]
    rw [key, Int.toNat_natCast]
    have hlen : ((xs.drop lo.toNat).take (hi.toNat - lo.toNat)).length = (hi.toNat - lo.toNat) * 1 := by simp [hl]; omega
    by_cases hcl : s.cap = lo.toNat
    · rw [if_pos hcl]
      refine hB.ownShut hlen e1 (by simp only; omega) (by simp only; omega) fun i hi' => ?_
      rw [hlen] at hi'; omega
    · rw [if_neg hcl]
      refine hB.ownShut hlen rfl (by simp only; omega) (by simp only; omega) fun i hi' => ?_
      have hi2 : lo.toNat + i < xs.length := by rw [hlen] at hi'; omega
      rw [Nat.add_assoc, e4 _ hi2]
      simp
/-- a slice of a slice that is read -/
theorem Slc.rd {w : World} {s : Sl} {xs : List Value} {lo hi mx : Int} {K : Sl → Prop} (hs : SlT 1 s xs w) (h0 : 0 ≤ lo) (h1 : lo ≤ hi) (h2 : hi ≤ (s.len : Int)) (h3 : hi ≤ mx) (h4 : mx ≤ (s.cap : Int))
    (h : ∀ s' : Sl, (∀ w', SlT 1 s xs w' → SlT 1 s' ((xs.drop lo.toNat).take (hi.toNat - lo.toNat)) w') → s'.len = hi.toNat - lo.toNat → K s') : Slc s lo hi mx 1 K := by
  have hl := hs.1
  refine ⟨h0, h1, h3, h4, h _ (fun w' hs' => ?_) rfl⟩
  have hlen : ((xs.drop lo.toNat).take (hi.toNat - lo.toNat)).length = (hi.toNat - lo.toNat) * 1 := by simp [hl]; omega
  refine ⟨hlen, fun i hi' => ?_⟩
  have hi2 : lo.toNat + i < xs.length := by rw [hlen] at hi'; omega
  obtain ⟨p, hp, hcell⟩ := hs'.2 _ hi2
  have hne : mx.toNat ≠ lo.toNat := by rw [hlen] at hi'; omega
  refine ⟨p.add lo.toNat, by simp [hne, hp], ?_⟩
  have : (p.add lo.toNat).add i = p.add (lo.toNat + i) := by
    unfold Addr.add
    by_cases e1 : lo.toNat = 0 <;> by_cases e2 : i = 0 <;> simp [e1, e2, Nat.add_assoc]
  rw [this, hcell]
  simp
end Go.Vc
/- Arr -/
namespace Go.Vc
open Go
section
variable {E w : World} {F : List HP}
theorem Ld.arr {b n : Nat} {cs : Array Value} {t : TypeId} {fr : Nat × Nat} {K : Array Value → Prop} (h : Hp E w (Blk b (.cells cs t fr) :: F)) (hn : cs.size = n) (hK : K cs) : Ld (.arr n) ⟨b, 0, none⟩ w K := by
  refine ⟨cs, hn, fun w' hw i hi => ?_, hK⟩
  subst hw
  rw [add_mk, h.cell, Nat.zero_add]
  simp [hn, hi]
theorem StA.blk {b n : Nat} {c0 cs : Array Value} {t : TypeId} {K : World → Prop} (h : Hp E w (Blk b (.cells c0 t (0, 0)) :: F)) (h0 : c0.size = n) (hn : cs.size = n) (hs : ∀ v ∈ cs.toList, scalarB v = true)
    (hK : ∀ w', Hp E w' (Blk b (.cells cs t (0, 0)) :: F) → K w') : StA n ⟨b, 0, none⟩ cs w K := by
  refine ⟨hn, fun i hi => ⟨?_, ?_, ?_⟩, ?_⟩
  · have : cs.getD i undef ∈ cs.toList := by simp [hn, hi]
    exact hs _ this
  · rw [add_mk, h.cell]; simp [h0, hi]
  · rw [add_mk]; simp [World.frozen?, h.blk]
  · obtain ⟨arr', e1, e2, e3, h'⟩ := Hp.setRow (b := b) (off := 0) cs.toList 0 w c0 h (by simp; omega)
    have : arr' = cs := by
      apply Array.ext
      · omega
      · intro i hi1 hi2
        have := e2 i (by simpa using hi2)
        rw [show 0 + 0 + i = i by omega, Array.getElem?_eq_getElem hi1] at this
        simpa using this
    subst this
    exact hK _ h'
/-- an element of one cell is read -/
theorem IdxP.rd {b n : Nat} {cs : Array Value} {t : TypeId} {fr : Nat × Nat} {i : Int} {s : Sc} {K : s.T → Prop} (h : Hp E w (Blk b (.cells cs t fr) :: F)) (h0 : 0 ≤ i) (h1 : i < (n : Int)) (x : s.T) (hx : cs[i.toNat]? = some (s.enc x)) (hK : K x) :
    IdxP ⟨b, 0, none⟩ n i 1 fun q => Ld (.sc s) q w K := by
  refine ⟨h0, h1, ?_⟩
  rw [add_mk]
  exact Ld.blk h x (by simpa using hx) hK
/-- an element of one cell is written -/
theorem IdxP.wr {b n : Nat} {cs : Array Value} {t : TypeId} {i : Int} {v : Value} {K : World → Prop} (h : Hp E w (Blk b (.cells cs t (0, 0)) :: F)) (h0 : 0 ≤ i) (h1 : i < (n : Int)) (hn : cs.size = n) (hv : scalarB v = true)
    (hK : ∀ w', Hp E w' (Blk b (.cells (cs.setIfInBounds i.toNat v) t (0, 0)) :: F) → K w') : IdxP ⟨b, 0, none⟩ n i 1 fun q => St q v w K := by
  refine ⟨h0, h1, ?_⟩
  rw [add_mk]
  exact St.blk h (by omega) hv (by simpa using hK)
theorem IdxV.rd {s : Sc} {cs : Array Value} {n : Nat} {i : Int} {K : s.T → Prop} (h0 : 0 ≤ i) (h1 : i < (n : Int)) (x : s.T) (hx : cs[i.toNat]? = some (s.enc x)) (hK : K x) : IdxV s cs n i K := ⟨h0, h1, x, hx, hK⟩
end
/-- an array of numbers of one kind -/
def ai (k : IntKind) (l : List Nat) : Array Value := ⟨l.map fun (n : Nat) => .int k (n : Int)⟩
theorem ai_size {k : IntKind} {l : List Nat} : (ai k l).size = l.length := by simp [ai]
theorem ai_get {k : IntKind} {l : List Nat} {i : Nat} (h : i < l.length) : (ai k l)[i]? = some (Sc.enc (.int k) (l[i] : Int)) := by simp [ai, h]
theorem ai_scalar {k : IntKind} {l : List Nat} : ∀ v ∈ (ai k l).toList, scalarB v = true := by
  intro v hv
  simp only [ai, List.mem_map] at hv
  obtain ⟨x, _, rfl⟩ := hv
  rfl
theorem ai_set {k : IntKind} {l : List Nat} {i x : Nat} : (ai k l).setIfInBounds i (.int k (x : Int)) = ai k (l.set i x) := by
  unfold ai
  apply Array.ext'
  simp [List.map_set]
theorem ai_zero {k : IntKind} {n : Nat} : (⟨List.replicate n (.int k 0)⟩ : Array Value) = ai k (List.replicate n 0) := by
  unfold ai; simp
theorem EqA.mk {k : IntKind} {n : Nat} {a b : List Nat} {K : Bool → Prop} (ha : a.length = n) (hb : b.length = n) (h : K (a == b)) : EqA k n (ai k a) (ai k b) K := by
  refine ⟨a.map fun (x : Nat) => (x : Int), b.map fun (x : Nat) => (x : Int), by simp [ai], by simp [ai], by simpa using ha, by simpa using hb, ?_⟩
  have : ((a.map fun (x : Nat) => (x : Int)) == (b.map fun (x : Nat) => (x : Int))) = (a == b) := by
    rw [Bool.eq_iff_iff, beq_iff_eq, beq_iff_eq]
    constructor
    · intro h
      exact (List.map_inj_right (fun x y h => by have h : (x : Int) = (y : Int) := h; omega)).1 h
    · rintro rfl; rfl
  rw [this]; exact h
end Go.Vc

/- Texts of this seat, merged. -/
import Derived.Shelf.Strings.Builder1
import Derived.Shelf.Small.Bits
import Derived.Shelf.Small.Wraps
import Derived.Shelf.Strings.BuilderF
import Derived.Shelf.Strings.BuilderK
import Derived.Shelf.Strconv.Atoi
import Derived.Shelf.Strconv.Itoa0
import Derived.Shelf.Strconv.Itoa1
import Derived.Shelf.LaysM
import Derived.Shelf.Strconv.Itoa2
import Derived.Shelf.Strconv.Itoa3
import Derived.Shelf.Strconv.AtoiErrFast
import Derived.Shelf.Strconv.ParseIntEmpty
import Derived.Shelf.Strconv.AtoiFail
import Derived.Shelf.Strconv.Clone
import Derived.Shelf.Strconv.SyntaxError
import Derived.Shelf.LaysC
import Derived.Shelf.Strconv.ToError
import Derived.Shelf.Strconv.Lower
import Derived.Shelf.Strconv.ParseUint10
import Derived.Shelf.Strconv.ParseUint10Empty
import Derived.Shelf.Strconv.ParseUint10Any
import Derived.Shelf.Strconv.ParseInt10
import Derived.Shelf.Strconv.AtoiLong
import Derived.Shelf.Strconv.AtoiInnerAll
import Derived.Shelf.Strconv.RangeError
import Derived.Shelf.Strconv.ToErrorRange
import Derived.Shelf.Strconv.AtoiAll
import Derived.Shelf.Strconv.ErrVarAll
import Derived.Shelf.Strings.Search1
import Derived.Shelf.Strings.Search2
import Derived.Shelf.Strings.Search3
import Derived.Shelf.Strings.Shaped
import Derived.Shelf.Sort.Plain
import Derived.Shelf.Strings.Prefix
import Derived.Shelf.Strings.BuilderCap
import Derived.Shelf.Slices.Turned
import Derived.Shelf.Slices.Equal
import Derived.Ground.Names2Prog
import Derived.Shelf.Slices.Clone
import Derived.Shelf.Slices.CompactS
import Derived.Shelf.Slices.Cells
import Derived.Shelf.Slices.In.SortNone
import Derived.Shelf.Slices.Empties2
import Derived.Test.YtijmnenojbfdnaaGreatDoorProg
import Derived.KernelRfl
import Derived.WalkKit
import Derived.WalkSpells
import Derived.WalkLawsBesides
import Derived.Lib.Hide
import Derived.Deep.Draws
import Derived.Deep.OwnRows
import Derived.Outline
import Derived.Deep.Light
import Derived.Lib.SlicesCompact
set_option linter.unusedSimpArgs false
set_option linter.unusedVariables false
namespace Go.Proofs
open Go.Shelf
def Tryz.lays170_ren : Go.Shelf.Ren := ⟨fun | 170 => 51 | n => n, fun | 70 => 89 | 3 => 3 | 0 => 0 | 72 => 92 | 37 => 90 | 5 => 5 | n => n, fun | n => n⟩
theorem Tryz.lays170 : Go.Proofs.Lays.n170 Tryz.prog Tryz.lays170_ren := {
  mixed := by kernel_rfl
  f170 := Tryz.func51.trans (congrArg some (by kernel_rfl))
  t0 := Tryz.underlying0
  a0 := Tryz.isAgg0
  z0 := Tryz.sizeOf0
  v0 := Tryz.zeroValue0
  t3 := Tryz.underlying3
  a3 := Tryz.isAgg3
  z3 := Tryz.sizeOf3
  v3 := Tryz.zeroValue3
  t37 := Tryz.underlying90
  a37 := Tryz.isAgg90
  z37 := Tryz.sizeOf90
  v37 := Tryz.zeroValue90
  t70 := Tryz.underlying89
  a70 := Tryz.isAgg89
  z70 := Tryz.sizeOf89
  v70 := Tryz.zeroValue89
  t72 := Tryz.underlying92
  a72 := Tryz.isAgg92
  z72 := Tryz.sizeOf92
  v72 := Tryz.zeroValue92 }
def Tryz.lays169_ren : Go.Shelf.Ren := ⟨fun | 169 => 52 | n => n, fun | 70 => 89 | 9 => 9 | 0 => 0 | 72 => 92 | 37 => 90 | 127 => 135 | 3 => 3 | 5 => 5 | n => n, fun | n => n⟩
theorem Tryz.lays169 : Go.Proofs.Lays.n169 Tryz.prog Tryz.lays169_ren := {
  mixed := by kernel_rfl
  f169 := Tryz.func52.trans (congrArg some (by kernel_rfl))
  t0 := Tryz.underlying0
  a0 := Tryz.isAgg0
  z0 := Tryz.sizeOf0
  v0 := Tryz.zeroValue0
  t3 := Tryz.underlying3
  a3 := Tryz.isAgg3
  z3 := Tryz.sizeOf3
  v3 := Tryz.zeroValue3
  t9 := Tryz.underlying9
  a9 := Tryz.isAgg9
  z9 := Tryz.sizeOf9
  v9 := Tryz.zeroValue9
  t37 := Tryz.underlying90
  a37 := Tryz.isAgg90
  z37 := Tryz.sizeOf90
  v37 := Tryz.zeroValue90
  t70 := Tryz.underlying89
  a70 := Tryz.isAgg89
  z70 := Tryz.sizeOf89
  v70 := Tryz.zeroValue89
  t72 := Tryz.underlying92
  a72 := Tryz.isAgg92
  z72 := Tryz.sizeOf92
  v72 := Tryz.zeroValue92
  t127 := Tryz.underlying135
  a127 := Tryz.isAgg135
  z127 := Tryz.sizeOf135
  v127 := Tryz.zeroValue135 }
theorem Tryz.Builder_Extra_169 : Builder.Extra Tryz.prog Tryz.lays169_ren := {
  sizeBuilder := by kernel_rfl
  liesBuilder := by kernel_rfl
  t5 := Tryz.underlying5
  a5 := Tryz.isAgg5
  z5 := Tryz.sizeOf5
  v5 := Tryz.zeroValue5
  infoByte := by kernel_rfl
  cellsByte := by kernel_rfl
  sizeByte := by kernel_rfl
  neB5 := by decide }
def Tryz.lays128_ren : Go.Shelf.Ren := ⟨fun | 128 => 143 | n => n, fun | 51 => 173 | 3 => 3 | 4 => 4 | 46 => 138 | 5 => 5 | 9 => 9 | n => n, fun | n => n⟩
def Tryz.lays125_ren : Go.Shelf.Ren := ⟨fun | 125 => 97 | 128 => 143 | 129 => 144 | n => n, fun | 46 => 138 | 3 => 3 | 51 => 173 | 53 => 175 | 4 => 4 | 5 => 5 | 9 => 9 | n => n, fun | n => n⟩
def Tryz.lays214_ren : Go.Shelf.Ren := ⟨fun | 214 => 172 | n => n, fun | 4 => 4 | 9 => 9 | n => n, fun | n => n⟩
def Tryz.lays121_ren : Go.Shelf.Ren := ⟨fun | 121 => 131 | 214 => 172 | n => n, fun | 4 => 4 | 9 => 9 | n => n, fun | n => n⟩
theorem Tryz.lays121 : Go.Proofs.Lays.n121 Tryz.prog Tryz.lays121_ren := {
  mixed := by kernel_rfl
  f121 := Tryz.func131.trans (congrArg some (by kernel_rfl))
  f214 := Tryz.func172.trans (congrArg some (by kernel_rfl))
  t4 := Tryz.underlying4
  a4 := Tryz.isAgg4
  z4 := Tryz.sizeOf4
  v4 := Tryz.zeroValue4
  t9 := Tryz.underlying9
  a9 := Tryz.isAgg9
  z9 := Tryz.sizeOf9
  v9 := Tryz.zeroValue9 }
open Go.RowKit in
theorem Tryz.strconv_FormatBool (b : Bool) (w : World) :
    Calls Tryz.prog 131 #[.bool b] w fun e w' => e = .returned (.string ⟨(Lib.formatBool b).toArray⟩) ∧ w' = w := Any.strconv_FormatBool Tryz.lays121 b w
open Go.RowKit in
theorem Tryz.Builder_Len_f (B b : Nat) (bs : List Value) (w : World) (h : Lib.IsBuilderF 92 5 B b bs w) :
    Calls Tryz.prog 51 #[.pointer (some ⟨b, 0, none⟩)] w fun e w' => e = .returned (.int .i64 bs.length) ∧ w' = w := Any.Builder_Len_f Tryz.lays170 B b bs w h
open Go.RowKit in
theorem Tryz.Builder_String_any_k (B b : Nat) (l : List UInt8) (w : World) (h : Lib.IsBuilderF 92 5 B b (Lib.byteCells l) w) (hBw : B ≤ w.heap.size) :
    Calls Tryz.prog 52 #[.pointer (some ⟨b, 0, none⟩)] w fun e w' => e = .returned (.string ⟨l.toArray⟩) ∧ (Lib.IsBuilderF 92 5 B b (Lib.byteCells l) w' ∧ Below B w w' ∧ Lib.OthersKept 5 (some b) w w') := Any.Builder_String_any_k Tryz.lays169 Tryz.Builder_Extra_169 B b l w h hBw
def Tryz.lays244_ren : Go.Shelf.Ren := ⟨fun | 244 => 189 | 247 => 202 | 287 => 215 | 321 => 222 | 322 => 223 | n => n, fun | 9 => 9 | 3 => 3 | 75 => 128 | 4 => 4 | 5 => 5 | 167 => 206 | 37 => 90 | 0 => 0 | 85 => 207 | 2 => 2 | 53 => 175 | 175 => 219 | 46 => 138 | 21 => 21 | 80 => 95 | n => n, fun | n => n⟩
def Tryz.lays172_ren : Go.Shelf.Ren := ⟨fun | 172 => 162 | 244 => 189 | 245 => 190 | 247 => 202 | 279 => 203 | 280 => 204 | 281 => 205 | 282 => 206 | 287 => 215 | 316 => 216 | 171 => 132 | 205 => 217 | 321 => 222 | 322 => 223 | 243 => 173 | 246 => 195 | 283 => 209 | 284 => 210 | 285 => 211 | 286 => 212 | 129 => 144 | 317 => 218 | 318 => 219 | 319 => 220 | 320 => 221 | 337 => 224 | 338 => 225 | n => n, fun | 9 => 9 | 3 => 3 | 75 => 128 | 76 => 131 | 4 => 4 | 5 => 5 | 167 => 206 | 37 => 90 | 0 => 0 | 85 => 207 | 2 => 2 | 168 => 209 | 53 => 175 | 175 => 219 | 46 => 138 | 210 => 222 | 127 => 135 | 145 => 230 | 143 => 228 | 21 => 21 | 171 => 213 | 173 => 215 | 212 => 225 | 51 => 173 | 20 => 20 | 213 => 226 | 232 => 231 | 233 => 232 | 80 => 95 | n => n, fun | 15 => 1 | 16 => 2 | 17 => 3 | 18 => 4 | 19 => 5 | n => n⟩
def Tryz.lays129_ren : Go.Shelf.Ren := ⟨fun | 129 => 144 | n => n, fun | 53 => 175 | 3 => 3 | 4 => 4 | 46 => 138 | 5 => 5 | 9 => 9 | n => n, fun | n => n⟩
def Tryz.lays317_ren : Go.Shelf.Ren := ⟨fun | 317 => 218 | n => n, fun | 3 => 3 | 46 => 138 | n => n, fun | n => n⟩
def Tryz.lays318_ren : Go.Shelf.Ren := ⟨fun | 318 => 219 | n => n, fun | 3 => 3 | 4 => 4 | n => n, fun | n => n⟩
def Tryz.lays283_ren : Go.Shelf.Ren := ⟨fun | 283 => 209 | n => n, fun | 3 => 3 | 9 => 9 | 4 => 4 | n => n, fun | n => n⟩
def Tryz.laysM284_ren : Go.Shelf.Ren := ⟨fun | 284 => 210 | 129 => 144 | 317 => 218 | 318 => 219 | n => n, fun | 53 => 175 | 3 => 3 | 212 => 225 | 0 => 0 | 4 => 4 | 46 => 138 | 5 => 5 | 9 => 9 | n => n, fun | 17 => 3 | n => n⟩
def Tryz.lays285_ren : Go.Shelf.Ren := ⟨fun | 285 => 211 | n => n, fun | 37 => 90 | 53 => 175 | 3 => 3 | 4 => 4 | 51 => 173 | 9 => 9 | 5 => 5 | 0 => 0 | n => n, fun | n => n⟩
def Tryz.laysM246_ren : Go.Shelf.Ren := ⟨fun | 246 => 195 | 283 => 209 | 284 => 210 | 285 => 211 | 286 => 212 | 129 => 144 | 317 => 218 | 318 => 219 | 319 => 220 | 320 => 221 | 337 => 224 | 338 => 225 | n => n, fun | 2 => 2 | 3 => 3 | 9 => 9 | 4 => 4 | 171 => 213 | 0 => 0 | 53 => 175 | 37 => 90 | 5 => 5 | 173 => 215 | 212 => 225 | 51 => 173 | 20 => 20 | 213 => 226 | 46 => 138 | 232 => 231 | 233 => 232 | n => n, fun | 17 => 3 | 18 => 4 | 19 => 5 | n => n⟩
def Tryz.lays246_ren : Go.Shelf.Ren := ⟨fun | 246 => 195 | 283 => 209 | 284 => 210 | 285 => 211 | 286 => 212 | 129 => 144 | 317 => 218 | 318 => 219 | 319 => 220 | 320 => 221 | 337 => 224 | 338 => 225 | n => n, fun | 2 => 2 | 3 => 3 | 9 => 9 | 4 => 4 | 171 => 213 | 0 => 0 | 53 => 175 | 37 => 90 | 5 => 5 | 173 => 215 | 212 => 225 | 51 => 173 | 20 => 20 | 213 => 226 | 46 => 138 | 232 => 231 | 233 => 232 | n => n, fun | 17 => 3 | 18 => 4 | 19 => 5 | n => n⟩
def Tryz.laysM243_ren : Go.Shelf.Ren := ⟨fun | 243 => 173 | 246 => 195 | 283 => 209 | 284 => 210 | 285 => 211 | 286 => 212 | 129 => 144 | 317 => 218 | 318 => 219 | 319 => 220 | 320 => 221 | 337 => 224 | 338 => 225 | n => n, fun | 3 => 3 | 9 => 9 | 2 => 2 | 4 => 4 | 171 => 213 | 0 => 0 | 53 => 175 | 37 => 90 | 5 => 5 | 173 => 215 | 212 => 225 | 51 => 173 | 20 => 20 | 213 => 226 | 46 => 138 | 232 => 231 | 233 => 232 | n => n, fun | 17 => 3 | 18 => 4 | 19 => 5 | n => n⟩
def Tryz.lays243_ren : Go.Shelf.Ren := ⟨fun | 243 => 173 | 246 => 195 | 283 => 209 | 284 => 210 | 285 => 211 | 286 => 212 | 129 => 144 | 317 => 218 | 318 => 219 | 319 => 220 | 320 => 221 | 337 => 224 | 338 => 225 | n => n, fun | 3 => 3 | 9 => 9 | 2 => 2 | 4 => 4 | 171 => 213 | 0 => 0 | 53 => 175 | 37 => 90 | 5 => 5 | 173 => 215 | 212 => 225 | 51 => 173 | 20 => 20 | 213 => 226 | 46 => 138 | 232 => 231 | 233 => 232 | n => n, fun | 17 => 3 | 18 => 4 | 19 => 5 | n => n⟩
def Tryz.laysM171_ren : Go.Shelf.Ren := ⟨fun | 171 => 132 | 243 => 173 | 246 => 195 | 283 => 209 | 284 => 210 | 285 => 211 | 286 => 212 | 129 => 144 | 317 => 218 | 318 => 219 | 319 => 220 | 320 => 221 | 337 => 224 | 338 => 225 | n => n, fun | 3 => 3 | 9 => 9 | 2 => 2 | 4 => 4 | 171 => 213 | 0 => 0 | 53 => 175 | 37 => 90 | 5 => 5 | 173 => 215 | 212 => 225 | 51 => 173 | 20 => 20 | 213 => 226 | 46 => 138 | 232 => 231 | 233 => 232 | n => n, fun | 17 => 3 | 18 => 4 | 19 => 5 | n => n⟩
theorem Tryz.laysM171 : Go.Proofs.LaysM.n171 Tryz.prog Tryz.laysM171_ren := {
  mixed := by kernel_rfl
  f129 := Tryz.func144.trans (congrArg some (by kernel_rfl))
  f171 := Tryz.func132.trans (congrArg some (by kernel_rfl))
  f243 := Tryz.func173.trans (congrArg some (by kernel_rfl))
  f246 := Tryz.func195.trans (congrArg some (by kernel_rfl))
  f283 := Tryz.func209.trans (congrArg some (by kernel_rfl))
  f284 := Tryz.func210.trans (congrArg some (by kernel_rfl))
  f285 := Tryz.func211.trans (congrArg some (by kernel_rfl))
  f286 := Tryz.func212.trans (congrArg some (by kernel_rfl))
  f317 := Tryz.func218.trans (congrArg some (by kernel_rfl))
  f318 := Tryz.func219.trans (congrArg some (by kernel_rfl))
  f319 := Tryz.func220.trans (congrArg some (by kernel_rfl))
  f320 := Tryz.func221.trans (congrArg some (by kernel_rfl))
  f337 := Tryz.func224.trans (congrArg some (by kernel_rfl))
  f338 := Tryz.func225.trans (congrArg some (by kernel_rfl))
  t0 := Tryz.underlying0
  a0 := Tryz.isAgg0
  z0 := Tryz.sizeOf0
  v0 := Tryz.zeroValue0
  t2 := Tryz.underlying2
  a2 := Tryz.isAgg2
  z2 := Tryz.sizeOf2
  v2 := Tryz.zeroValue2
  t3 := Tryz.underlying3
  a3 := Tryz.isAgg3
  z3 := Tryz.sizeOf3
  v3 := Tryz.zeroValue3
  t4 := Tryz.underlying4
  a4 := Tryz.isAgg4
  z4 := Tryz.sizeOf4
  v4 := Tryz.zeroValue4
  t5 := Tryz.underlying5
  a5 := Tryz.isAgg5
  z5 := Tryz.sizeOf5
  v5 := Tryz.zeroValue5
  t9 := Tryz.underlying9
  a9 := Tryz.isAgg9
  z9 := Tryz.sizeOf9
  v9 := Tryz.zeroValue9
  t20 := Tryz.underlying20
  a20 := Tryz.isAgg20
  z20 := Tryz.sizeOf20
  v20 := Tryz.zeroValue20
  t37 := Tryz.underlying90
  a37 := Tryz.isAgg90
  z37 := Tryz.sizeOf90
  v37 := Tryz.zeroValue90
  t46 := Tryz.underlying138
  a46 := Tryz.isAgg138
  z46 := Tryz.sizeOf138
  v46 := Tryz.zeroValue138
  t51 := Tryz.underlying173
  a51 := Tryz.isAgg173
  z51 := Tryz.sizeOf173
  v51 := Tryz.zeroValue173
  t53 := Tryz.underlying175
  a53 := Tryz.isAgg175
  z53 := Tryz.sizeOf175
  v53 := Tryz.zeroValue175
  t171 := Tryz.underlying213
  a171 := Tryz.isAgg213
  z171 := Tryz.sizeOf213
  v171 := Tryz.zeroValue213
  t173 := Tryz.underlying215
  a173 := Tryz.isAgg215
  z173 := Tryz.sizeOf215
  v173 := Tryz.zeroValue215
  t212 := Tryz.underlying225
  a212 := Tryz.isAgg225
  z212 := Tryz.sizeOf225
  v212 := Tryz.zeroValue225
  t213 := Tryz.underlying226
  a213 := Tryz.isAgg226
  z213 := Tryz.sizeOf226
  t232 := Tryz.underlying231
  a232 := Tryz.isAgg231
  z232 := Tryz.sizeOf231
  v232 := Tryz.zeroValue231
  t233 := Tryz.underlying232
  a233 := Tryz.isAgg232
  z233 := Tryz.sizeOf232
  v233 := Tryz.zeroValue232
  g17 := by kernel_rfl
  g18 := by kernel_rfl
  g19 := by kernel_rfl
  i0 := by kernel_rfl
  i2 := by kernel_rfl
  i3 := by kernel_rfl
  i4 := by kernel_rfl
  i5 := by kernel_rfl
  i9 := by kernel_rfl
  i20 := by kernel_rfl
  i37 := by kernel_rfl
  i46 := by kernel_rfl
  i51 := by kernel_rfl
  i53 := by kernel_rfl
  i171 := by kernel_rfl
  i173 := by kernel_rfl
  i212 := by kernel_rfl
  i232 := by kernel_rfl
  i233 := by kernel_rfl
  m17 := by kernel_rfl
  m18 := by kernel_rfl
  m19 := by kernel_rfl }
open Go.RowKit Go.Sort Go.Lib in
theorem Tryz.strconv_Itoa (n : Int) (h0 : -9223372036854775808 ≤ n) (h1 : n ≤ 9223372036854775807) (w : World) (htab : Lib.TabIs Tryz.prog w "internal/strconv.uint64pow10" .u64 Lib.pow10Tab) :
    Calls Tryz.prog 132 #[.int .i64 n] w fun e w' => e = .returned (.string ⟨(Lib.itoa n).toArray⟩) ∧ ∃ k os, w' = grow (w.drewN k) os := Any.strconv_Itoa Tryz.laysM171 n h0 h1 w htab
def Tryz.lays171_ren : Go.Shelf.Ren := ⟨fun | 171 => 132 | 243 => 173 | 246 => 195 | 283 => 209 | 284 => 210 | 285 => 211 | 286 => 212 | 129 => 144 | 317 => 218 | 318 => 219 | 319 => 220 | 320 => 221 | 337 => 224 | 338 => 225 | n => n, fun | 3 => 3 | 9 => 9 | 2 => 2 | 4 => 4 | 171 => 213 | 0 => 0 | 53 => 175 | 37 => 90 | 5 => 5 | 173 => 215 | 212 => 225 | 51 => 173 | 20 => 20 | 213 => 226 | 46 => 138 | 232 => 231 | 233 => 232 | n => n, fun | 17 => 3 | 18 => 4 | 19 => 5 | n => n⟩
def Tryz.lays247_ren : Go.Shelf.Ren := ⟨fun | 247 => 202 | 287 => 215 | 321 => 222 | 322 => 223 | n => n, fun | 9 => 9 | 3 => 3 | 2 => 2 | 75 => 128 | 4 => 4 | 167 => 206 | 5 => 5 | 53 => 175 | 175 => 219 | 46 => 138 | 37 => 90 | 0 => 0 | 21 => 21 | 80 => 95 | n => n, fun | n => n⟩
def Tryz.laysM316_ren : Go.Shelf.Ren := ⟨fun | 316 => 216 | n => n, fun | 9 => 9 | 3 => 3 | 4 => 4 | 37 => 90 | 0 => 0 | 127 => 135 | 5 => 5 | n => n, fun | n => n⟩
def Tryz.laysM279_ren : Go.Shelf.Ren := ⟨fun | 279 => 203 | 316 => 216 | n => n, fun | 9 => 9 | 168 => 209 | 75 => 128 | 210 => 222 | 3 => 3 | 4 => 4 | 37 => 90 | 0 => 0 | 127 => 135 | 80 => 95 | 5 => 5 | n => n, fun | 15 => 1 | n => n⟩
def Tryz.laysC245_ren : Go.Shelf.Ren := ⟨fun | 245 => 190 | 279 => 203 | 280 => 204 | 281 => 205 | 282 => 206 | 316 => 216 | 171 => 132 | 205 => 217 | 243 => 173 | 246 => 195 | 283 => 209 | 284 => 210 | 285 => 211 | 286 => 212 | 129 => 144 | 317 => 218 | 318 => 219 | 319 => 220 | 320 => 221 | 337 => 224 | 338 => 225 | n => n, fun | 9 => 9 | 3 => 3 | 75 => 128 | 167 => 206 | 4 => 4 | 168 => 209 | 210 => 222 | 37 => 90 | 0 => 0 | 127 => 135 | 145 => 230 | 143 => 228 | 2 => 2 | 171 => 213 | 53 => 175 | 5 => 5 | 173 => 215 | 212 => 225 | 51 => 173 | 20 => 20 | 213 => 226 | 46 => 138 | 232 => 231 | 233 => 232 | 80 => 95 | n => n, fun | 15 => 1 | 16 => 2 | 17 => 3 | 18 => 4 | 19 => 5 | n => n⟩
def Tryz.lays321_ren : Go.Shelf.Ren := ⟨fun | 321 => 222 | n => n, fun | 5 => 5 | n => n, fun | n => n⟩
def Tryz.lays287_ren : Go.Shelf.Ren := ⟨fun | 287 => 215 | 321 => 222 | 322 => 223 | n => n, fun | 9 => 9 | 3 => 3 | 53 => 175 | 75 => 128 | 4 => 4 | 167 => 206 | 5 => 5 | 46 => 138 | 37 => 90 | 0 => 0 | 21 => 21 | 80 => 95 | n => n, fun | n => n⟩
def Tryz.laysC247_ren : Go.Shelf.Ren := ⟨fun | 247 => 202 | 287 => 215 | 321 => 222 | 322 => 223 | n => n, fun | 9 => 9 | 3 => 3 | 2 => 2 | 75 => 128 | 4 => 4 | 167 => 206 | 5 => 5 | 53 => 175 | 175 => 219 | 46 => 138 | 37 => 90 | 0 => 0 | 21 => 21 | 80 => 95 | n => n, fun | n => n⟩
def Tryz.laysC244_ren : Go.Shelf.Ren := ⟨fun | 244 => 189 | 247 => 202 | 287 => 215 | 321 => 222 | 322 => 223 | n => n, fun | 9 => 9 | 3 => 3 | 75 => 128 | 4 => 4 | 5 => 5 | 167 => 206 | 37 => 90 | 0 => 0 | 85 => 207 | 2 => 2 | 53 => 175 | 175 => 219 | 46 => 138 | 21 => 21 | 80 => 95 | n => n, fun | n => n⟩
def Tryz.laysM280_ren : Go.Shelf.Ren := ⟨fun | 280 => 204 | 316 => 216 | n => n, fun | 9 => 9 | 168 => 209 | 75 => 128 | 210 => 222 | 3 => 3 | 4 => 4 | 37 => 90 | 0 => 0 | 127 => 135 | 80 => 95 | 5 => 5 | n => n, fun | 16 => 2 | n => n⟩
def Tryz.laysC172_ren : Go.Shelf.Ren := ⟨fun | 172 => 162 | 244 => 189 | 245 => 190 | 247 => 202 | 279 => 203 | 280 => 204 | 281 => 205 | 282 => 206 | 287 => 215 | 316 => 216 | 171 => 132 | 205 => 217 | 321 => 222 | 322 => 223 | 243 => 173 | 246 => 195 | 283 => 209 | 284 => 210 | 285 => 211 | 286 => 212 | 129 => 144 | 317 => 218 | 318 => 219 | 319 => 220 | 320 => 221 | 337 => 224 | 338 => 225 | n => n, fun | 9 => 9 | 3 => 3 | 75 => 128 | 76 => 131 | 4 => 4 | 5 => 5 | 167 => 206 | 37 => 90 | 0 => 0 | 85 => 207 | 2 => 2 | 168 => 209 | 53 => 175 | 175 => 219 | 46 => 138 | 210 => 222 | 127 => 135 | 145 => 230 | 143 => 228 | 21 => 21 | 171 => 213 | 173 => 215 | 212 => 225 | 51 => 173 | 20 => 20 | 213 => 226 | 232 => 231 | 233 => 232 | 80 => 95 | n => n, fun | 15 => 1 | 16 => 2 | 17 => 3 | 18 => 4 | 19 => 5 | n => n⟩
theorem Tryz.laysC172 : Go.Proofs.LaysC.n172 Tryz.prog Tryz.laysC172_ren := {
  mixed := by kernel_rfl
  f129 := Tryz.func144.trans (congrArg some (by kernel_rfl))
  f171 := Tryz.func132.trans (congrArg some (by kernel_rfl))
  f172 := Tryz.func162.trans (congrArg some (by kernel_rfl))
  f205 := Tryz.func217.trans (congrArg some (by kernel_rfl))
  f243 := Tryz.func173.trans (congrArg some (by kernel_rfl))
  f244 := Tryz.func189.trans (congrArg some (by kernel_rfl))
  f245 := Tryz.func190.trans (congrArg some (by kernel_rfl))
  f246 := Tryz.func195.trans (congrArg some (by kernel_rfl))
  f247 := Tryz.func202.trans (congrArg some (by kernel_rfl))
  f279 := Tryz.func203.trans (congrArg some (by kernel_rfl))
  f280 := Tryz.func204.trans (congrArg some (by kernel_rfl))
  f281 := Tryz.func205.trans (congrArg some (by kernel_rfl))
  f282 := Tryz.func206.trans (congrArg some (by kernel_rfl))
  f283 := Tryz.func209.trans (congrArg some (by kernel_rfl))
  f284 := Tryz.func210.trans (congrArg some (by kernel_rfl))
  f285 := Tryz.func211.trans (congrArg some (by kernel_rfl))
  f286 := Tryz.func212.trans (congrArg some (by kernel_rfl))
  f287 := Tryz.func215.trans (congrArg some (by kernel_rfl))
  f316 := Tryz.func216.trans (congrArg some (by kernel_rfl))
  f317 := Tryz.func218.trans (congrArg some (by kernel_rfl))
  f318 := Tryz.func219.trans (congrArg some (by kernel_rfl))
  f319 := Tryz.func220.trans (congrArg some (by kernel_rfl))
  f320 := Tryz.func221.trans (congrArg some (by kernel_rfl))
  f321 := Tryz.func222.trans (congrArg some (by kernel_rfl))
  f322 := Tryz.func223.trans (congrArg some (by kernel_rfl))
  f337 := Tryz.func224.trans (congrArg some (by kernel_rfl))
  f338 := Tryz.func225.trans (congrArg some (by kernel_rfl))
  t0 := Tryz.underlying0
  a0 := Tryz.isAgg0
  z0 := Tryz.sizeOf0
  v0 := Tryz.zeroValue0
  t2 := Tryz.underlying2
  a2 := Tryz.isAgg2
  z2 := Tryz.sizeOf2
  v2 := Tryz.zeroValue2
  t3 := Tryz.underlying3
  a3 := Tryz.isAgg3
  z3 := Tryz.sizeOf3
  v3 := Tryz.zeroValue3
  t4 := Tryz.underlying4
  a4 := Tryz.isAgg4
  z4 := Tryz.sizeOf4
  v4 := Tryz.zeroValue4
  t5 := Tryz.underlying5
  a5 := Tryz.isAgg5
  z5 := Tryz.sizeOf5
  v5 := Tryz.zeroValue5
  t9 := Tryz.underlying9
  a9 := Tryz.isAgg9
  z9 := Tryz.sizeOf9
  v9 := Tryz.zeroValue9
  t20 := Tryz.underlying20
  a20 := Tryz.isAgg20
  z20 := Tryz.sizeOf20
  v20 := Tryz.zeroValue20
  t21 := Tryz.underlying21
  a21 := Tryz.isAgg21
  z21 := Tryz.sizeOf21
  v21 := Tryz.zeroValue21
  t37 := Tryz.underlying90
  a37 := Tryz.isAgg90
  z37 := Tryz.sizeOf90
  v37 := Tryz.zeroValue90
  t46 := Tryz.underlying138
  a46 := Tryz.isAgg138
  z46 := Tryz.sizeOf138
  v46 := Tryz.zeroValue138
  t51 := Tryz.underlying173
  a51 := Tryz.isAgg173
  z51 := Tryz.sizeOf173
  v51 := Tryz.zeroValue173
  t53 := Tryz.underlying175
  a53 := Tryz.isAgg175
  z53 := Tryz.sizeOf175
  v53 := Tryz.zeroValue175
  t75 := Tryz.underlying128
  a75 := Tryz.isAgg128
  z75 := Tryz.sizeOf128
  v75 := Tryz.zeroValue128
  t76 := Tryz.underlying131
  a76 := Tryz.isAgg131
  z76 := Tryz.sizeOf131
  v76 := Tryz.zeroValue131
  t85 := Tryz.underlying207
  a85 := Tryz.isAgg207
  z85 := Tryz.sizeOf207
  v85 := Tryz.zeroValue207
  t127 := Tryz.underlying135
  a127 := Tryz.isAgg135
  z127 := Tryz.sizeOf135
  v127 := Tryz.zeroValue135
  t143 := Tryz.underlying228
  a143 := Tryz.isAgg228
  z143 := Tryz.sizeOf228
  v143 := Tryz.zeroValue228
  t145 := Tryz.underlying230
  a145 := Tryz.isAgg230
  z145 := Tryz.sizeOf230
  v145 := Tryz.zeroValue230
  t167 := Tryz.underlying206
  a167 := Tryz.isAgg206
  z167 := Tryz.sizeOf206
  v167 := Tryz.zeroValue206
  t168 := Tryz.underlying209
  a168 := Tryz.isAgg209
  z168 := Tryz.sizeOf209
  v168 := Tryz.zeroValue209
  t171 := Tryz.underlying213
  a171 := Tryz.isAgg213
  z171 := Tryz.sizeOf213
  v171 := Tryz.zeroValue213
  t173 := Tryz.underlying215
  a173 := Tryz.isAgg215
  z173 := Tryz.sizeOf215
  v173 := Tryz.zeroValue215
  t175 := Tryz.underlying219
  a175 := Tryz.isAgg219
  z175 := Tryz.sizeOf219
  v175 := Tryz.zeroValue219
  t210 := Tryz.underlying222
  a210 := Tryz.isAgg222
  z210 := Tryz.sizeOf222
  v210 := Tryz.zeroValue222
  t212 := Tryz.underlying225
  a212 := Tryz.isAgg225
  z212 := Tryz.sizeOf225
  v212 := Tryz.zeroValue225
  t213 := Tryz.underlying226
  a213 := Tryz.isAgg226
  z213 := Tryz.sizeOf226
  t232 := Tryz.underlying231
  a232 := Tryz.isAgg231
  z232 := Tryz.sizeOf231
  v232 := Tryz.zeroValue231
  t233 := Tryz.underlying232
  a233 := Tryz.isAgg232
  z233 := Tryz.sizeOf232
  v233 := Tryz.zeroValue232
  g15 := by kernel_rfl
  g16 := by kernel_rfl
  g17 := by kernel_rfl
  g18 := by kernel_rfl
  g19 := by kernel_rfl
  t80 := Tryz.underlying95
  a80 := Tryz.isAgg95
  z80 := Tryz.sizeOf95
  v80 := Tryz.zeroValue95
  i0 := by kernel_rfl
  i2 := by kernel_rfl
  i3 := by kernel_rfl
  i4 := by kernel_rfl
  i5 := by kernel_rfl
  i9 := by kernel_rfl
  i20 := by kernel_rfl
  i21 := by kernel_rfl
  i37 := by kernel_rfl
  i46 := by kernel_rfl
  i51 := by kernel_rfl
  i53 := by kernel_rfl
  i75 := by kernel_rfl
  i76 := by kernel_rfl
  i80 := by kernel_rfl
  i85 := by kernel_rfl
  i127 := by kernel_rfl
  i143 := by kernel_rfl
  i145 := by kernel_rfl
  i167 := by kernel_rfl
  i168 := by kernel_rfl
  i171 := by kernel_rfl
  i173 := by kernel_rfl
  i175 := by kernel_rfl
  i210 := by kernel_rfl
  i212 := by kernel_rfl
  i232 := by kernel_rfl
  i233 := by kernel_rfl
  m15 := by kernel_rfl
  m16 := by kernel_rfl
  m17 := by kernel_rfl
  m18 := by kernel_rfl
  m19 := by kernel_rfl
  c0 := by kernel_rfl
  c2 := by kernel_rfl
  c3 := by kernel_rfl
  c4 := by kernel_rfl
  c5 := by kernel_rfl
  c9 := by kernel_rfl
  c20 := by kernel_rfl
  c21 := by kernel_rfl
  c37 := by kernel_rfl
  c46 := by kernel_rfl
  c51 := by kernel_rfl
  c53 := by kernel_rfl
  c75 := by kernel_rfl
  c76 := by kernel_rfl
  c80 := by kernel_rfl
  c85 := by kernel_rfl
  c127 := by kernel_rfl
  c143 := by kernel_rfl
  c145 := by kernel_rfl
  c167 := by kernel_rfl
  c168 := by kernel_rfl
  c171 := by kernel_rfl
  c173 := by kernel_rfl
  c175 := by kernel_rfl
  c210 := by kernel_rfl
  c212 := by kernel_rfl
  c213 := by kernel_rfl
  c232 := by kernel_rfl
  c233 := by kernel_rfl }
open Go.RowKit in
theorem Tryz.strconv_Atoi_ok (s : ByteArray) (hmax : s.size ≤ 9223372036854775806) (v : Int) (h : Lib.atoiAll s.data.toList = .ok v) (w : World) :
    Calls Tryz.prog 162 #[.string s] w fun e w' => e = .returned (.tuple #[.int .i64 v, .nilIface]) ∧ (w' = w ∨ ∃ t, w' = Lib.bytesWorld w 5 t) := Any.strconv_Atoi_ok Tryz.laysC172 s hmax v h w
def Tryz.lays217_ren : Go.Shelf.Ren := ⟨fun | 217 => 198 | 266 => 213 | n => n, fun | 9 => 9 | 5 => 5 | 3 => 3 | n => n, fun | n => n⟩
def Tryz.lays224_ren : Go.Shelf.Ren := ⟨fun | 224 => 200 | n => n, fun | 3 => 3 | n => n, fun | n => n⟩
def Tryz.lays314_ren : Go.Shelf.Ren := ⟨fun | 314 => 214 | n => n, fun | 9 => 9 | 51 => 173 | 3 => 3 | 4 => 4 | 5 => 5 | 46 => 138 | n => n, fun | n => n⟩
def Tryz.lays267_ren : Go.Shelf.Ren := ⟨fun | 267 => 201 | 314 => 214 | n => n, fun | 9 => 9 | 3 => 3 | 146 => 217 | 51 => 173 | 4 => 4 | 5 => 5 | 46 => 138 | n => n, fun | n => n⟩
def Tryz.lays219_ren : Go.Shelf.Ren := ⟨fun | 219 => 188 | 217 => 198 | 225 => 199 | 224 => 200 | 267 => 201 | 266 => 213 | 314 => 214 | n => n, fun | 9 => 9 | 3 => 3 | 4 => 4 | 5 => 5 | 46 => 138 | 146 => 217 | 51 => 173 | n => n, fun | 1 => 0 | n => n⟩
def Tryz.lays143_ren : Go.Shelf.Ren := ⟨fun | 143 => 157 | 219 => 188 | 217 => 198 | 225 => 199 | 224 => 200 | 267 => 201 | 266 => 213 | 314 => 214 | n => n, fun | 9 => 9 | 3 => 3 | 4 => 4 | 5 => 5 | 46 => 138 | 146 => 217 | 51 => 173 | n => n, fun | 1 => 0 | n => n⟩
def Tryz.laysM219_ren : Go.Shelf.Ren := ⟨fun | 219 => 188 | 217 => 198 | 225 => 199 | 224 => 200 | 267 => 201 | 266 => 213 | 314 => 214 | n => n, fun | 9 => 9 | 3 => 3 | 4 => 4 | 5 => 5 | 46 => 138 | 146 => 217 | 51 => 173 | n => n, fun | 1 => 0 | n => n⟩
def Tryz.laysM143_ren : Go.Shelf.Ren := ⟨fun | 143 => 157 | 219 => 188 | 217 => 198 | 225 => 199 | 224 => 200 | 267 => 201 | 266 => 213 | 314 => 214 | n => n, fun | 9 => 9 | 3 => 3 | 4 => 4 | 5 => 5 | 46 => 138 | 146 => 217 | 51 => 173 | n => n, fun | 1 => 0 | n => n⟩
def Tryz.lays190_ren : Go.Shelf.Ren := ⟨fun | 190 => 54 | 125 => 97 | 258 => 96 | 128 => 143 | 129 => 144 | 302 => 134 | 303 => 135 | 304 => 136 | 305 => 137 | 306 => 138 | 307 => 139 | 308 => 140 | 309 => 141 | 310 => 142 | 333 => 176 | 329 => 177 | 330 => 178 | 334 => 179 | 335 => 180 | 336 => 181 | 344 => 196 | n => n, fun | 31 => 46 | 9 => 9 | 3 => 3 | 46 => 138 | 0 => 0 | 51 => 173 | 53 => 175 | 4 => 4 | 183 => 165 | 182 => 164 | 131 => 170 | 5 => 5 | 218 => 189 | 222 => 79 | 228 => 202 | 229 => 37 | n => n, fun | n => n⟩
theorem Tryz.lays190 : Go.Proofs.Lays.n190 Tryz.prog Tryz.lays190_ren := {
  mixed := by kernel_rfl
  f125 := Tryz.func97.trans (congrArg some (by kernel_rfl))
  f128 := Tryz.func143.trans (congrArg some (by kernel_rfl))
  f129 := Tryz.func144.trans (congrArg some (by kernel_rfl))
  f190 := Tryz.func54.trans (congrArg some (by kernel_rfl))
  f258 := Tryz.func96.trans (congrArg some (by kernel_rfl))
  f302 := Tryz.func134.trans (congrArg some (by kernel_rfl))
  f303 := Tryz.func135.trans (congrArg some (by kernel_rfl))
  f304 := Tryz.func136.trans (congrArg some (by kernel_rfl))
  f305 := Tryz.func137.trans (congrArg some (by kernel_rfl))
  f306 := Tryz.func138.trans (congrArg some (by kernel_rfl))
  f307 := Tryz.func139.trans (congrArg some (by kernel_rfl))
  f308 := Tryz.func140.trans (congrArg some (by kernel_rfl))
  f309 := Tryz.func141.trans (congrArg some (by kernel_rfl))
  f310 := Tryz.func142.trans (congrArg some (by kernel_rfl))
  f329 := Tryz.func177.trans (congrArg some (by kernel_rfl))
  f330 := Tryz.func178.trans (congrArg some (by kernel_rfl))
  f333 := Tryz.func176.trans (congrArg some (by kernel_rfl))
  f334 := Tryz.func179.trans (congrArg some (by kernel_rfl))
  f335 := Tryz.func180.trans (congrArg some (by kernel_rfl))
  f336 := Tryz.func181.trans (congrArg some (by kernel_rfl))
  f344 := Tryz.func196.trans (congrArg some (by kernel_rfl))
  t0 := Tryz.underlying0
  a0 := Tryz.isAgg0
  z0 := Tryz.sizeOf0
  v0 := Tryz.zeroValue0
  t3 := Tryz.underlying3
  a3 := Tryz.isAgg3
  z3 := Tryz.sizeOf3
  v3 := Tryz.zeroValue3
  t4 := Tryz.underlying4
  a4 := Tryz.isAgg4
  z4 := Tryz.sizeOf4
  v4 := Tryz.zeroValue4
  t5 := Tryz.underlying5
  a5 := Tryz.isAgg5
  z5 := Tryz.sizeOf5
  v5 := Tryz.zeroValue5
  t9 := Tryz.underlying9
  a9 := Tryz.isAgg9
  z9 := Tryz.sizeOf9
  v9 := Tryz.zeroValue9
  t31 := Tryz.underlying46
  a31 := Tryz.isAgg46
  z31 := Tryz.sizeOf46
  v31 := Tryz.zeroValue46
  t46 := Tryz.underlying138
  a46 := Tryz.isAgg138
  z46 := Tryz.sizeOf138
  v46 := Tryz.zeroValue138
  t51 := Tryz.underlying173
  a51 := Tryz.isAgg173
  z51 := Tryz.sizeOf173
  v51 := Tryz.zeroValue173
  t53 := Tryz.underlying175
  a53 := Tryz.isAgg175
  z53 := Tryz.sizeOf175
  v53 := Tryz.zeroValue175
  t131 := Tryz.underlying170
  a131 := Tryz.isAgg170
  z131 := Tryz.sizeOf170
  v131 := Tryz.zeroValue170
  t182 := Tryz.underlying164
  a182 := Tryz.isAgg164
  z182 := Tryz.sizeOf164
  v182 := Tryz.zeroValue164
  t183 := Tryz.underlying165
  a183 := Tryz.isAgg165
  z183 := Tryz.sizeOf165
  v183 := Tryz.zeroValue165
  t218 := Tryz.underlying189
  a218 := Tryz.isAgg189
  z218 := Tryz.sizeOf189
  v218 := Tryz.zeroValue189
  t222 := Tryz.underlying79
  a222 := Tryz.isAgg79
  z222 := Tryz.sizeOf79
  v222 := Tryz.zeroValue79
  t228 := Tryz.underlying202
  a228 := Tryz.isAgg202
  z228 := Tryz.sizeOf202
  v228 := Tryz.zeroValue202
  t229 := Tryz.underlying37
  a229 := Tryz.isAgg37
  z229 := Tryz.sizeOf37
  v229 := Tryz.zeroValue37 }
open Go.Sort Go.RowKit in
theorem Tryz.slices_Sort_string (blk off cap : Nat) (ss : List (List UInt8)) (w : World) (hH : Holds encStr w blk off ss.toArray) (hblk : blk < w.heap.size) (hsz : ss.length < 4611686018427387904) :
    Calls Tryz.prog 54 #[.slice (some ⟨blk, off, none⟩) ss.length cap] w fun e w' =>
      e = .returned (.tuple #[]) ∧ ∃ n os, w' = grow (putRow encStr (Sort.ahead w n) blk off (ss.mergeSort fun x y => decide (x ≤ y)).toArray) os := Any.slices_Sort_string Tryz.lays190 blk off cap ss w hH hblk hsz
def Tryz.lays206_ren : Go.Shelf.Ren := ⟨fun | 206 => 207 | n => n, fun | 9 => 9 | 4 => 4 | 3 => 3 | n => n, fun | n => n⟩
def Tryz.lays99_ren : Go.Shelf.Ren := ⟨fun | 99 => 191 | 206 => 207 | n => n, fun | 9 => 9 | 4 => 4 | 3 => 3 | n => n, fun | n => n⟩
theorem Tryz.lays99 : Go.Proofs.Lays.n99 Tryz.prog Tryz.lays99_ren := {
  mixed := by kernel_rfl
  f99 := Tryz.func191.trans (congrArg some (by kernel_rfl))
  f206 := Tryz.func207.trans (congrArg some (by kernel_rfl))
  t3 := Tryz.underlying3
  a3 := Tryz.isAgg3
  z3 := Tryz.sizeOf3
  v3 := Tryz.zeroValue3
  t4 := Tryz.underlying4
  a4 := Tryz.isAgg4
  z4 := Tryz.sizeOf4
  v4 := Tryz.zeroValue4
  t9 := Tryz.underlying9
  a9 := Tryz.isAgg9
  z9 := Tryz.sizeOf9
  v9 := Tryz.zeroValue9 }
open Go.RowKit Go.Lib in
theorem Tryz.strings_HasPrefix (s p : ByteArray) (w : World) :
    Calls Tryz.prog 191 #[.string s, .string p] w fun e w' => e = .returned (.bool (Lib.hasPrefix s.data.toList p.data.toList)) ∧ w' = w := Any.strings_HasPrefix Tryz.lays99 s p w
def Tryz.lays109_ren : Go.Shelf.Ren := ⟨fun | 109 => 71 | n => n, fun | 31 => 46 | 9 => 9 | 3 => 3 | 0 => 0 | 4 => 4 | n => n, fun | n => n⟩
theorem Tryz.lays109 : Go.Proofs.Lays.n109 Tryz.prog Tryz.lays109_ren := {
  mixed := by kernel_rfl
  f109 := Tryz.func71.trans (congrArg some (by kernel_rfl))
  t0 := Tryz.underlying0
  a0 := Tryz.isAgg0
  z0 := Tryz.sizeOf0
  v0 := Tryz.zeroValue0
  t3 := Tryz.underlying3
  a3 := Tryz.isAgg3
  z3 := Tryz.sizeOf3
  v3 := Tryz.zeroValue3
  t4 := Tryz.underlying4
  a4 := Tryz.isAgg4
  z4 := Tryz.sizeOf4
  v4 := Tryz.zeroValue4
  t9 := Tryz.underlying9
  a9 := Tryz.isAgg9
  z9 := Tryz.sizeOf9
  v9 := Tryz.zeroValue9
  t31 := Tryz.underlying46
  a31 := Tryz.isAgg46
  z31 := Tryz.sizeOf46
  v31 := Tryz.zeroValue46 }
open Go.Lib in
theorem Tryz.slices_Index_string (b off n c : Nat) (zs : List ByteArray) (x : ByteArray) (w : World) (hz : n ≤ zs.length) (hbig : n ≤ 9223372036854775807) (hc : ∀ j, j < zs.length → w.cell? ⟨b, off + j, none⟩ = some (.string (zs.getD j ByteArray.empty))) :
    Calls Tryz.prog 71 #[.slice (some ⟨b, off, none⟩) n c, .string x] w fun e w' => e = .returned (.int .i64 (Lib.idxOfS (zs.take n) x)) ∧ w' = w := Any.slices_Index_string Tryz.lays109 b off n c zs x w hz hbig hc
open Go.Lib in
theorem Tryz.slices_Index_string_empty (a : Option Addr) (c : Nat) (x : ByteArray) (w : World) :
    Calls Tryz.prog 71 #[.slice a 0 c, .string x] w fun e w' => e = .returned (.int .i64 (Lib.idxOfS [] x)) ∧ w' = w := Any.slices_Index_string_empty Tryz.lays109 a c x w
def Tryz.lays110_ren : Go.Shelf.Ren := ⟨fun | 110 => 32 | 109 => 71 | n => n, fun | 31 => 46 | 9 => 9 | 4 => 4 | 3 => 3 | 0 => 0 | n => n, fun | n => n⟩
def Tryz.lays193_ren : Go.Shelf.Ren := ⟨fun | 193 => 22 | n => n, fun | 31 => 46 | 9 => 9 | 4 => 4 | 3 => 3 | 0 => 0 | n => n, fun | n => n⟩
def Tryz.laysNm216_ren : Go.Shelf.Ren := ⟨fun | 16 => 169 | n => n, fun | 24 => 46 | 9 => 9 | 4 => 4 | n => n, fun | n => n⟩
theorem Tryz.laysNm216 : Go.Proofs.Lays2.n16 Tryz.prog Tryz.laysNm216_ren := {
  mixed := by kernel_rfl
  f16 := Tryz.func169.trans (congrArg some (by kernel_rfl))
  t4 := Tryz.underlying4
  a4 := Tryz.isAgg4
  z4 := Tryz.sizeOf4
  v4 := Tryz.zeroValue4
  t9 := Tryz.underlying9
  a9 := Tryz.isAgg9
  z9 := Tryz.sizeOf9
  v9 := Tryz.zeroValue9
  t24 := Tryz.underlying46
  a24 := Tryz.isAgg46
  z24 := Tryz.sizeOf46
  v24 := Tryz.zeroValue46
  i9 := by kernel_rfl }
open Go.RowKit Go.Lib in
theorem Tryz.slices_Clone_string (b off n c : Nat) (zs : List ByteArray) (w : World) (hz : n ≤ zs.length) (hbig : n * 16 ≤ 140737488355328) (hc : ∀ j, j < zs.length → w.cell? ⟨b, off + j, none⟩ = some (.string (zs.getD j ByteArray.empty))) :
    Calls Tryz.prog 169 #[.slice (some ⟨b, off, none⟩) n c] w fun e w' => ∃ v', e = .returned v' ∧ w'.ownsRow w.heap.size 9 1 v' n ((zs.take n).map (Value.string)) ∧ v' ≠ .slice none 0 0 ∧ Below w.heap.size w w' := Any.slices_Clone_string Tryz.laysNm216 b off n c zs w hz hbig hc
open Go.RowKit Go.Lib in
theorem Tryz.slices_Clone_string_nil (n c : Nat) (w : World) :
    Calls Tryz.prog 169 #[.slice none n c] w fun e w' => e = .returned (.slice none 0 0) ∧ w' = w := Any.slices_Clone_string_nil Tryz.laysNm216 n c w
open Go.RowKit Go.Lib in
theorem Tryz.slices_Clone_string_zero (a : Addr) (c : Nat) (w : World) :
    Calls Tryz.prog 169 #[.slice (some a) 0 c] w fun e w' => ∃ v', e = .returned v' ∧ w'.ownsRow w.heap.size 9 1 v' 0 [] ∧ v' ≠ .slice none 0 0 ∧ Below w.heap.size w w' := Any.slices_Clone_string_zero Tryz.laysNm216 a c w
def Tryz.lays194_ren : Go.Shelf.Ren := ⟨fun | 194 => 55 | n => n, fun | 31 => 46 | 9 => 9 | 3 => 3 | 4 => 4 | 0 => 0 | n => n, fun | n => n⟩
theorem Tryz.lays194 : Go.Proofs.Lays.n194 Tryz.prog Tryz.lays194_ren := {
  mixed := by kernel_rfl
  f194 := Tryz.func55.trans (congrArg some (by kernel_rfl))
  t0 := Tryz.underlying0
  a0 := Tryz.isAgg0
  z0 := Tryz.sizeOf0
  v0 := Tryz.zeroValue0
  t3 := Tryz.underlying3
  a3 := Tryz.isAgg3
  z3 := Tryz.sizeOf3
  v3 := Tryz.zeroValue3
  t4 := Tryz.underlying4
  a4 := Tryz.isAgg4
  z4 := Tryz.sizeOf4
  v4 := Tryz.zeroValue4
  t9 := Tryz.underlying9
  a9 := Tryz.isAgg9
  z9 := Tryz.sizeOf9
  v9 := Tryz.zeroValue9
  t31 := Tryz.underlying46
  a31 := Tryz.isAgg46
  z31 := Tryz.sizeOf46
  v31 := Tryz.zeroValue46 }
open Go.RowKit Go.Lib Go.Sort in
theorem Tryz.slices_Compact_string (blk off cap : Nat) (zs : List (List UInt8)) (w : World) (hH : Holds encStr w blk off zs.toArray) (hsz : zs.length ≤ 9223372036854775807) (hcap : zs.length ≤ cap) :
    Calls Tryz.prog 55 #[.slice (some ⟨blk, off, none⟩) zs.length cap] w fun e w' => e = .returned (.slice (some ⟨blk, off, none⟩) (Lib.compact zs).length cap) ∧ ∃ q, w' = putRow encStr (Sort.ahead w q) blk off (Lib.compact zs ++ List.replicate (zs.length - (Lib.compact zs).length) []).toArray := Any.slices_Compact_string Tryz.lays194 blk off cap zs w hH hsz hcap
open Go.RowKit Go.Lib Go.Sort in
theorem Tryz.slices_Compact_string_empty (a : Option Addr) (cap : Nat) (w : World) :
    Calls Tryz.prog 55 #[.slice a 0 cap] w fun e w' => e = .returned (.slice a 0 cap) ∧ w' = w := Any.slices_Compact_string_empty Tryz.lays194 a cap w
open Go.RowKit Go.Sort in
theorem Tryz.slices_Sort_string_none (p : Option Addr) (cap : Nat) (w : World) :
    Calls Tryz.prog 54 #[.slice p 0 cap] w fun e w' => e = .returned (.tuple #[]) ∧ w' = w := Any.slices_Sort_string_none Tryz.lays190 p cap w
end Go.Proofs

namespace Go.Proofs.YtijmnenojbfdnaaGreatDoor
open Go.RowKit
theorem lexSize (s : ByteArray) : s.data.toList.length = s.size := Array.length_toList
theorem lexDrop {s : ByteArray} {k : Nat} (h : k < s.size) : s.data.toList.drop k = s[k] :: s.data.toList.drop (k + 1) := by
  rw [List.drop_eq_getElem_cons (by rw [lexSize]; exact h)]
  congr 1
theorem lexExt (s : ByteArray) (a b : Nat) : (s.extract a b).data.toList = (s.data.toList.drop a).take (b - a) := by
  rw [ByteArray.data_extract, Array.toList_extract, List.extract_eq_take_drop]
def lenP (p : UInt8 → Bool) (l : List UInt8) : Nat := (l.takeWhile p).length
theorem lenP_le (p : UInt8 → Bool) (l : List UInt8) : lenP p l ≤ l.length := by
  unfold lenP
  exact List.Sublist.length_le (List.takeWhile_sublist p)
theorem lenP_cons (p : UInt8 → Bool) (a : UInt8) (l : List UInt8) : lenP p (a :: l) = if p a then lenP p l + 1 else 0 := by
  unfold lenP
  rw [List.takeWhile_cons]
  split <;> simp
theorem lenP_in (p : UInt8 → Bool) : ∀ (l : List UInt8) (j : Nat), j < lenP p l → ∃ c r, l.drop j = c :: r ∧ p c = true
  | [], j, h => by unfold lenP at h; simp at h
  | a :: l, j, h => by
    rw [lenP_cons] at h
    cases ha : p a with
    | false => rw [ha] at h; simp at h
    | true =>
      rw [ha, if_pos rfl] at h
      cases j with
      | zero => exact ⟨a, l, rfl, ha⟩
      | succ j => exact lenP_in p l j (by omega)
theorem lenP_out (p : UInt8 → Bool) : ∀ (l : List UInt8) (c : UInt8) (r : List UInt8), l.drop (lenP p l) = c :: r → p c = false
  | [], c, r, h => by unfold lenP at h; simp at h
  | a :: l, c, r, h => by
    rw [lenP_cons] at h
    cases ha : p a with
    | false =>
      rw [ha] at h
      have h : a :: l = c :: r := h
      injection h with h1 _
      rw [← h1, ha]
    | true =>
      rw [ha, if_pos rfl] at h
      exact lenP_out p l c r (by simpa using h)
def letB (c : UInt8) : Bool := (decide (97 ≤ c.toNat) && decide (c.toNat ≤ 122)) || (decide (65 ≤ c.toNat) && decide (c.toNat ≤ 90))
def digB (c : UInt8) : Bool := decide (48 ≤ c.toNat) && decide (c.toNat ≤ 57)
def wordC (c : UInt8) : Bool := letB c || digB c || c == 95 || c == 45 || c == 46
def symL : List ByteArray := [⟨#[45, 62]⟩, ⟨#[61, 62]⟩, ⟨#[60, 61]⟩, ⟨#[62, 61]⟩, ⟨#[33, 61]⟩, ⟨#[61, 61]⟩, ⟨#[58, 61]⟩, ⟨#[46, 46]⟩, ⟨#[40]⟩, ⟨#[41]⟩, ⟨#[91]⟩, ⟨#[93]⟩, ⟨#[123]⟩, ⟨#[125]⟩, ⟨#[44]⟩, ⟨#[59]⟩, ⟨#[58]⟩, ⟨#[46]⟩, ⟨#[124]⟩, ⟨#[38]⟩, ⟨#[33]⟩, ⟨#[63]⟩, ⟨#[43]⟩, ⟨#[45]⟩, ⟨#[42]⟩, ⟨#[47]⟩, ⟨#[61]⟩, ⟨#[60]⟩, ⟨#[62]⟩, ⟨#[64]⟩, ⟨#[37]⟩, ⟨#[94]⟩, ⟨#[126]⟩]
def symB (l : List UInt8) : Option ByteArray := symL.find? fun x => Lib.hasPrefix l x.data.toList
def digV : List UInt8 → Option Int
  | [49] => some 1
  | [51] => some 3
  | [52] => some 4
  | _ => none
theorem digV_ok {l : List UInt8} {v : Int} (h : digV l = some v) : Lib.atoiAll l = .ok v ∧ 0 ≤ v ∧ v ≤ 4 := by
  unfold digV at h
  split at h
  all_goals first
    | (injection h with h; subst h; exact ⟨by decide +kernel, by decide, by decide⟩)
    | cases h
structure Tok where
  kind : Int
  text : ByteArray
  n : Int
  col : Int
def badNext : List UInt8 → Bool
  | d :: _ => letB d || d == 95
  | [] => false
def nextB (s : ByteArray) : Option (Int × ByteArray × Int × Nat) := match s.data.toList with
  | [] => some (5, ⟨#[]⟩, 0, 0)
  | c :: l =>
    if letB c then (if lenP wordC (c :: l) ≤ 40 then some (1, s.extract 0 (lenP wordC (c :: l)), 0, lenP wordC (c :: l)) else none)
    else if digB c then (if lenP digB (c :: l) = s.size then (digV ((c :: l).take (lenP digB (c :: l)))).map fun v => (2, ⟨#[]⟩, v, lenP digB (c :: l))
      else if badNext ((c :: l).drop (lenP digB (c :: l))) then none
      else (digV ((c :: l).take (lenP digB (c :: l)))).map fun v => (2, ⟨#[]⟩, v, lenP digB (c :: l)))
    else if c = 34 then none
    else (symB (c :: l)).map fun x => (4, x, 0, x.size)
def plainBlank (l : List UInt8) : Bool := match l.drop (lenP (· == 32) l) with
  | c :: _ => !(c == 9 || c == 10 || c == 13 || c == 35)
  | [] => true
def lexB : Nat → ByteArray → Int → Option (List Tok)
  | 0, _, _ => none
  | f + 1, s, col =>
    if plainBlank s.data.toList then
      match nextB (s.extract (lenP (· == 32) s.data.toList) s.size) with
      | some (k, t, n, len) =>
        if k = 5 then some [⟨k, t, n, col + lenP (· == 32) s.data.toList⟩]
        else if len ≤ s.size - lenP (· == 32) s.data.toList ∧ ((s.data.toList.drop (lenP (· == 32) s.data.toList)).take len).all (· != 10) then
          (lexB f (s.extract (lenP (· == 32) s.data.toList + len) s.size) (col + lenP (· == 32) s.data.toList + len)).map (⟨k, t, n, col + lenP (· == 32) s.data.toList⟩ :: ·)
        else none
      | none => none
    else none
def ex1 : ByteArray := ⟨#[110, 111, 116, 32, 110, 32, 43, 32, 49, 32, 61, 32, 51]⟩
def toks1 : List Tok := [⟨1, ⟨#[110, 111, 116]⟩, 0, 1⟩, ⟨1, ⟨#[110]⟩, 0, 5⟩, ⟨4, ⟨#[43]⟩, 0, 7⟩, ⟨2, ⟨#[]⟩, 1, 9⟩, ⟨4, ⟨#[61]⟩, 0, 11⟩, ⟨2, ⟨#[]⟩, 3, 13⟩, ⟨5, ⟨#[]⟩, 0, 14⟩]
def ex2 : ByteArray := ⟨#[110, 32, 42, 32, 110, 32, 60, 61, 32, 52, 32, 97, 110, 100, 32, 110, 111, 116, 32, 40, 110, 32, 105, 110, 32, 123, 49, 125, 41]⟩
def toks2 : List Tok := [⟨1, ⟨#[110]⟩, 0, 1⟩, ⟨4, ⟨#[42]⟩, 0, 3⟩, ⟨1, ⟨#[110]⟩, 0, 5⟩, ⟨4, ⟨#[60, 61]⟩, 0, 7⟩, ⟨2, ⟨#[]⟩, 4, 10⟩, ⟨1, ⟨#[97, 110, 100]⟩, 0, 12⟩, ⟨1, ⟨#[110, 111, 116]⟩, 0, 16⟩, ⟨4, ⟨#[40]⟩, 0, 20⟩, ⟨1, ⟨#[110]⟩, 0, 21⟩, ⟨1, ⟨#[105, 110]⟩, 0, 23⟩, ⟨4, ⟨#[123]⟩, 0, 26⟩, ⟨2, ⟨#[]⟩, 1, 27⟩, ⟨4, ⟨#[125]⟩, 0, 28⟩, ⟨4, ⟨#[41]⟩, 0, 29⟩, ⟨5, ⟨#[]⟩, 0, 30⟩]
theorem lex1 : lexB 20 ex1 1 = some toks1 := by kernel_rfl
theorem lex2 : lexB 20 ex2 1 = some toks2 := by kernel_rfl
end Go.Proofs.YtijmnenojbfdnaaGreatDoor

namespace Go.Proofs.YtijmnenojbfdnaaGreatDoor
open Go.RowKit
def Fit (z : Int) : Prop := -9223372036854775808 ≤ z ∧ z ≤ 9223372036854775807
theorem add_add' (a : Addr) (i j : Nat) : (a.add i).add j = a.add (i + j) := by
  unfold Addr.add
  by_cases hi : i = 0 <;> by_cases hj : j = 0 <;> simp [hi, hj, Nat.add_assoc]
def Same (D : Nat → Prop) (w w' : World) : Prop := ∀ b, D b → w'.heap[b]? = w.heap[b]?
def Lt (B b : Nat) : Prop := b < B
theorem Same.refl (D : Nat → Prop) (w : World) : Same D w w := fun _ _ => rfl
theorem Same.trans {D : Nat → Prop} {a b c : World} (h : Same D a b) (k : Same D b c) : Same D a c := fun x hx => (k x hx).trans (h x hx)
theorem Same.mono {D D' : Nat → Prop} {a b : World} (h : Same D a b) (hd : ∀ x, D' x → D x) : Same D' a b := fun x hx => h x (hd x hx)
theorem Same.of_below {B : Nat} {w w' : World} (h : Below B w w') : Same (Lt B) w w' := fun b hb => h.block b hb
theorem Same.cell {D : Nat → Prop} {w w' : World} (h : Same D w w') {p : Addr} (hp : D p.block) : w'.cell? p = w.cell? p :=
  World.cell?_of_block (h p.block hp)
abbrev ElemR (α : Type) := (Nat → Prop) → World → α → List Value → Prop
def ElemR.Kept {α : Type} (R : ElemR α) : Prop := ∀ (D D' : Nat → Prop) (w w' : World) (x : α) (cs : List Value), (∀ b, D b → D' b) → Same D w w' → R D w x cs → R D' w' x cs
def Sl {α : Type} (size : Nat) (R : ElemR α) (D : Nat → Prop) (w : World) (v : Value) (xs : List α) : Prop :=
  ∃ (A : Option Addr) (c : Nat), v = .slice A xs.length c ∧ xs.length ≤ c ∧ c ≤ maxLen ∧
    ∀ i x, xs[i]? = some x → ∃ b o cs, A = some ⟨b, o, none⟩ ∧ D b ∧ cs.length = size ∧ R D w x cs ∧ ∀ j u, cs[j]? = some u → w.cell? ⟨b, o + i * size + j, none⟩ = some u
section
variable {α : Type} {size : Nat} {R : ElemR α} {D D' : Nat → Prop} {w w' : World} {v : Value} {xs : List α}
theorem Sl.keep (h : Sl size R D w v xs) (hR : ElemR.Kept R) (hd : ∀ b, D b → D' b) (hs : Same D w w') : Sl size R D' w' v xs := by
  obtain ⟨A, c, hv, h1, h2, h3⟩ := h
  refine ⟨A, c, hv, h1, h2, fun i x hx => ?_⟩
  obtain ⟨b, o, cs, hA, hD, hl, hr, hc⟩ := h3 i x hx
  exact ⟨b, o, cs, hA, hd _ hD, hl, hR _ _ _ _ _ _ hd hs hr, fun j u hu => (hs.cell hD).trans (hc j u hu)⟩
theorem Sl.below {B B' : Nat} (h : Sl size R (Lt B) w v xs) (hR : ElemR.Kept R) (hb : Below B w w') (hB : B ≤ B') : Sl size R (Lt B') w' v xs :=
  h.keep hR (fun _ hx => Nat.lt_of_lt_of_le hx hB) (Same.of_below hb)
theorem Sl.at1 {A : Option Addr} {n c k : Nat} (h : Sl 1 R D w (.slice A n c) xs) (hk : k < n) :
    ∃ b o x u, A = some ⟨b, o, none⟩ ∧ D b ∧ xs[k]? = some x ∧ R D w x [u] ∧ w.cell? ⟨b, o + k, none⟩ = some u := by
  obtain ⟨A', c', hv, h1, h2, h3⟩ := h
  injection hv with hA hn hc
  subst hA hn hc
  obtain ⟨b, o, cs, hA, hD, hl, hr, hcell⟩ := h3 k xs[k] (List.getElem?_eq_getElem hk)
  match cs, hl with
  | [u], _ => exact ⟨b, o, xs[k], u, hA, hD, List.getElem?_eq_getElem hk, hr, by simpa using hcell 0 u rfl⟩
theorem Sl.at3 {A : Option Addr} {n c k : Nat} (h : Sl 3 R D w (.slice A n c) xs) (hk : k < n) :
    ∃ b o x u0 u1 u2, A = some ⟨b, o, none⟩ ∧ D b ∧ xs[k]? = some x ∧ R D w x [u0, u1, u2] ∧ w.cell? ⟨b, o + k * 3, none⟩ = some u0 ∧ w.cell? ⟨b, o + k * 3 + 1, none⟩ = some u1 ∧ w.cell? ⟨b, o + k * 3 + 2, none⟩ = some u2 := by
  obtain ⟨A', c', hv, h1, h2, h3⟩ := h
  injection hv with hA hn hc
  subst hA hn hc
  obtain ⟨b, o, cs, hA, hD, hl, hr, hcell⟩ := h3 k xs[k] (List.getElem?_eq_getElem hk)
  match cs, hl with
  | [u0, u1, u2], _ => exact ⟨b, o, xs[k], u0, u1, u2, hA, hD, List.getElem?_eq_getElem hk, hr, hcell 0 u0 rfl, hcell 1 u1 rfl, hcell 2 u2 rfl⟩
theorem Sl.row1 {A : Option Addr} {n c : Nat} (h : Sl 1 R D w (.slice A n c) xs) (hn : 0 < n) :
    ∃ b o, A = some ⟨b, o, none⟩ ∧ D b ∧ n = xs.length ∧ ∀ k x, xs[k]? = some x → ∃ u, R D w x [u] ∧ w.cell? ⟨b, o + k, none⟩ = some u := by
  obtain ⟨b, o, x, u, hA, hD, _, _, _⟩ := h.at1 hn
  obtain ⟨A', c', hv, h1, h2, h3⟩ := h
  injection hv with hA' hn' hc
  refine ⟨b, o, hA, hD, hn', fun k y hy => ?_⟩
  obtain ⟨b', o', cs, hA'', hD', hl, hr, hcell⟩ := h3 k y hy
  have e : (⟨b, o, none⟩ : Addr) = ⟨b', o', none⟩ := by
    have : some (⟨b, o, none⟩ : Addr) = some ⟨b', o', none⟩ := by rw [← hA, hA', hA'']
    injection this
  injection e with e1 e2 _
  subst e1 e2
  match cs, hl with
  | [u], _ => exact ⟨u, hr, by simpa using hcell 0 u rfl⟩
theorem Sl.open_ (h : Sl size R D w v xs) : ∃ A c, v = .slice A xs.length c ∧ xs.length ≤ c ∧ c ≤ 9223372036854775807 ∧ Sl size R D w (.slice A xs.length c) xs := by
  obtain ⟨A, c, hv, h1, h2, h3⟩ := h
  unfold maxLen at h2
  exact ⟨A, c, hv, h1, h2, A, c, rfl, h1, by unfold maxLen; exact h2, h3⟩
theorem Sl.none_ : Sl size R D w (.slice none 0 0) ([] : List α) := ⟨none, 0, rfl, Nat.le_refl _, Nat.zero_le _, fun i x hx => by simp at hx⟩
end
def RInt : ElemR Int := fun _ _ z cs => cs = [.int .i64 z] ∧ Fit z
def RStr : ElemR ByteArray := fun _ _ s cs => cs = [.string s] ∧ s.size ≤ maxLen
def RBool : ElemR Bool := fun _ _ b cs => cs = [.bool b]
theorem RInt.kept : ElemR.Kept RInt := fun _ _ _ _ _ _ _ _ h => h
theorem RStr.kept : ElemR.Kept RStr := fun _ _ _ _ _ _ _ _ h => h
theorem RBool.kept : ElemR.Kept RBool := fun _ _ _ _ _ _ _ _ h => h
def SlI := Sl 1 RInt
def SlS := Sl 1 RStr
def SlB := Sl 1 RBool
def RRow : ElemR (List Int) := fun D w r cs => ∃ v, cs = [v] ∧ SlI D w v r
theorem RRow.kept : ElemR.Kept RRow := by
  rintro D D' w w' x cs hd hs ⟨v, rfl, h⟩
  exact ⟨v, rfl, Sl.keep h RInt.kept hd hs⟩
def SlII := Sl 1 RRow
section
variable {D D' : Nat → Prop} {w w' : World} {v : Value}
theorem SlI.below {zs : List Int} {B B' : Nat} (h : SlI (Lt B) w v zs) (hb : Below B w w') (hB : B ≤ B') : SlI (Lt B') w' v zs := Sl.below h RInt.kept hb hB
theorem SlS.below {zs : List ByteArray} {B B' : Nat} (h : SlS (Lt B) w v zs) (hb : Below B w w') (hB : B ≤ B') : SlS (Lt B') w' v zs := Sl.below h RStr.kept hb hB
theorem SlB.below {zs : List Bool} {B B' : Nat} (h : SlB (Lt B) w v zs) (hb : Below B w w') (hB : B ≤ B') : SlB (Lt B') w' v zs := Sl.below h RBool.kept hb hB
theorem SlII.below {zs : List (List Int)} {B B' : Nat} (h : SlII (Lt B) w v zs) (hb : Below B w w') (hB : B ≤ B') : SlII (Lt B') w' v zs := Sl.below h RRow.kept hb hB
theorem SlI.open_ {zs : List Int} (h : SlI D w v zs) : ∃ A c, v = .slice A zs.length c ∧ zs.length ≤ c ∧ c ≤ 9223372036854775807 ∧ SlI D w (.slice A zs.length c) zs := Sl.open_ h
theorem SlS.open_ {zs : List ByteArray} (h : SlS D w v zs) : ∃ A c, v = .slice A zs.length c ∧ zs.length ≤ c ∧ c ≤ 9223372036854775807 ∧ SlS D w (.slice A zs.length c) zs := Sl.open_ h
theorem SlB.open_ {zs : List Bool} (h : SlB D w v zs) : ∃ A c, v = .slice A zs.length c ∧ zs.length ≤ c ∧ c ≤ 9223372036854775807 ∧ SlB D w (.slice A zs.length c) zs := Sl.open_ h
theorem SlII.open_ {zs : List (List Int)} (h : SlII D w v zs) : ∃ A c, v = .slice A zs.length c ∧ zs.length ≤ c ∧ c ≤ 9223372036854775807 ∧ SlII D w (.slice A zs.length c) zs := Sl.open_ h
theorem SlI.at_ {zs : List Int} {A : Option Addr} {n c k : Nat} (h : SlI D w (.slice A n c) zs) (hk : k < n) :
    ∃ b o z, A = some ⟨b, o, none⟩ ∧ D b ∧ zs[k]? = some z ∧ Fit z ∧ w.cell? ⟨b, o + k, none⟩ = some (.int .i64 z) := by
  obtain ⟨b, o, x, u, hA, hD, hx, ⟨hu, hf⟩, hc⟩ := Sl.at1 h hk
  injection hu with hu; subst hu
  exact ⟨b, o, x, hA, hD, hx, hf, hc⟩
theorem SlB.at_ {zs : List Bool} {A : Option Addr} {n c k : Nat} (h : SlB D w (.slice A n c) zs) (hk : k < n) :
    ∃ b o z, A = some ⟨b, o, none⟩ ∧ D b ∧ zs[k]? = some z ∧ w.cell? ⟨b, o + k, none⟩ = some (.bool z) := by
  obtain ⟨b, o, x, u, hA, hD, hx, hu, hc⟩ := Sl.at1 h hk
  injection hu with hu; subst hu
  exact ⟨b, o, x, hA, hD, hx, hc⟩
theorem SlS.at_ {zs : List ByteArray} {A : Option Addr} {n c k : Nat} (h : SlS D w (.slice A n c) zs) (hk : k < n) :
    ∃ b o z, A = some ⟨b, o, none⟩ ∧ D b ∧ zs[k]? = some z ∧ z.size ≤ maxLen ∧ w.cell? ⟨b, o + k, none⟩ = some (.string z) := by
  obtain ⟨b, o, x, u, hA, hD, hx, ⟨hu, hf⟩, hc⟩ := Sl.at1 h hk
  injection hu with hu; subst hu
  exact ⟨b, o, x, hA, hD, hx, hf, hc⟩
theorem SlII.at_ {zs : List (List Int)} {A : Option Addr} {n c k : Nat} (h : SlII D w (.slice A n c) zs) (hk : k < n) :
    ∃ b o r u, A = some ⟨b, o, none⟩ ∧ D b ∧ zs[k]? = some r ∧ SlI D w u r ∧ w.cell? ⟨b, o + k, none⟩ = some u := by
  obtain ⟨b, o, x, u, hA, hD, hx, ⟨u', hu, hf⟩, hc⟩ := Sl.at1 h hk
  injection hu with hu; subst hu
  exact ⟨b, o, x, u, hA, hD, hx, hf, hc⟩
end
def Blk (w : World) (g : Nat) (t : TypeId) (cs : Array Value) : Prop := w.heap[g]? = some (.cells cs t (0, 0))
section
variable {w w' : World} {g : Nat} {t : TypeId} {cs : Array Value}
theorem Blk.lt (h : Blk w g t cs) : g < w.heap.size := by
  rcases Nat.lt_or_ge g w.heap.size with hlt | hge
  · exact hlt
  · unfold Blk at h; rw [Array.getElem?_eq_none hge] at h; cases h
theorem Blk.cell (h : Blk w g t cs) (i : Nat) : w.cell? ⟨g, i, none⟩ = cs[i]? := cell_of_row w g i cs t (0, 0) h
theorem Blk.frozen (h : Blk w g t cs) (i : Nat) : w.frozen? ⟨g, i, none⟩ = false := by
  unfold Blk at h
  simp [World.frozen?, h]
theorem Blk.new (w : World) (t : TypeId) (cs : Array Value) : Blk (w.alloc (.cells cs t)) w.heap.size t cs := heap_alloc_new w _
theorem Blk.drew (h : Blk w g t cs) : Blk w.drew g t cs := h
theorem Blk.drewN (h : Blk w g t cs) (n : Nat) : Blk (w.drewN n) g t cs := h
theorem Blk.alloc (h : Blk w g t cs) (o : Obj) : Blk (w.alloc o) g t cs := (Below.heap_alloc w o g h.lt).trans h
theorem Blk.set_ (h : Blk w g t cs) (i : Nat) (u : Value) : Blk (w.setCell ⟨g, i, none⟩ u) g t (cs.setIfInBounds i u) := by
  unfold Blk at h ⊢
  simp [World.setCell, Array.getElem?_modify, h]
theorem Blk.far (h : Blk w g t cs) {p : Addr} (hp : g ≠ p.block) (u : Value) : Blk (w.setCell p u) g t cs := (Below.heap_setCell w p u g hp).trans h
theorem Blk.below {B : Nat} (h : Blk w g t cs) (hb : Below B w w') (hg : g < B) : Blk w' g t cs := (hb.block g hg).trans h
theorem Blk.grown {row : Option Nat} (h : Blk w g t cs) (hb : w.grownBy w' row) (hg : some g ≠ row) : Blk w' g t cs := (hb.block g h.lt hg).trans h
end
theorem below_drewN {B : Nat} {a w : World} (h : Below B a w) (n : Nat) : Below B a (w.drewN n) := ⟨h.os, h.tape, h.output, h.size, h.block⟩
theorem below_drew_left {B : Nat} {a w : World} (h : Below B a.drew w) : Below B a w := ⟨h.os, h.tape, h.output, h.size, h.block⟩
theorem below_step {B : Nat} {a b c : World} (h : Below B a b) (k : Below b.heap.size b c) (hB : B ≤ b.heap.size) : Below B a c := h.trans (k.mono hB)
theorem bthen {w b c : World} (h : Below w.heap.size w b) (k : Below b.heap.size b c) : Below w.heap.size w c := h.trans (k.mono h.size)
theorem bbox {w b : World} (h : Below w.heap.size w b) (o : Obj) : Below w.heap.size w (b.alloc o) := h.alloc h.size o
theorem bdrawn {B : Nat} {w b : World} (h : Below B w b) (n : Nat) : Below B w (b.drewN n) := below_drewN h n
theorem bone (w : World) (o : Obj) : Below w.heap.size w (w.alloc o) := (Below.refl _ _).alloc (Nat.le_refl _) o
section
variable {w w' : World} {v : Value}
theorem SlI.now {zs : List Int} (h : SlI (Lt w.heap.size) w v zs) (hb : Below w.heap.size w w') : SlI (Lt w'.heap.size) w' v zs := h.below hb hb.size
theorem SlS.now {zs : List ByteArray} (h : SlS (Lt w.heap.size) w v zs) (hb : Below w.heap.size w w') : SlS (Lt w'.heap.size) w' v zs := h.below hb hb.size
theorem SlB.now {zs : List Bool} (h : SlB (Lt w.heap.size) w v zs) (hb : Below w.heap.size w w') : SlB (Lt w'.heap.size) w' v zs := h.below hb hb.size
theorem SlII.now {zs : List (List Int)} (h : SlII (Lt w.heap.size) w v zs) (hb : Below w.heap.size w w') : SlII (Lt w'.heap.size) w' v zs := h.below hb hb.size
end
theorem Blk.now {w w' : World} {g : Nat} {t : TypeId} {cs : Array Value} (h : Blk w g t cs) (hb : Below w.heap.size w w') : Blk w' g t cs := h.below hb h.lt
section
variable {w : World} {g : Nat} {t : TypeId} {a b c d e f : Value}
theorem Blk.c1 (h : Blk w g t #[a]) : w.cell? ⟨g, 0, none⟩ = some a := h.cell 0
theorem Blk.c2 (h : Blk w g t #[a, b]) : w.cell? ⟨g, 0, none⟩ = some a ∧ w.cell? ⟨g, 1, none⟩ = some b := ⟨h.cell 0, h.cell 1⟩
theorem Blk.c3 (h : Blk w g t #[a, b, c]) : w.cell? ⟨g, 0, none⟩ = some a ∧ w.cell? ⟨g, 1, none⟩ = some b ∧ w.cell? ⟨g, 2, none⟩ = some c := ⟨h.cell 0, h.cell 1, h.cell 2⟩
theorem Blk.c4 (h : Blk w g t #[a, b, c, d]) : w.cell? ⟨g, 0, none⟩ = some a ∧ w.cell? ⟨g, 1, none⟩ = some b ∧ w.cell? ⟨g, 2, none⟩ = some c ∧ w.cell? ⟨g, 3, none⟩ = some d := ⟨h.cell 0, h.cell 1, h.cell 2, h.cell 3⟩
theorem Blk.c5 (h : Blk w g t #[a, b, c, d, e]) : w.cell? ⟨g, 0, none⟩ = some a ∧ w.cell? ⟨g, 1, none⟩ = some b ∧ w.cell? ⟨g, 2, none⟩ = some c ∧ w.cell? ⟨g, 3, none⟩ = some d ∧ w.cell? ⟨g, 4, none⟩ = some e := ⟨h.cell 0, h.cell 1, h.cell 2, h.cell 3, h.cell 4⟩
theorem Blk.c6 (h : Blk w g t #[a, b, c, d, e, f]) : w.cell? ⟨g, 0, none⟩ = some a ∧ w.cell? ⟨g, 1, none⟩ = some b ∧ w.cell? ⟨g, 2, none⟩ = some c ∧ w.cell? ⟨g, 3, none⟩ = some d ∧ w.cell? ⟨g, 4, none⟩ = some e ∧ w.cell? ⟨g, 5, none⟩ = some f := ⟨h.cell 0, h.cell 1, h.cell 2, h.cell 3, h.cell 4, h.cell 5⟩
end
theorem bcell {W w1 : World} (hb : Below W.heap.size W w1) : (∀ b o, b < W.heap.size → w1.cell? ⟨b, o, none⟩ = W.cell? ⟨b, o, none⟩) ∧ (∀ b o, b < W.heap.size → w1.frozen? ⟨b, o, none⟩ = W.frozen? ⟨b, o, none⟩) :=
  ⟨fun b o h => hb.cell (p := ⟨b, o, none⟩) h, fun b o h => hb.frozen (p := ⟨b, o, none⟩) h⟩
theorem ret_int {k : IntKind} {a b : Int} (h : a = b) : Ending.returned (.int k a) = .returned (.int k b) := by rw [h]
theorem ret_bool {a b : Bool} (h : a = b) : Ending.returned (.bool a) = .returned (.bool b) := by rw [h]
end Go.Proofs.YtijmnenojbfdnaaGreatDoor

namespace Go.Proofs.YtijmnenojbfdnaaGreatDoor
open Go.RowKit
def letterB (c : Int) : Bool := decide (65 ≤ c ∧ c ≤ 90) || decide (97 ≤ c ∧ c ≤ 122)
def partB (c : Int) : Bool := letterB c || decide (48 ≤ c ∧ c ≤ 57) || decide (c = 95) || decide (c = 45) || decide (c = 46)
def byteAt (s : ByteArray) (i : Nat) : Int := (((s.data.toList[i]?).getD 0).toNat : Int)
def isNameB (s : ByteArray) : Bool := decide (1 ≤ s.size) && decide (s.size ≤ 40) && letterB (byteAt s 0) && (List.range s.size).all fun i => partB (byteAt s i)
theorem letter_yes {c : Int} (h : (65 ≤ c ∧ c ≤ 90) ∨ (97 ≤ c ∧ c ≤ 122)) : letterB c = true := by unfold letterB; simp; omega
theorem letter_no {c : Int} (h : ¬ ((65 ≤ c ∧ c ≤ 90) ∨ (97 ≤ c ∧ c ≤ 122))) : letterB c = false := by unfold letterB; simp; omega
theorem part_letter {c : Int} (h : letterB c = true) : partB c = true := by unfold partB; simp [h]
theorem part_other {c : Int} (h : letterB c = false) : partB c = (decide (48 ≤ c ∧ c ≤ 57) || decide (c = 95) || decide (c = 45) || decide (c = 46)) := by unfold partB; simp [h]
theorem byteAt_eq (s : ByteArray) (i : Nat) (h : i < s.size) : byteAt s i = (s[i].toNat : Int) := by
  unfold byteAt
  rw [List.getElem?_eq_getElem (by simpa using h)]
  rfl
set_option maxHeartbeats 400000 in
theorem letter_any (c : Int) (w : World) : Calls Tryz.prog 183 #[.int .u8 c] w fun e w' => e = .returned (.bool (letterB c)) ∧ w = w' := by
  by_cases h1 : 65 ≤ c <;> by_cases h2 : c ≤ 90 <;> by_cases h3 : 97 ≤ c <;> by_cases h4 : c ≤ 122
  all_goals first
    | (exfalso; omega)
    | (go_enter Tryz.func183, Tryz.ntmps183
       go_wp2
       go_ret
       exact ⟨ret_bool (by first | exact (letter_yes (by omega)).symm | exact (letter_no (by omega)).symm), rfl⟩)
set_option maxHeartbeats 400000 in
theorem letter_ref (c : Int) (w : World) : Calls Tryz.prog 155 #[.int .u8 c] w fun e w' => e = .returned (.bool (letterB c)) ∧ w = w' := by
  by_cases h1 : 65 ≤ c <;> by_cases h2 : c ≤ 90 <;> by_cases h3 : 97 ≤ c <;> by_cases h4 : c ≤ 122
  all_goals first
    | (exfalso; omega)
    | (go_enter Tryz.func155, Tryz.ntmps155
       go_wp2
       go_ret
       exact ⟨ret_bool (by first | exact (letter_yes (by omega)).symm | exact (letter_no (by omega)).symm), rfl⟩)
set_option maxHeartbeats 400000 in
theorem part_any (c : Int) (w : World) : Calls Tryz.prog 184 #[.int .u8 c] w fun e w' => e = .returned (.bool (partB c)) ∧ w = w' := by
  have HC := Lib.hid (letter_any c)
  cases hl : letterB c with
  | true =>
    have hp := Lib.hid (part_letter hl)
    have HC' : Hid (∀ w, Calls Tryz.prog 183 #[.int .u8 c] w fun e w' => e = .returned (.bool true) ∧ w = w') := fun w => by have := HC.out w; rwa [hl] at this
    clear hl HC
    go_enter Tryz.func184, Tryz.ntmps184
    go_wp2_with (go_at_call 183; refine (HC'.out _).mono ?_; rintro e w' ⟨rfl, rfl⟩)
    go_ret
    exact ⟨ret_bool hp.out.symm, rfl⟩
  | false =>
    have hp := Lib.hid (part_other hl)
    have HC' : Hid (∀ w, Calls Tryz.prog 183 #[.int .u8 c] w fun e w' => e = .returned (.bool false) ∧ w = w') := fun w => by have := HC.out w; rwa [hl] at this
    clear hl HC
    generalize partB c = pb at *
    by_cases h1 : 48 ≤ c <;> by_cases h2 : c ≤ 57
    all_goals first
      | (exfalso; omega)
      | (go_enter Tryz.func184, Tryz.ntmps184
         go_wp2_with (go_at_call 183; refine (HC'.out _).mono ?_; rintro e w' ⟨rfl, rfl⟩)
         all_goals
           go_ret
           refine ⟨ret_bool ?_, rfl⟩
           rw [hp.out, Bool.eq_iff_iff]
           simp
           omega)
theorem isName_size {s : ByteArray} (h : ¬ (1 ≤ s.size ∧ s.size ≤ 40)) : isNameB s = false := by
  unfold isNameB
  by_cases h1 : 1 ≤ s.size
  · have : ¬ s.size ≤ 40 := fun h2 => h ⟨h1, h2⟩
    simp [this]
  · simp [h1]
theorem isName_first {s : ByteArray} (h : letterB (byteAt s 0) = false) : isNameB s = false := by
  unfold isNameB; simp [h]
theorem isName_bad {s : ByteArray} {k : Nat} (hk : k < s.size) (h : partB (byteAt s k) = false) : isNameB s = false := by
  unfold isNameB
  have : (List.range s.size).all (fun i => partB (byteAt s i)) = false := by
    rw [List.all_eq_false]; exact ⟨k, List.mem_range.2 hk, by simp [h]⟩
  simp [this]
theorem isName_ok {s : ByteArray} (h1 : 1 ≤ s.size) (h2 : s.size ≤ 40) (h3 : letterB (byteAt s 0) = true) (h : ∀ j, j < s.size → partB (byteAt s j) = true) : isNameB s = true := by
  unfold isNameB
  have : (List.range s.size).all (fun i => partB (byteAt s i)) = true := by
    rw [List.all_eq_true]; exact fun j hj => h j (List.mem_range.1 hj)
  simp [this, h1, h2, h3]
set_option maxHeartbeats 400000 in
theorem isName_any (s : ByteArray) (w : World) (hs : s.size ≤ maxLen) : Calls Tryz.prog 146 #[.string s] w fun e w' => e = .returned (.bool (isNameB s)) ∧ w = w' := by
  unfold maxLen at hs
  by_cases h1 : 1 ≤ s.size
  · by_cases h2 : s.size ≤ 40
    · cases hl : letterB (byteAt s 0) with
      | false =>
        have HE := Lib.hid (isName_first hl)
        have HC : Hid (∀ w, Calls Tryz.prog 183 #[.int .u8 (s[0].toNat : Int)] w fun e w' => e = .returned (.bool false) ∧ w = w') := fun w => by
          have := letter_any (byteAt s 0) w; rwa [hl, byteAt_eq s 0 (by omega)] at this
        clear hl
        go_enter Tryz.func146, Tryz.ntmps146
        go_wp2_with (go_at_call 183; refine (HC.out _).mono ?_; rintro e w' ⟨rfl, rfl⟩)
        go_ret
        exact ⟨ret_bool HE.out.symm, rfl⟩
      | true =>
        have HL := Lib.hid hl
        have HC : Hid (∀ w, Calls Tryz.prog 183 #[.int .u8 (s[0].toNat : Int)] w fun e w' => e = .returned (.bool true) ∧ w = w') := fun w => by
          have := letter_any (byteAt s 0) w; rwa [hl, byteAt_eq s 0 (by omega)] at this
        clear hl
        go_enter Tryz.func146, Tryz.ntmps146
        go_wp2_with (go_at_call 183; refine (HC.out _).mono ?_; rintro e w' ⟨rfl, rfl⟩)
        go_loop [20] (fun i => ∃ k : Nat, 0 ≤ k ∧ k ≤ s.size ∧ i = .int .i64 k ∧ ∀ j, j < k → partB (byteAt s j) = true) (fun i => s.size - (intOf i).toNat)
        case atStart => exact ⟨0, Nat.le_refl _, by omega, rfl, fun j hj => absurd hj (by omega)⟩
        case round =>
          obtain ⟨k, hk0, hk, rfl, hp⟩ := hrel
          have HP := Lib.hid hp
          clear hp
          by_cases hlt : k < s.size
          · have hby := byteAt_eq s k hlt
            cases hq : partB (byteAt s k) with
            | true =>
              have HQ := Lib.hid hq
              have HD : Hid (∀ w, Calls Tryz.prog 184 #[.int .u8 (s[k].toNat : Int)] w fun e w' => e = .returned (.bool true) ∧ w = w') := fun w => by
                have := part_any (byteAt s k) w; rwa [hq, hby] at this
              clear hq hby
              go_wp2_with (go_at_call 184; refine (HD.out _).mono ?_; rintro e w' ⟨rfl, rfl⟩)
              go_round
              case rel => exact ⟨k + 1, by omega, by omega, by go_num, fun j hj => by
                by_cases e : j = k
                · subst e; exact HQ.out
                · exact HP.out j (by omega)⟩
              case measure => simp [intOf]; omega
            | false =>
              have HE := Lib.hid (isName_bad hlt hq)
              have HD : Hid (∀ w, Calls Tryz.prog 184 #[.int .u8 (s[k].toNat : Int)] w fun e w' => e = .returned (.bool false) ∧ w = w') := fun w => by
                have := part_any (byteAt s k) w; rwa [hq, hby] at this
              clear hq hby
              go_wp2_with (go_at_call 184; refine (HD.out _).mono ?_; rintro e w' ⟨rfl, rfl⟩)
              go_ret
              exact ⟨ret_bool HE.out.symm, rfl⟩
          · go_wp2_with fail
            go_ret
            exact ⟨ret_bool (isName_ok h1 h2 HL.out (fun j hj => HP.out j (by omega))).symm, rfl⟩
    · have HE := Lib.hid (isName_size (s := s) (by omega))
      go_enter Tryz.func146, Tryz.ntmps146
      go_wp2_with fail
      go_ret
      exact ⟨ret_bool HE.out.symm, rfl⟩
  · have HE := Lib.hid (isName_size (s := s) (by omega))
    go_enter Tryz.func146, Tryz.ntmps146
    go_wp2_with fail
    go_ret
    exact ⟨ret_bool HE.out.symm, rfl⟩
set_option maxHeartbeats 400000 in
theorem isName_ref (s : ByteArray) (w : World) (hs : s.size ≤ maxLen) : Calls Tryz.prog 112 #[.string s] w fun e w' => e = .returned (.bool (isNameB s)) ∧ w = w' := by
  unfold maxLen at hs
  by_cases h1 : 1 ≤ s.size
  · by_cases h2 : s.size ≤ 40
    · cases hl : letterB (byteAt s 0) with
      | false =>
        have HE := Lib.hid (isName_first hl)
        have HC : Hid (∀ w, Calls Tryz.prog 155 #[.int .u8 (s[0].toNat : Int)] w fun e w' => e = .returned (.bool false) ∧ w = w') := fun w => by
          have := letter_ref (byteAt s 0) w; rwa [hl, byteAt_eq s 0 (by omega)] at this
        clear hl
        go_enter Tryz.func112, Tryz.ntmps112
        go_wp2_with (go_at_call 155; refine (HC.out _).mono ?_; rintro e w' ⟨rfl, rfl⟩)
        go_ret
        exact ⟨ret_bool HE.out.symm, rfl⟩
      | true =>
        have HL := Lib.hid hl
        have HC : Hid (∀ w, Calls Tryz.prog 155 #[.int .u8 (s[0].toNat : Int)] w fun e w' => e = .returned (.bool true) ∧ w = w') := fun w => by
          have := letter_ref (byteAt s 0) w; rwa [hl, byteAt_eq s 0 (by omega)] at this
        clear hl
        go_enter Tryz.func112, Tryz.ntmps112
        go_wp2_with (go_at_call 155; refine (HC.out _).mono ?_; rintro e w' ⟨rfl, rfl⟩)
        go_loop [3] (fun i => ∃ k : Nat, 1 ≤ k ∧ k ≤ s.size ∧ i = .int .i64 k ∧ ∀ j, j < k → partB (byteAt s j) = true) (fun i => s.size - (intOf i).toNat)
        case atStart => exact ⟨1, Nat.le_refl _, by omega, rfl, fun j hj => by rw [show j = 0 from by omega]; exact part_letter HL.out⟩
        case round =>
          obtain ⟨k, hk0, hk, rfl, hp⟩ := hrel
          have HP := Lib.hid hp
          clear hp
          by_cases hlt : k < s.size
          · have hby := byteAt_eq s k hlt
            cases hq : letterB (byteAt s k) with
            | true =>
              have HQ := Lib.hid (part_letter hq)
              have HD : Hid (∀ w, Calls Tryz.prog 155 #[.int .u8 (s[k].toNat : Int)] w fun e w' => e = .returned (.bool true) ∧ w = w') := fun w => by
                have := letter_ref (byteAt s k) w; rwa [hq, hby] at this
              clear hq hby
              go_wp2_with (go_at_call 155; refine (HD.out _).mono ?_; rintro e w' ⟨rfl, rfl⟩)
              go_round
              case rel => exact ⟨k + 1, by omega, by omega, by go_num, fun j hj => by
                by_cases e : j = k
                · subst e; exact HQ.out
                · exact HP.out j (by omega)⟩
              case measure => simp [intOf]; omega
            | false =>
              have HQ := Lib.hid (part_other hq)
              have HD : Hid (∀ w, Calls Tryz.prog 155 #[.int .u8 (s[k].toNat : Int)] w fun e w' => e = .returned (.bool false) ∧ w = w') := fun w => by
                have := letter_ref (byteAt s k) w; rwa [hq, hby] at this
              have HY : Hid (partB (byteAt s k) = (decide (48 ≤ (s[k].toNat : Int) ∧ (s[k].toNat : Int) ≤ 57) || decide ((s[k].toNat : Int) = 95) || decide ((s[k].toNat : Int) = 45) || decide ((s[k].toNat : Int) = 46))) := by rw [← hby]; exact HQ.out
              clear hq hby HQ
              go_wp2_with (go_at_call 155; refine (HD.out _).mono ?_; rintro e w' ⟨rfl, rfl⟩)
              all_goals first
                | (go_ret
                   exact ⟨ret_bool (isName_bad hlt (by rw [HY.out]; go_light; simp at *; omega)).symm, rfl⟩)
                | (go_round
                   case rel => exact ⟨k + 1, by omega, by omega, by go_num, fun j hj => by
                     by_cases e : j = k
                     · subst e; rw [HY.out]; go_light; simp at *; omega
                     · exact HP.out j (by omega)⟩
                   case measure => simp [intOf]; omega)
          · go_wp2_with fail
            go_ret
            exact ⟨ret_bool (isName_ok h1 h2 HL.out (fun j hj => HP.out j (by omega))).symm, rfl⟩
    · have HE := Lib.hid (isName_size (s := s) (by omega))
      go_enter Tryz.func112, Tryz.ntmps112
      go_wp2_with fail
      go_ret
      exact ⟨ret_bool HE.out.symm, rfl⟩
  · have HE := Lib.hid (isName_size (s := s) (by omega))
    go_enter Tryz.func112, Tryz.ntmps112
    go_wp2_with fail
    go_ret
    exact ⟨ret_bool HE.out.symm, rfl⟩
end Go.Proofs.YtijmnenojbfdnaaGreatDoor

namespace Go.Proofs.YtijmnenojbfdnaaGreatDoor
open Go.RowKit
abbrev Bs := List UInt8
def Asc (l : List Bs) : Prop := l.Pairwise (· < ·)
theorem bs_lt {a b : Bs} (h : a ≤ b) (h2 : a ≠ b) : a < b := by
  apply Classical.byContradiction
  intro h3
  exact h2 (List.le_antisymm h (List.not_lt.1 h3))
theorem asc_nodup {l : List Bs} (h : Asc l) : l.Nodup := List.Pairwise.imp (fun {a b} (h : a < b) => fun e => by subst e; exact List.lt_irrefl _ h) h
theorem asc_push {l : List Bs} {s : Bs} (h : Asc l) (hs : ∀ x ∈ l, x < s) : Asc (l ++ [s]) := by
  unfold Asc
  rw [List.pairwise_append]
  exact ⟨h, by simp, fun x hx y hy => by simp at hy; rw [hy]; exact hs x hx⟩
theorem asc_get {l : List Bs} (h : Asc l) {k : Nat} {x y : Bs} (hx : x ∈ l.take k) (hy : l[k]? = some y) : x < y := by
  have hk : k < l.length := by
    rcases Nat.lt_or_ge k l.length with h' | h'
    · exact h'
    · rw [List.getElem?_eq_none h'] at hy; cases hy
  have e : l = l.take k ++ l.drop k := (List.take_append_drop k l).symm
  unfold Asc at h
  rw [e, List.pairwise_append] at h
  refine h.2.2 x hx y ?_
  rw [List.getElem?_eq_getElem hk] at hy
  injection hy with hy
  rw [List.drop_eq_getElem_cons hk, hy]
  simp
theorem mem_compactUpTo (d : Array Bs) (hd : d.toList.Pairwise (· ≤ ·)) : ∀ m, m ≤ d.size →
    Asc (Lib.compactUpTo d m) ∧ (∀ x, x ∈ Lib.compactUpTo d m ↔ x ∈ d.toList.take m) ∧ (∀ x ∈ Lib.compactUpTo d m, ∀ j, j + 1 = m → x ≤ d[j]!) := by
  intro m
  induction m with
  | zero => intro _; exact ⟨by simp [Asc, Lib.compactUpTo], by simp [Lib.compactUpTo], fun x hx => by simp [Lib.compactUpTo] at hx⟩
  | succ m ih =>
    intro hm
    obtain ⟨h1, h2, h3⟩ := ih (by omega)
    have hmd : m < d.size := by omega
    have hget : d[m]! = d[m] := by simp [hmd]
    have htake : d.toList.take (m + 1) = d.toList.take m ++ [d[m]!] := by
      rw [List.take_succ_eq_append_getElem (by simpa using hmd), hget]
      simp
    have hle : ∀ x ∈ Lib.compactUpTo d m, x ≤ d[m]! := by
      intro x hx
      have hx' := (h2 x).1 hx
      have hp := hd
      rw [← List.take_append_drop m d.toList, List.pairwise_append] at hp
      refine hp.2.2 x hx' _ ?_
      rw [List.drop_eq_getElem_cons (by simpa using hmd), hget]
      simp
    rw [Lib.compactUpTo_succ]
    by_cases hk : Lib.keeps d m = true
    · rw [if_pos hk]
      have hlt : ∀ x ∈ Lib.compactUpTo d m, x < d[m]! := by
        intro x hx
        rcases Nat.eq_zero_or_pos m with h0 | h0
        · subst h0; simp [Lib.compactUpTo] at hx
        · have hne : d[m]! ≠ d[m - 1]! := by
            intro e
            rw [Lib.keeps_neg h0 e] at hk
            cases hk
          have hxj := h3 x hx (m - 1) (by omega)
          refine bs_lt (hle x hx) ?_
          intro e
          have hm1 : d[m - 1]! ≤ d[m]! := by
            have hmem : d[m - 1]! ∈ d.toList.take m := by
              have : m - 1 < d.size := by omega
              rw [show d[m - 1]! = d[m - 1] by simp [this], List.mem_take_iff_getElem]
              exact ⟨m - 1, by simp; omega, by simp⟩
            have hp := hd
            rw [← List.take_append_drop m d.toList, List.pairwise_append] at hp
            refine hp.2.2 _ hmem _ ?_
            rw [List.drop_eq_getElem_cons (by simpa using hmd), hget]
            simp
          rw [e] at hxj
          exact hne (List.le_antisymm hxj hm1)
      refine ⟨asc_push h1 hlt, fun x => ?_, fun x hx j hj => ?_⟩
      · rw [htake, List.mem_append, List.mem_append, h2]
      · obtain rfl : j = m := by omega
        rcases List.mem_append.1 hx with h | h
        · exact hle x h
        · simp only [List.mem_singleton] at h; rw [h]; exact List.le_refl _
    · have hk' : Lib.keeps d m = false := by simpa using hk
      rw [if_neg hk, List.append_nil]
      have h0 : 0 < m := by
        rcases Nat.eq_zero_or_pos m with h0 | h0
        · subst h0; rw [Lib.keeps_lt_one d 0 (by omega)] at hk'; cases hk'
        · exact h0
      have he : d[m]! = d[m - 1]! := by
        apply Classical.byContradiction
        intro hne
        rw [Lib.keeps_pos hne] at hk'
        cases hk'
      refine ⟨h1, fun x => ?_, fun x hx j hj => ?_⟩
      · rw [htake, List.mem_append, h2]
        constructor
        · exact Or.inl
        · rintro (h | h)
          · exact h
          · simp only [List.mem_singleton] at h
            rw [h, he]
            have : m - 1 < d.size := by omega
            rw [show d[m - 1]! = d[m - 1] by simp [this], List.mem_take_iff_getElem]
            exact ⟨m - 1, by simp; omega, by simp⟩
      · obtain rfl : j = m := by omega
        exact hle x hx
def sortB (ls : List Bs) : List Bs := ls.mergeSort fun x y => decide (x ≤ y)
def setB (ls : List Bs) : List Bs := Lib.compact (sortB ls)
theorem sortB_le (ls : List Bs) : (sortB ls).Pairwise (· ≤ ·) := by
  have := List.pairwise_mergeSort (le := fun (x y : Bs) => decide (x ≤ y)) (fun a b c h1 h2 => by simp at *; exact List.le_trans h1 h2) (fun a b => by simp; exact List.le_total a b) ls
  unfold sortB
  simpa using this
theorem sortB_mem (ls : List Bs) (x : Bs) : x ∈ sortB ls ↔ x ∈ ls := (List.mergeSort_perm ls _).mem_iff
theorem sortB_len (ls : List Bs) : (sortB ls).length = ls.length := (List.mergeSort_perm ls _).length_eq
theorem setB_asc (ls : List Bs) : Asc (setB ls) := (mem_compactUpTo (sortB ls).toArray (by simpa using sortB_le ls) _ (by simp)).1
theorem setB_mem (ls : List Bs) (x : Bs) : x ∈ setB ls ↔ x ∈ ls := by
  have := (mem_compactUpTo (sortB ls).toArray (by simpa using sortB_le ls) (sortB ls).length (by simp)).2.1 x
  rw [show setB ls = Lib.compactUpTo (sortB ls).toArray (sortB ls).length from rfl, this]
  simp [sortB_mem]
theorem compact_len (zs : List Bs) : (Lib.compact zs).length ≤ zs.length := by
  show (((List.range zs.length).filter _).map _).length ≤ _
  rw [List.length_map]
  exact Nat.le_trans (List.length_filter_le _ _) (by simp)
structure InsInv (l : List Bs) (s : Bs) (k : Nat) (d : Bool) (out : List Bs) : Prop where
  asc : Asc out
  mem : ∀ x, x ∈ out ↔ x ∈ l.take k ∨ (d = true ∧ x = s)
  big : d = true → ∃ y ∈ l.take k, s < y
  small : d = false → ∀ x ∈ l.take k, x < s
  len : out.length ≤ k + (if d then 1 else 0)
theorem InsInv.start (l : List Bs) (s : Bs) : InsInv l s 0 false [] := ⟨by simp [Asc], by simp, by simp, by simp, by simp⟩
theorem take_snoc {l : List Bs} {k : Nat} {y : Bs} (hy : l[k]? = some y) : l.take (k + 1) = l.take k ++ [y] := by
  rw [List.take_add_one, hy]; rfl
theorem InsInv.after {l : List Bs} {s : Bs} {k : Nat} {out : List Bs} {y : Bs} (h : InsInv l s k true out) (hl : Asc l) (hy : l[k]? = some y) : InsInv l s (k + 1) true (out ++ [y]) := by
  obtain ⟨z, hz, hsz⟩ := h.big rfl
  refine ⟨asc_push h.asc fun x hx => ?_, fun x => ?_, fun _ => ⟨z, by rw [take_snoc hy]; simp [hz], hsz⟩, by simp, by have := h.len; simp at this ⊢; omega⟩
  · rcases (h.mem x).1 hx with h' | ⟨_, h'⟩
    · exact asc_get hl h' hy
    · rw [h']; exact List.lt_trans hsz (asc_get hl hz hy)
  · rw [take_snoc hy]
    simp only [List.mem_append, List.mem_singleton, h.mem]
    constructor
    · rintro ((h | h) | h)
      · exact .inl (.inl h)
      · exact .inr h
      · exact .inl (.inr h)
    · rintro ((h | h) | h)
      · exact .inl (.inl h)
      · exact .inr h
      · exact .inl (.inr h)
def InsRes (l : List Bs) (s : Bs) (r : List Bs) : Prop := Asc r ∧ (∀ x, x ∈ r ↔ x ∈ l ∨ x = s) ∧ r.length ≤ l.length + 1
theorem InsRes.same {l : List Bs} {s : Bs} (h : Asc l) (hs : s ∈ l) : InsRes l s l := ⟨h, fun x => ⟨Or.inl, fun h' => by rcases h' with h' | h'; exact h'; rw [h']; exact hs⟩, by omega⟩
end Go.Proofs.YtijmnenojbfdnaaGreatDoor

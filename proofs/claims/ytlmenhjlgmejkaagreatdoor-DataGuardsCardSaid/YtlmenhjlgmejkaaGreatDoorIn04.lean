/- Texts of this seat, merged. -/
import Derived.Shelf.Strings.Builder1
import Derived.Shelf.Small.Bits
import Derived.Shelf.Small.Wraps
import Derived.Shelf.Strings.BuilderF
import Derived.Shelf.Strings.BuilderK
import Derived.Shelf.Strconv.Itoa0
import Derived.Shelf.Strconv.Itoa1
import Derived.Shelf.LaysM
import Derived.Shelf.Strconv.Itoa2
import Derived.Shelf.Strconv.Itoa3
import Derived.Shelf.Sort.Plain
import Derived.Shelf.Strings.BuilderCap
import Derived.Shelf.Slices.Turned
import Derived.Shelf.Slices.Reverse
import Derived.Shelf.Slices.Equal
import Derived.Ground.Names2Prog
import Derived.Shelf.Slices.Clone
import Derived.Shelf.Slices.CompactS
import Derived.Shelf.Slices.Cells
import Derived.Shelf.Slices.In.SortNone
import Derived.Shelf.Slices.Empties2
import Derived.Test.YtlmenhjlgmejkaaGreatDoorProg
import Derived.Sort.OwnSorted
import Derived.Lib.Bytes
import Derived.Deep.QuietTactic
import Derived.BigQuiet
import Derived.WalkKit
import Derived.WalkSpells
import Derived.WalkLawsBesides
import Derived.Lib.Hide
import Derived.Deep.Draws
import Derived.Deep.OwnRows
import Derived.Deep.RegionHeld3
import Derived.Outline
import Derived.Shelf.Abstract
import Derived.Laws.IdiomStrings
import Derived.Deep.Light
import Derived.Lib.SlicesCompact
import Derived.Maps.AppendAt
import Derived.Deep.AppendLies
import Derived.RegionTactic
import Derived.OwnWalk
import Derived.Maps.OwnOps
import Derived.Maps.OwnSet
import Derived.Maps.Views
import Derived.StringKeys
import Derived.Test.YtlmenhjlgmejkaaGreatDoorIn01
import Derived.Test.YtlmenhjlgmejkaaGreatDoorIn02
import Derived.Test.YtlmenhjlgmejkaaGreatDoorIn03
set_option linter.unusedSimpArgs false
set_option linter.unusedVariables false
namespace Go.Proofs
open Go.Shelf
def Tryz.lays169_ren : Go.Shelf.Ren := ⟨fun | 169 => 116 | n => n, fun | 70 => 164 | 9 => 9 | 0 => 0 | 72 => 166 | 37 => 91 | 127 => 198 | 3 => 3 | 5 => 5 | n => n, fun | n => n⟩
theorem Tryz.lays169 : Go.Proofs.Lays.n169 Tryz.prog Tryz.lays169_ren := {
  mixed := by kernel_rfl
  f169 := Tryz.func116.trans (congrArg some (by kernel_rfl))
  t0 := Tryz.underlying0
  a0 := Tryz.isAgg0
  z0 := Tryz.sizeOf0
  v0 := Tryz.zeroValue0
  t3 := Tryz.underlying3
  a3 := Tryz.isAgg3
  z3 := Tryz.sizeOf3
  v3 := Tryz.zeroValue3
  t9 := Tryz.underlying9
  a9 := Tryz.isAgg9
  z9 := Tryz.sizeOf9
  v9 := Tryz.zeroValue9
  t37 := Tryz.underlying91
  a37 := Tryz.isAgg91
  z37 := Tryz.sizeOf91
  v37 := Tryz.zeroValue91
  t70 := Tryz.underlying164
  a70 := Tryz.isAgg164
  z70 := Tryz.sizeOf164
  v70 := Tryz.zeroValue164
  t72 := Tryz.underlying166
  a72 := Tryz.isAgg166
  z72 := Tryz.sizeOf166
  v72 := Tryz.zeroValue166
  t127 := Tryz.underlying198
  a127 := Tryz.isAgg198
  z127 := Tryz.sizeOf198
  v127 := Tryz.zeroValue198 }
theorem Tryz.Builder_Extra_169 : Builder.Extra Tryz.prog Tryz.lays169_ren := {
  sizeBuilder := by kernel_rfl
  liesBuilder := by kernel_rfl
  t5 := Tryz.underlying5
  a5 := Tryz.isAgg5
  z5 := Tryz.sizeOf5
  v5 := Tryz.zeroValue5
  infoByte := by kernel_rfl
  cellsByte := by kernel_rfl
  sizeByte := by kernel_rfl
  neB5 := by decide }
def Tryz.lays128_ren : Go.Shelf.Ren := ⟨fun | 128 => 207 | n => n, fun | 51 => 228 | 3 => 3 | 4 => 4 | 46 => 189 | 5 => 5 | 9 => 9 | n => n, fun | n => n⟩
def Tryz.lays125_ren : Go.Shelf.Ren := ⟨fun | 125 => 189 | 128 => 207 | 129 => 208 | n => n, fun | 46 => 189 | 3 => 3 | 51 => 228 | 53 => 212 | 4 => 4 | 5 => 5 | 9 => 9 | n => n, fun | n => n⟩
def Tryz.lays214_ren : Go.Shelf.Ren := ⟨fun | 214 => 177 | n => n, fun | 4 => 4 | 9 => 9 | n => n, fun | n => n⟩
def Tryz.lays121_ren : Go.Shelf.Ren := ⟨fun | 121 => 153 | 214 => 177 | n => n, fun | 4 => 4 | 9 => 9 | n => n, fun | n => n⟩
theorem Tryz.lays121 : Go.Proofs.Lays.n121 Tryz.prog Tryz.lays121_ren := {
  mixed := by kernel_rfl
  f121 := Tryz.func153.trans (congrArg some (by kernel_rfl))
  f214 := Tryz.func177.trans (congrArg some (by kernel_rfl))
  t4 := Tryz.underlying4
  a4 := Tryz.isAgg4
  z4 := Tryz.sizeOf4
  v4 := Tryz.zeroValue4
  t9 := Tryz.underlying9
  a9 := Tryz.isAgg9
  z9 := Tryz.sizeOf9
  v9 := Tryz.zeroValue9 }
open Go.RowKit in
theorem Tryz.strconv_FormatBool (b : Bool) (w : World) :
    Calls Tryz.prog 153 #[.bool b] w fun e w' => e = .returned (.string ⟨(Lib.formatBool b).toArray⟩) ∧ w' = w := Any.strconv_FormatBool Tryz.lays121 b w
open Go.RowKit in
theorem Tryz.Builder_String_any_k (B b : Nat) (l : List UInt8) (w : World) (h : Lib.IsBuilderF 166 5 B b (Lib.byteCells l) w) (hBw : B ≤ w.heap.size) :
    Calls Tryz.prog 116 #[.pointer (some ⟨b, 0, none⟩)] w fun e w' => e = .returned (.string ⟨l.toArray⟩) ∧ (Lib.IsBuilderF 166 5 B b (Lib.byteCells l) w' ∧ Below B w w' ∧ Lib.OthersKept 5 (some b) w w') := Any.Builder_String_any_k Tryz.lays169 Tryz.Builder_Extra_169 B b l w h hBw
def Tryz.lays129_ren : Go.Shelf.Ren := ⟨fun | 129 => 208 | n => n, fun | 53 => 212 | 3 => 3 | 4 => 4 | 46 => 189 | 5 => 5 | 9 => 9 | n => n, fun | n => n⟩
def Tryz.lays317_ren : Go.Shelf.Ren := ⟨fun | 317 => 209 | n => n, fun | 3 => 3 | 46 => 189 | n => n, fun | n => n⟩
def Tryz.lays318_ren : Go.Shelf.Ren := ⟨fun | 318 => 210 | n => n, fun | 3 => 3 | 4 => 4 | n => n, fun | n => n⟩
def Tryz.lays283_ren : Go.Shelf.Ren := ⟨fun | 283 => 190 | n => n, fun | 3 => 3 | 9 => 9 | 4 => 4 | n => n, fun | n => n⟩
def Tryz.laysM284_ren : Go.Shelf.Ren := ⟨fun | 284 => 191 | 129 => 208 | 317 => 209 | 318 => 210 | n => n, fun | 53 => 212 | 3 => 3 | 212 => 231 | 0 => 0 | 4 => 4 | 46 => 189 | 5 => 5 | 9 => 9 | n => n, fun | 17 => 0 | n => n⟩
def Tryz.lays285_ren : Go.Shelf.Ren := ⟨fun | 285 => 192 | n => n, fun | 37 => 91 | 53 => 212 | 3 => 3 | 4 => 4 | 51 => 228 | 9 => 9 | 5 => 5 | 0 => 0 | n => n, fun | n => n⟩
def Tryz.laysM246_ren : Go.Shelf.Ren := ⟨fun | 246 => 176 | 283 => 190 | 284 => 191 | 285 => 192 | 286 => 193 | 129 => 208 | 317 => 209 | 318 => 210 | 319 => 211 | 320 => 212 | 337 => 222 | 338 => 223 | n => n, fun | 2 => 2 | 3 => 3 | 9 => 9 | 4 => 4 | 171 => 211 | 0 => 0 | 53 => 212 | 37 => 91 | 5 => 5 | 173 => 215 | 212 => 231 | 51 => 228 | 20 => 20 | 213 => 232 | 46 => 189 | 232 => 241 | 233 => 242 | n => n, fun | 17 => 0 | 18 => 1 | 19 => 2 | n => n⟩
def Tryz.lays246_ren : Go.Shelf.Ren := ⟨fun | 246 => 176 | 283 => 190 | 284 => 191 | 285 => 192 | 286 => 193 | 129 => 208 | 317 => 209 | 318 => 210 | 319 => 211 | 320 => 212 | 337 => 222 | 338 => 223 | n => n, fun | 2 => 2 | 3 => 3 | 9 => 9 | 4 => 4 | 171 => 211 | 0 => 0 | 53 => 212 | 37 => 91 | 5 => 5 | 173 => 215 | 212 => 231 | 51 => 228 | 20 => 20 | 213 => 232 | 46 => 189 | 232 => 241 | 233 => 242 | n => n, fun | 17 => 0 | 18 => 1 | 19 => 2 | n => n⟩
def Tryz.laysM243_ren : Go.Shelf.Ren := ⟨fun | 243 => 152 | 246 => 176 | 283 => 190 | 284 => 191 | 285 => 192 | 286 => 193 | 129 => 208 | 317 => 209 | 318 => 210 | 319 => 211 | 320 => 212 | 337 => 222 | 338 => 223 | n => n, fun | 3 => 3 | 9 => 9 | 2 => 2 | 4 => 4 | 171 => 211 | 0 => 0 | 53 => 212 | 37 => 91 | 5 => 5 | 173 => 215 | 212 => 231 | 51 => 228 | 20 => 20 | 213 => 232 | 46 => 189 | 232 => 241 | 233 => 242 | n => n, fun | 17 => 0 | 18 => 1 | 19 => 2 | n => n⟩
def Tryz.lays243_ren : Go.Shelf.Ren := ⟨fun | 243 => 152 | 246 => 176 | 283 => 190 | 284 => 191 | 285 => 192 | 286 => 193 | 129 => 208 | 317 => 209 | 318 => 210 | 319 => 211 | 320 => 212 | 337 => 222 | 338 => 223 | n => n, fun | 3 => 3 | 9 => 9 | 2 => 2 | 4 => 4 | 171 => 211 | 0 => 0 | 53 => 212 | 37 => 91 | 5 => 5 | 173 => 215 | 212 => 231 | 51 => 228 | 20 => 20 | 213 => 232 | 46 => 189 | 232 => 241 | 233 => 242 | n => n, fun | 17 => 0 | 18 => 1 | 19 => 2 | n => n⟩
def Tryz.laysM171_ren : Go.Shelf.Ren := ⟨fun | 171 => 114 | 243 => 152 | 246 => 176 | 283 => 190 | 284 => 191 | 285 => 192 | 286 => 193 | 129 => 208 | 317 => 209 | 318 => 210 | 319 => 211 | 320 => 212 | 337 => 222 | 338 => 223 | n => n, fun | 3 => 3 | 9 => 9 | 2 => 2 | 4 => 4 | 171 => 211 | 0 => 0 | 53 => 212 | 37 => 91 | 5 => 5 | 173 => 215 | 212 => 231 | 51 => 228 | 20 => 20 | 213 => 232 | 46 => 189 | 232 => 241 | 233 => 242 | n => n, fun | 17 => 0 | 18 => 1 | 19 => 2 | n => n⟩
theorem Tryz.laysM171 : Go.Proofs.LaysM.n171 Tryz.prog Tryz.laysM171_ren := {
  mixed := by kernel_rfl
  f129 := Tryz.func208.trans (congrArg some (by kernel_rfl))
  f171 := Tryz.func114.trans (congrArg some (by kernel_rfl))
  f243 := Tryz.func152.trans (congrArg some (by kernel_rfl))
  f246 := Tryz.func176.trans (congrArg some (by kernel_rfl))
  f283 := Tryz.func190.trans (congrArg some (by kernel_rfl))
  f284 := Tryz.func191.trans (congrArg some (by kernel_rfl))
  f285 := Tryz.func192.trans (congrArg some (by kernel_rfl))
  f286 := Tryz.func193.trans (congrArg some (by kernel_rfl))
  f317 := Tryz.func209.trans (congrArg some (by kernel_rfl))
  f318 := Tryz.func210.trans (congrArg some (by kernel_rfl))
  f319 := Tryz.func211.trans (congrArg some (by kernel_rfl))
  f320 := Tryz.func212.trans (congrArg some (by kernel_rfl))
  f337 := Tryz.func222.trans (congrArg some (by kernel_rfl))
  f338 := Tryz.func223.trans (congrArg some (by kernel_rfl))
  t0 := Tryz.underlying0
  a0 := Tryz.isAgg0
  z0 := Tryz.sizeOf0
  v0 := Tryz.zeroValue0
  t2 := Tryz.underlying2
  a2 := Tryz.isAgg2
  z2 := Tryz.sizeOf2
  v2 := Tryz.zeroValue2
  t3 := Tryz.underlying3
  a3 := Tryz.isAgg3
  z3 := Tryz.sizeOf3
  v3 := Tryz.zeroValue3
  t4 := Tryz.underlying4
  a4 := Tryz.isAgg4
  z4 := Tryz.sizeOf4
  v4 := Tryz.zeroValue4
  t5 := Tryz.underlying5
  a5 := Tryz.isAgg5
  z5 := Tryz.sizeOf5
  v5 := Tryz.zeroValue5
  t9 := Tryz.underlying9
  a9 := Tryz.isAgg9
  z9 := Tryz.sizeOf9
  v9 := Tryz.zeroValue9
  t20 := Tryz.underlying20
  a20 := Tryz.isAgg20
  z20 := Tryz.sizeOf20
  v20 := Tryz.zeroValue20
  t37 := Tryz.underlying91
  a37 := Tryz.isAgg91
  z37 := Tryz.sizeOf91
  v37 := Tryz.zeroValue91
  t46 := Tryz.underlying189
  a46 := Tryz.isAgg189
  z46 := Tryz.sizeOf189
  v46 := Tryz.zeroValue189
  t51 := Tryz.underlying228
  a51 := Tryz.isAgg228
  z51 := Tryz.sizeOf228
  v51 := Tryz.zeroValue228
  t53 := Tryz.underlying212
  a53 := Tryz.isAgg212
  z53 := Tryz.sizeOf212
  v53 := Tryz.zeroValue212
  t171 := Tryz.underlying211
  a171 := Tryz.isAgg211
  z171 := Tryz.sizeOf211
  v171 := Tryz.zeroValue211
  t173 := Tryz.underlying215
  a173 := Tryz.isAgg215
  z173 := Tryz.sizeOf215
  v173 := Tryz.zeroValue215
  t212 := Tryz.underlying231
  a212 := Tryz.isAgg231
  z212 := Tryz.sizeOf231
  v212 := Tryz.zeroValue231
  t213 := Tryz.underlying232
  a213 := Tryz.isAgg232
  z213 := Tryz.sizeOf232
  t232 := Tryz.underlying241
  a232 := Tryz.isAgg241
  z232 := Tryz.sizeOf241
  v232 := Tryz.zeroValue241
  t233 := Tryz.underlying242
  a233 := Tryz.isAgg242
  z233 := Tryz.sizeOf242
  v233 := Tryz.zeroValue242
  g17 := by kernel_rfl
  g18 := by kernel_rfl
  g19 := by kernel_rfl
  i0 := by kernel_rfl
  i2 := by kernel_rfl
  i3 := by kernel_rfl
  i4 := by kernel_rfl
  i5 := by kernel_rfl
  i9 := by kernel_rfl
  i20 := by kernel_rfl
  i37 := by kernel_rfl
  i46 := by kernel_rfl
  i51 := by kernel_rfl
  i53 := by kernel_rfl
  i171 := by kernel_rfl
  i173 := by kernel_rfl
  i212 := by kernel_rfl
  i232 := by kernel_rfl
  i233 := by kernel_rfl
  m17 := by kernel_rfl
  m18 := by kernel_rfl
  m19 := by kernel_rfl }
open Go.RowKit Go.Sort Go.Lib in
theorem Tryz.strconv_Itoa (n : Int) (h0 : -9223372036854775808 ≤ n) (h1 : n ≤ 9223372036854775807) (w : World) (htab : Lib.TabIs Tryz.prog w "internal/strconv.uint64pow10" .u64 Lib.pow10Tab) :
    Calls Tryz.prog 114 #[.int .i64 n] w fun e w' => e = .returned (.string ⟨(Lib.itoa n).toArray⟩) ∧ ∃ k os, w' = grow (w.drewN k) os := Any.strconv_Itoa Tryz.laysM171 n h0 h1 w htab
def Tryz.lays171_ren : Go.Shelf.Ren := ⟨fun | 171 => 114 | 243 => 152 | 246 => 176 | 283 => 190 | 284 => 191 | 285 => 192 | 286 => 193 | 129 => 208 | 317 => 209 | 318 => 210 | 319 => 211 | 320 => 212 | 337 => 222 | 338 => 223 | n => n, fun | 3 => 3 | 9 => 9 | 2 => 2 | 4 => 4 | 171 => 211 | 0 => 0 | 53 => 212 | 37 => 91 | 5 => 5 | 173 => 215 | 212 => 231 | 51 => 228 | 20 => 20 | 213 => 232 | 46 => 189 | 232 => 241 | 233 => 242 | n => n, fun | 17 => 0 | 18 => 1 | 19 => 2 | n => n⟩
def Tryz.lays190_ren : Go.Shelf.Ren := ⟨fun | 190 => 173 | 125 => 189 | 258 => 188 | 128 => 207 | 129 => 208 | 302 => 198 | 303 => 199 | 304 => 200 | 305 => 201 | 306 => 202 | 307 => 203 | 308 => 204 | 309 => 205 | 310 => 206 | 333 => 216 | 329 => 217 | 330 => 218 | 334 => 219 | 335 => 220 | 336 => 221 | 344 => 224 | n => n, fun | 31 => 115 | 9 => 9 | 3 => 3 | 46 => 189 | 0 => 0 | 51 => 228 | 53 => 212 | 4 => 4 | 183 => 221 | 182 => 220 | 131 => 129 | 5 => 5 | 218 => 234 | 222 => 67 | 228 => 239 | 229 => 69 | n => n, fun | n => n⟩
theorem Tryz.lays190 : Go.Proofs.Lays.n190 Tryz.prog Tryz.lays190_ren := {
  mixed := by kernel_rfl
  f125 := Tryz.func189.trans (congrArg some (by kernel_rfl))
  f128 := Tryz.func207.trans (congrArg some (by kernel_rfl))
  f129 := Tryz.func208.trans (congrArg some (by kernel_rfl))
  f190 := Tryz.func173.trans (congrArg some (by kernel_rfl))
  f258 := Tryz.func188.trans (congrArg some (by kernel_rfl))
  f302 := Tryz.func198.trans (congrArg some (by kernel_rfl))
  f303 := Tryz.func199.trans (congrArg some (by kernel_rfl))
  f304 := Tryz.func200.trans (congrArg some (by kernel_rfl))
  f305 := Tryz.func201.trans (congrArg some (by kernel_rfl))
  f306 := Tryz.func202.trans (congrArg some (by kernel_rfl))
  f307 := Tryz.func203.trans (congrArg some (by kernel_rfl))
  f308 := Tryz.func204.trans (congrArg some (by kernel_rfl))
  f309 := Tryz.func205.trans (congrArg some (by kernel_rfl))
  f310 := Tryz.func206.trans (congrArg some (by kernel_rfl))
  f329 := Tryz.func217.trans (congrArg some (by kernel_rfl))
  f330 := Tryz.func218.trans (congrArg some (by kernel_rfl))
  f333 := Tryz.func216.trans (congrArg some (by kernel_rfl))
  f334 := Tryz.func219.trans (congrArg some (by kernel_rfl))
  f335 := Tryz.func220.trans (congrArg some (by kernel_rfl))
  f336 := Tryz.func221.trans (congrArg some (by kernel_rfl))
  f344 := Tryz.func224.trans (congrArg some (by kernel_rfl))
  t0 := Tryz.underlying0
  a0 := Tryz.isAgg0
  z0 := Tryz.sizeOf0
  v0 := Tryz.zeroValue0
  t3 := Tryz.underlying3
  a3 := Tryz.isAgg3
  z3 := Tryz.sizeOf3
  v3 := Tryz.zeroValue3
  t4 := Tryz.underlying4
  a4 := Tryz.isAgg4
  z4 := Tryz.sizeOf4
  v4 := Tryz.zeroValue4
  t5 := Tryz.underlying5
  a5 := Tryz.isAgg5
  z5 := Tryz.sizeOf5
  v5 := Tryz.zeroValue5
  t9 := Tryz.underlying9
  a9 := Tryz.isAgg9
  z9 := Tryz.sizeOf9
  v9 := Tryz.zeroValue9
  t31 := Tryz.underlying115
  a31 := Tryz.isAgg115
  z31 := Tryz.sizeOf115
  v31 := Tryz.zeroValue115
  t46 := Tryz.underlying189
  a46 := Tryz.isAgg189
  z46 := Tryz.sizeOf189
  v46 := Tryz.zeroValue189
  t51 := Tryz.underlying228
  a51 := Tryz.isAgg228
  z51 := Tryz.sizeOf228
  v51 := Tryz.zeroValue228
  t53 := Tryz.underlying212
  a53 := Tryz.isAgg212
  z53 := Tryz.sizeOf212
  v53 := Tryz.zeroValue212
  t131 := Tryz.underlying129
  a131 := Tryz.isAgg129
  z131 := Tryz.sizeOf129
  v131 := Tryz.zeroValue129
  t182 := Tryz.underlying220
  a182 := Tryz.isAgg220
  z182 := Tryz.sizeOf220
  v182 := Tryz.zeroValue220
  t183 := Tryz.underlying221
  a183 := Tryz.isAgg221
  z183 := Tryz.sizeOf221
  v183 := Tryz.zeroValue221
  t218 := Tryz.underlying234
  a218 := Tryz.isAgg234
  z218 := Tryz.sizeOf234
  v218 := Tryz.zeroValue234
  t222 := Tryz.underlying67
  a222 := Tryz.isAgg67
  z222 := Tryz.sizeOf67
  v222 := Tryz.zeroValue67
  t228 := Tryz.underlying239
  a228 := Tryz.isAgg239
  z228 := Tryz.sizeOf239
  v228 := Tryz.zeroValue239
  t229 := Tryz.underlying69
  a229 := Tryz.isAgg69
  z229 := Tryz.sizeOf69
  v229 := Tryz.zeroValue69 }
open Go.Sort Go.RowKit in
theorem Tryz.slices_Sort_string (blk off cap : Nat) (ss : List (List UInt8)) (w : World) (hH : Holds encStr w blk off ss.toArray) (hblk : blk < w.heap.size) (hsz : ss.length < 4611686018427387904) :
    Calls Tryz.prog 173 #[.slice (some ⟨blk, off, none⟩) ss.length cap] w fun e w' =>
      e = .returned (.tuple #[]) ∧ ∃ n os, w' = grow (putRow encStr (Sort.ahead w n) blk off (ss.mergeSort fun x y => decide (x ≤ y)).toArray) os := Any.slices_Sort_string Tryz.lays190 blk off cap ss w hH hblk hsz
def Tryz.lays108_ren : Go.Shelf.Ren := ⟨fun | 108 => 83 | n => n, fun | 28 => 31 | 3 => 3 | 0 => 0 | 4 => 4 | n => n, fun | n => n⟩
def Tryz.lays107_ren : Go.Shelf.Ren := ⟨fun | 107 => 32 | 108 => 83 | n => n, fun | 28 => 31 | 3 => 3 | 4 => 4 | 0 => 0 | n => n, fun | n => n⟩
def Tryz.lays109_ren : Go.Shelf.Ren := ⟨fun | 109 => 163 | n => n, fun | 31 => 115 | 9 => 9 | 3 => 3 | 0 => 0 | 4 => 4 | n => n, fun | n => n⟩
theorem Tryz.lays109 : Go.Proofs.Lays.n109 Tryz.prog Tryz.lays109_ren := {
  mixed := by kernel_rfl
  f109 := Tryz.func163.trans (congrArg some (by kernel_rfl))
  t0 := Tryz.underlying0
  a0 := Tryz.isAgg0
  z0 := Tryz.sizeOf0
  v0 := Tryz.zeroValue0
  t3 := Tryz.underlying3
  a3 := Tryz.isAgg3
  z3 := Tryz.sizeOf3
  v3 := Tryz.zeroValue3
  t4 := Tryz.underlying4
  a4 := Tryz.isAgg4
  z4 := Tryz.sizeOf4
  v4 := Tryz.zeroValue4
  t9 := Tryz.underlying9
  a9 := Tryz.isAgg9
  z9 := Tryz.sizeOf9
  v9 := Tryz.zeroValue9
  t31 := Tryz.underlying115
  a31 := Tryz.isAgg115
  z31 := Tryz.sizeOf115
  v31 := Tryz.zeroValue115 }
open Go.Lib in
theorem Tryz.slices_Index_string (b off n c : Nat) (zs : List ByteArray) (x : ByteArray) (w : World) (hz : n ≤ zs.length) (hbig : n ≤ 9223372036854775807) (hc : ∀ j, j < zs.length → w.cell? ⟨b, off + j, none⟩ = some (.string (zs.getD j ByteArray.empty))) :
    Calls Tryz.prog 163 #[.slice (some ⟨b, off, none⟩) n c, .string x] w fun e w' => e = .returned (.int .i64 (Lib.idxOfS (zs.take n) x)) ∧ w' = w := Any.slices_Index_string Tryz.lays109 b off n c zs x w hz hbig hc
open Go.Lib in
theorem Tryz.slices_Index_string_empty (a : Option Addr) (c : Nat) (x : ByteArray) (w : World) :
    Calls Tryz.prog 163 #[.slice a 0 c, .string x] w fun e w' => e = .returned (.int .i64 (Lib.idxOfS [] x)) ∧ w' = w := Any.slices_Index_string_empty Tryz.lays109 a c x w
def Tryz.lays113_ren : Go.Shelf.Ren := ⟨fun | 113 => 133 | n => n, fun | 28 => 31 | 3 => 3 | 4 => 4 | 9 => 9 | 20 => 20 | 0 => 0 | n => n, fun | n => n⟩
theorem Tryz.lays113 : Go.Proofs.Lays.n113 Tryz.prog Tryz.lays113_ren := {
  mixed := by kernel_rfl
  f113 := Tryz.func133.trans (congrArg some (by kernel_rfl))
  t0 := Tryz.underlying0
  a0 := Tryz.isAgg0
  z0 := Tryz.sizeOf0
  v0 := Tryz.zeroValue0
  t3 := Tryz.underlying3
  a3 := Tryz.isAgg3
  z3 := Tryz.sizeOf3
  v3 := Tryz.zeroValue3
  t4 := Tryz.underlying4
  a4 := Tryz.isAgg4
  z4 := Tryz.sizeOf4
  v4 := Tryz.zeroValue4
  t9 := Tryz.underlying9
  a9 := Tryz.isAgg9
  z9 := Tryz.sizeOf9
  v9 := Tryz.zeroValue9
  t20 := Tryz.underlying20
  a20 := Tryz.isAgg20
  z20 := Tryz.sizeOf20
  v20 := Tryz.zeroValue20
  t28 := Tryz.underlying31
  a28 := Tryz.isAgg31
  z28 := Tryz.sizeOf31
  v28 := Tryz.zeroValue31 }
open Go.Lib in
theorem Tryz.slices_Max_int (b off n c : Nat) (zs : List Int) (w : World) (hn : 0 < n) (hz : n ≤ zs.length) (hbig : n ≤ 9223372036854775807) (hc : ∀ j, j < zs.length → w.cell? ⟨b, off + j, none⟩ = some (.int .i64 (zs.getD j 0))) :
    Calls Tryz.prog 133 #[.slice (some ⟨b, off, none⟩) n c] w fun e w' => e = .returned (.int .i64 (Lib.maxOf (zs.take n))) ∧ w' = w := Any.slices_Max_int Tryz.lays113 b off n c zs w hn hz hbig hc
def Tryz.lays112_ren : Go.Shelf.Ren := ⟨fun | 112 => 118 | n => n, fun | 28 => 31 | 3 => 3 | 4 => 4 | 0 => 0 | n => n, fun | n => n⟩
theorem Tryz.lays112 : Go.Proofs.Lays.n112 Tryz.prog Tryz.lays112_ren := {
  mixed := by kernel_rfl
  f112 := Tryz.func118.trans (congrArg some (by kernel_rfl))
  t0 := Tryz.underlying0
  a0 := Tryz.isAgg0
  z0 := Tryz.sizeOf0
  v0 := Tryz.zeroValue0
  t3 := Tryz.underlying3
  a3 := Tryz.isAgg3
  z3 := Tryz.sizeOf3
  v3 := Tryz.zeroValue3
  t4 := Tryz.underlying4
  a4 := Tryz.isAgg4
  z4 := Tryz.sizeOf4
  v4 := Tryz.zeroValue4
  t28 := Tryz.underlying31
  a28 := Tryz.isAgg31
  z28 := Tryz.sizeOf31
  v28 := Tryz.zeroValue31 }
open Go.RowKit Go.Lib Go.Sort in
theorem Tryz.slices_Reverse_int_empty (a : Option Addr) (cap : Nat) (w : World) :
    Calls Tryz.prog 118 #[.slice a 0 cap] w fun e w' => e = .returned (.tuple #[]) ∧ w' = w := Any.slices_Reverse_int_empty Tryz.lays112 a cap w
def Tryz.lays111_ren : Go.Shelf.Ren := ⟨fun | 111 => 38 | n => n, fun | 28 => 31 | 3 => 3 | 4 => 4 | 0 => 0 | n => n, fun | n => n⟩
theorem Tryz.lays111 : Go.Proofs.Lays.n111 Tryz.prog Tryz.lays111_ren := {
  mixed := by kernel_rfl
  f111 := Tryz.func38.trans (congrArg some (by kernel_rfl))
  t0 := Tryz.underlying0
  a0 := Tryz.isAgg0
  z0 := Tryz.sizeOf0
  v0 := Tryz.zeroValue0
  t3 := Tryz.underlying3
  a3 := Tryz.isAgg3
  z3 := Tryz.sizeOf3
  v3 := Tryz.zeroValue3
  t4 := Tryz.underlying4
  a4 := Tryz.isAgg4
  z4 := Tryz.sizeOf4
  v4 := Tryz.zeroValue4
  t28 := Tryz.underlying31
  a28 := Tryz.isAgg31
  z28 := Tryz.sizeOf31
  v28 := Tryz.zeroValue31 }
open Go.RowKit Go.Lib in
theorem Tryz.slices_Equal_int (b1 o1 n c b2 o2 m d : Nat) (xs ys : List Int) (w : World) (hx : n ≤ xs.length) (hy : m ≤ ys.length) (hbig : n ≤ 9223372036854775807) (hbig2 : m ≤ 9223372036854775807) (hc1 : ∀ j, j < xs.length → w.cell? ⟨b1, o1 + j, none⟩ = some (.int .i64 (xs.getD j 0))) (hc2 : ∀ j, j < ys.length → w.cell? ⟨b2, o2 + j, none⟩ = some (.int .i64 (ys.getD j 0))) :
    Calls Tryz.prog 38 #[.slice (some ⟨b1, o1, none⟩) n c, .slice (some ⟨b2, o2, none⟩) m d] w fun e w' => e = .returned (.bool (xs.take n == ys.take m)) ∧ ∃ q, w' = w.drewN q := Any.slices_Equal_int Tryz.lays111 b1 o1 n c b2 o2 m d xs ys w hx hy hbig hbig2 hc1 hc2
open Go.RowKit Go.Lib in
theorem Tryz.slices_Equal_int_empty (a1 a2 : Option Addr) (c m d : Nat) (w : World) (hbig2 : m ≤ 9223372036854775807) :
    Calls Tryz.prog 38 #[.slice a1 0 c, .slice a2 m d] w fun e w' => e = .returned (.bool (decide (m = 0))) ∧ w' = w := Any.slices_Equal_int_empty Tryz.lays111 a1 a2 c m d w hbig2
def Tryz.laysNm215_ren : Go.Shelf.Ren := ⟨fun | 15 => 64 | n => n, fun | 22 => 31 | 3 => 3 | 4 => 4 | n => n, fun | n => n⟩
theorem Tryz.laysNm215 : Go.Proofs.Lays2.n15 Tryz.prog Tryz.laysNm215_ren := {
  mixed := by kernel_rfl
  f15 := Tryz.func64.trans (congrArg some (by kernel_rfl))
  t3 := Tryz.underlying3
  a3 := Tryz.isAgg3
  z3 := Tryz.sizeOf3
  v3 := Tryz.zeroValue3
  t4 := Tryz.underlying4
  a4 := Tryz.isAgg4
  z4 := Tryz.sizeOf4
  v4 := Tryz.zeroValue4
  t22 := Tryz.underlying31
  a22 := Tryz.isAgg31
  z22 := Tryz.sizeOf31
  v22 := Tryz.zeroValue31
  i3 := by kernel_rfl }
open Go.RowKit Go.Lib in
theorem Tryz.slices_Clone_int (b off n c : Nat) (zs : List Int) (w : World) (hz : n ≤ zs.length) (hbig : n * 8 ≤ 140737488355328) (hc : ∀ j, j < zs.length → w.cell? ⟨b, off + j, none⟩ = some (.int .i64 (zs.getD j 0))) :
    Calls Tryz.prog 64 #[.slice (some ⟨b, off, none⟩) n c] w fun e w' => ∃ v', e = .returned v' ∧ w'.ownsRow w.heap.size 3 1 v' n ((zs.take n).map (Value.int .i64)) ∧ v' ≠ .slice none 0 0 ∧ Below w.heap.size w w' := Any.slices_Clone_int Tryz.laysNm215 b off n c zs w hz hbig hc
open Go.RowKit Go.Lib in
theorem Tryz.slices_Clone_int_nil (n c : Nat) (w : World) :
    Calls Tryz.prog 64 #[.slice none n c] w fun e w' => e = .returned (.slice none 0 0) ∧ w' = w := Any.slices_Clone_int_nil Tryz.laysNm215 n c w
def Tryz.laysNm216_ren : Go.Shelf.Ren := ⟨fun | 16 => 172 | n => n, fun | 24 => 115 | 9 => 9 | 4 => 4 | n => n, fun | n => n⟩
theorem Tryz.laysNm216 : Go.Proofs.Lays2.n16 Tryz.prog Tryz.laysNm216_ren := {
  mixed := by kernel_rfl
  f16 := Tryz.func172.trans (congrArg some (by kernel_rfl))
  t4 := Tryz.underlying4
  a4 := Tryz.isAgg4
  z4 := Tryz.sizeOf4
  v4 := Tryz.zeroValue4
  t9 := Tryz.underlying9
  a9 := Tryz.isAgg9
  z9 := Tryz.sizeOf9
  v9 := Tryz.zeroValue9
  t24 := Tryz.underlying115
  a24 := Tryz.isAgg115
  z24 := Tryz.sizeOf115
  v24 := Tryz.zeroValue115
  i9 := by kernel_rfl }
open Go.RowKit Go.Lib in
theorem Tryz.slices_Clone_string (b off n c : Nat) (zs : List ByteArray) (w : World) (hz : n ≤ zs.length) (hbig : n * 16 ≤ 140737488355328) (hc : ∀ j, j < zs.length → w.cell? ⟨b, off + j, none⟩ = some (.string (zs.getD j ByteArray.empty))) :
    Calls Tryz.prog 172 #[.slice (some ⟨b, off, none⟩) n c] w fun e w' => ∃ v', e = .returned v' ∧ w'.ownsRow w.heap.size 9 1 v' n ((zs.take n).map (Value.string)) ∧ v' ≠ .slice none 0 0 ∧ Below w.heap.size w w' := Any.slices_Clone_string Tryz.laysNm216 b off n c zs w hz hbig hc
open Go.RowKit Go.Lib in
theorem Tryz.slices_Clone_string_nil (n c : Nat) (w : World) :
    Calls Tryz.prog 172 #[.slice none n c] w fun e w' => e = .returned (.slice none 0 0) ∧ w' = w := Any.slices_Clone_string_nil Tryz.laysNm216 n c w
open Go.RowKit Go.Lib in
theorem Tryz.slices_Clone_int_zero (a : Addr) (c : Nat) (w : World) :
    Calls Tryz.prog 64 #[.slice (some a) 0 c] w fun e w' => ∃ v', e = .returned v' ∧ w'.ownsRow w.heap.size 3 1 v' 0 [] ∧ v' ≠ .slice none 0 0 ∧ Below w.heap.size w w' := Any.slices_Clone_int_zero Tryz.laysNm215 a c w
open Go.RowKit Go.Lib in
theorem Tryz.slices_Clone_string_zero (a : Addr) (c : Nat) (w : World) :
    Calls Tryz.prog 172 #[.slice (some a) 0 c] w fun e w' => ∃ v', e = .returned v' ∧ w'.ownsRow w.heap.size 9 1 v' 0 [] ∧ v' ≠ .slice none 0 0 ∧ Below w.heap.size w w' := Any.slices_Clone_string_zero Tryz.laysNm216 a c w
def Tryz.lays194_ren : Go.Shelf.Ren := ⟨fun | 194 => 174 | n => n, fun | 31 => 115 | 9 => 9 | 3 => 3 | 4 => 4 | 0 => 0 | n => n, fun | n => n⟩
theorem Tryz.lays194 : Go.Proofs.Lays.n194 Tryz.prog Tryz.lays194_ren := {
  mixed := by kernel_rfl
  f194 := Tryz.func174.trans (congrArg some (by kernel_rfl))
  t0 := Tryz.underlying0
  a0 := Tryz.isAgg0
  z0 := Tryz.sizeOf0
  v0 := Tryz.zeroValue0
  t3 := Tryz.underlying3
  a3 := Tryz.isAgg3
  z3 := Tryz.sizeOf3
  v3 := Tryz.zeroValue3
  t4 := Tryz.underlying4
  a4 := Tryz.isAgg4
  z4 := Tryz.sizeOf4
  v4 := Tryz.zeroValue4
  t9 := Tryz.underlying9
  a9 := Tryz.isAgg9
  z9 := Tryz.sizeOf9
  v9 := Tryz.zeroValue9
  t31 := Tryz.underlying115
  a31 := Tryz.isAgg115
  z31 := Tryz.sizeOf115
  v31 := Tryz.zeroValue115 }
open Go.RowKit Go.Lib Go.Sort in
theorem Tryz.slices_Compact_string (blk off cap : Nat) (zs : List (List UInt8)) (w : World) (hH : Holds encStr w blk off zs.toArray) (hsz : zs.length ≤ 9223372036854775807) (hcap : zs.length ≤ cap) :
    Calls Tryz.prog 174 #[.slice (some ⟨blk, off, none⟩) zs.length cap] w fun e w' => e = .returned (.slice (some ⟨blk, off, none⟩) (Lib.compact zs).length cap) ∧ ∃ q, w' = putRow encStr (Sort.ahead w q) blk off (Lib.compact zs ++ List.replicate (zs.length - (Lib.compact zs).length) []).toArray := Any.slices_Compact_string Tryz.lays194 blk off cap zs w hH hsz hcap
open Go.RowKit Go.Lib Go.Sort in
theorem Tryz.slices_Compact_string_empty (a : Option Addr) (cap : Nat) (w : World) :
    Calls Tryz.prog 174 #[.slice a 0 cap] w fun e w' => e = .returned (.slice a 0 cap) ∧ w' = w := Any.slices_Compact_string_empty Tryz.lays194 a cap w
open Go.RowKit Go.Lib Go.Sort in
theorem Tryz.slices_Reverse_int_cells (b off n c : Nat) (zs : List Int) (w : World) (hz : n ≤ zs.length) (hbig : n ≤ 9223372036854775807) (hc : ∀ j, j < zs.length → w.cell? ⟨b, off + j, none⟩ = some (.int .i64 (zs.getD j 0))) (hf : ∀ j, j < n → w.frozen? ⟨b, off + j, none⟩ = false) :
    Calls Tryz.prog 118 #[.slice (some ⟨b, off, none⟩) n c] w fun e w' => e = .returned (.tuple #[]) ∧ ∃ q, w' = (w.drewN q).setCells b off ((zs.take n).reverse.map (Value.int .i64)) := Any.slices_Reverse_int_cells Tryz.lays112 b off n c zs w hz hbig hc hf
open Go.RowKit Go.Sort in
theorem Tryz.slices_Sort_string_none (p : Option Addr) (cap : Nat) (w : World) :
    Calls Tryz.prog 173 #[.slice p 0 cap] w fun e w' => e = .returned (.tuple #[]) ∧ w' = w := Any.slices_Sort_string_none Tryz.lays190 p cap w
open Go.RowKit Go.Lib in
theorem Tryz.slices_Equal_int_lens (a1 a2 : Option Addr) (n c m d : Nat) (w : World) (hnm : n ≠ m) :
    Calls Tryz.prog 38 #[.slice a1 n c, .slice a2 m d] w fun e w' => e = .returned (.bool false) ∧ w' = w := Any.slices_Equal_int_lens Tryz.lays111 a1 a2 n c m d w hnm
end Go.Proofs

namespace Go.Proofs.YtlmenhjlgmejkaaGreatDoor
open Go.RowKit
def mkS (l : Bs) : ByteArray := ⟨l.toArray⟩
theorem mkS_of (s : ByteArray) : mkS s.data.toList = s := by cases s; rfl
theorem Sl.take_ {α : Type} {size : Nat} {R : ElemR α} {D : Nat → Prop} {w : World} {A : Option Addr} {n c k : Nat} {xs : List α} (h : Sl size R D w (.slice A n c) xs) (hk : k ≤ xs.length) : Sl size R D w (.slice A k c) (xs.take k) := by
  obtain ⟨A', c', hv, h1, h2, h3⟩ := h
  injection hv with e1 e2 e3
  subst e1 e3
  refine ⟨A, c, by rw [List.length_take, Nat.min_eq_left hk], by rw [List.length_take]; omega, h2, fun i x hx => h3 i x ?_⟩
  rw [List.getElem?_take] at hx
  split at hx
  · exact hx
  · cases hx
abbrev OwnS (w : World) (base : Nat) (v : Value) (ss : List Bs) : Prop := w.ownsRow base 9 1 v ss.length (ss.map encStr)
theorem OwnS.slS {w : World} {base : Nat} {v : Value} {ss : List Bs} (h : OwnS w base v ss) (hf : ∀ s ∈ ss, s.length ≤ maxLen) : SlS (Lt w.heap.size) w v (ss.map mkS) :=
  SlS.of_own (zs := ss.map mkS) (by rw [List.map_map]; exact h) (fun z hz => by obtain ⟨s, hs, rfl⟩ := List.mem_map.1 hz; exact hf s hs)
theorem sortS (v : Value) (ss : List Bs) (base : Nat) (w : World) (h : OwnS w base v ss) (hl : ss.length ≤ 1000) :
    Calls Tryz.prog 173 #[v] w fun e w' => e = .returned (.tuple #[]) ∧ OwnS w' base v (sortB ss) ∧ Below base w w' := by
  by_cases hn : 0 < ss.length
  · rcases h.2 with ⟨_, h0⟩ | ⟨g, cap, cur, rfl, hbase, hb, h1, h2, h3, h4⟩
    · omega
    · have hg : g < w.heap.size := (Array.getElem?_eq_some_iff.1 hb).1
      refine (Tryz.slices_Sort_string g 0 cap ss w (holds_of_block hb (by simpa using h4)) hg (by omega)).mono ?_
      rintro e w' ⟨rfl, m, os, rfl⟩
      refine ⟨rfl, ?_, ?_⟩
      · have := ownsRow_sorted (n := m) (os := os) (ts := sortB ss) (sortB_len ss) hbase hb h1 h2 h3
        unfold OwnS
        rw [sortB_len]
        exact this
      · have hgr := grownBy_sorted (w := w) (g := g) (n := m) (os := os) (sortB ss).toArray
        exact below_of_grown hgr (by omega) (fun g' e => by injection e with e; omega)
  · have : ss = [] := List.eq_nil_of_length_eq_zero (by omega)
    subst this
    rcases h.2 with ⟨rfl, _⟩ | ⟨g, cap, cur, rfl, hb, hg, hc, hm, hs, htake⟩
    · refine (Tryz.slices_Sort_string_none none 0 w).mono ?_
      rintro e w' ⟨rfl, rfl⟩
      exact ⟨rfl, by rw [show sortB [] = [] by simp [sortB]]; exact h, Below.refl _ _⟩
    · refine (Tryz.slices_Sort_string_none (some ⟨g, 0, none⟩) cap w).mono ?_
      rintro e w' ⟨rfl, rfl⟩
      exact ⟨rfl, by rw [show sortB [] = [] by simp [sortB]]; exact h, Below.refl _ _⟩
theorem compactS (v : Value) (ss : List Bs) (base : Nat) (w : World) (h : OwnS w base v ss) (hl : ss.length ≤ 1000) (hf : ∀ s ∈ Lib.compact ss, s.length ≤ maxLen) :
    Calls Tryz.prog 174 #[v] w fun e w' => ∃ v', e = .returned v' ∧ SlS (Lt w'.heap.size) w' v' ((Lib.compact ss).map mkS) ∧ Below base w w' := by
  by_cases hn : 0 < ss.length
  · rcases h.2 with ⟨_, h0⟩ | ⟨g, cap, cur, rfl, hbase, hb, h1, h2, h3, h4⟩
    · omega
    · have hg : g < w.heap.size := (Array.getElem?_eq_some_iff.1 hb).1
      refine (Tryz.slices_Compact_string g 0 cap ss w (holds_of_block hb (by simpa using h4)) (by omega) h1).mono ?_
      rintro e w' ⟨rfl, m, rfl⟩
      have hcl := compact_len ss
      have hlen : (Lib.compact ss ++ List.replicate (ss.length - (Lib.compact ss).length) ([] : Bs)).length = ss.length := by simp; omega
      have ho := ownsRow_sorted (n := m) (os := #[]) (ss := ss) (ts := Lib.compact ss ++ List.replicate (ss.length - (Lib.compact ss).length) ([] : Bs)) hlen hbase hb h1 h2 h3
      have hgr := grownBy_sorted (w := w) (g := g) (n := m) (os := #[]) (Lib.compact ss ++ List.replicate (ss.length - (Lib.compact ss).length) ([] : Bs)).toArray
      rw [Go.Sort.grow_empty] at ho hgr
      generalize Go.Sort.putRow encStr (Go.Sort.ahead w m) g 0 (Lib.compact ss ++ List.replicate (ss.length - (Lib.compact ss).length) ([] : Bs)).toArray = W at *
      refine ⟨_, rfl, ?_, below_of_grown hgr (by omega) (fun g' e => by injection e with e; omega)⟩
      have ho' : OwnS W base (.slice (some ⟨g, 0, none⟩) ss.length cap) (Lib.compact ss ++ List.replicate (ss.length - (Lib.compact ss).length) ([] : Bs)) := by
        unfold OwnS
        rw [hlen]
        exact ho
      have hsl := ho'.slS (fun s hs => by
        rcases List.mem_append.1 hs with hs | hs
        · exact hf s hs
        · rw [(List.mem_replicate.1 hs).2]; exact Nat.zero_le _)
      have := Sl.take_ (k := (Lib.compact ss).length) hsl (by simp)
      rw [List.map_append, List.take_left' (by simp)] at this
      exact this
  · have : ss = [] := List.eq_nil_of_length_eq_zero (by omega)
    subst this
    rcases h.2 with ⟨rfl, _⟩ | ⟨g, cap, cur, rfl, hb, hg, hc, hm, hs, htake⟩
    · refine (Tryz.slices_Compact_string_empty none 0 w).mono ?_
      rintro e w' ⟨rfl, rfl⟩
      exact ⟨_, rfl, Sl.none_, Below.refl _ _⟩
    · refine (Tryz.slices_Compact_string_empty (some ⟨g, 0, none⟩) cap w).mono ?_
      rintro e w' ⟨rfl, rfl⟩
      exact ⟨_, rfl, ⟨_, cap, rfl, hc, hm, fun i x hx => by simp [Lib.compact, Lib.compactUpTo] at hx⟩, Below.refl _ _⟩
end Go.Proofs.YtlmenhjlgmejkaaGreatDoor

namespace Go.Proofs.YtlmenhjlgmejkaaGreatDoor
open Go.RowKit
theorem perm_of_subset : ∀ (A ls : List Bs), A.Nodup → (∀ x ∈ A, x ∈ ls) → ls.length = A.length → ls.Perm A := by
  intro A
  induction A with
  | nil => intro ls _ _ h; have : ls = [] := List.eq_nil_of_length_eq_zero h; rw [this]
  | cons a A ih =>
    intro ls hn hs hl
    rw [List.nodup_cons] at hn
    have ha := hs a (by simp)
    have h1 : ls.Perm (a :: ls.erase a) := List.perm_cons_erase ha
    have h2 := ih (ls.erase a) hn.2 (fun x hx => by
      rw [List.mem_erase_of_ne (fun e => by subst e; exact hn.1 hx)]
      exact hs x (by simp [hx])) (by rw [List.length_erase_of_mem ha, hl]; simp)
    exact h1.trans (h2.cons a)
theorem once_iff (ls : List Bs) : onceB ls = decide ((setB ls).length = ls.length) := by
  unfold onceB
  rw [decide_eq_decide]
  constructor
  · intro h
    exact ((List.perm_ext_iff_of_nodup (asc_nodup (setB_asc ls)) h).2 (fun x => setB_mem ls x)).length_eq
  · intro h
    have := perm_of_subset (setB ls) ls (asc_nodup (setB_asc ls)) (fun x hx => (setB_mem ls x).1 hx) h.symm
    exact this.nodup_iff.2 (asc_nodup (setB_asc ls))
def AsksS (k : FuncId) (w : World) (xs : List ByteArray) (p : ByteArray → Bool) : Prop :=
  ∀ (x : ByteArray) (w1 : World), x ∈ xs → x.size ≤ maxLen → Below w.heap.size w w1 → Calls Tryz.prog k #[.string x] w1 fun e w2 => e = .returned (.bool (p x)) ∧ Below w1.heap.size w1 w2
set_option maxHeartbeats 400000 in
theorem indexFuncS (k : FuncId) (eg : ∀ args w, (callFunc k args).run Tryz.prog w = .ok (.enter k args) w) (tv : Value) (ts : List ByteArray) (p : ByteArray → Bool) (w : World) (ht : SlS (Lt w.heap.size) w tv ts) (hf : AsksS k w ts p) :
    Calls Tryz.prog 103 #[tv, .func (.func k) #[] #[]] w fun e w' => ∃ z : Int, e = .returned (.int .i64 z) ∧ decide (0 ≤ z) = ts.any p ∧ Below w.heap.size w w' := by
  obtain ⟨A, c, rfl, h1, h2, ht⟩ := ht.open_
  have HF := Lib.hid hf
  clear hf
  go_enter Tryz.func103, Tryz.ntmps103
  go_wp2_with fail
  go_loopw [8] (fun i wr => ∃ j : Nat, j ≤ ts.length ∧ i = .int .i64 j ∧ (∀ q t, q < j → ts[q]? = some t → p t = false) ∧ Below w.heap.size w wr) (fun i _ => ts.length - (intOf i).toNat)
  case atStart => exact ⟨0, Nat.zero_le _, rfl, fun q _ h => absurd h (by omega), Below.refl _ _⟩
  case round =>
    obtain ⟨j, hj, rfl, hp, hb⟩ := hrel
    have HP := Lib.hid hp
    clear hp
    by_cases hlt : j < ts.length
    · obtain ⟨b, o, t, rfl, hD, hx, hf, c0⟩ := (ht.now hb).at_ hlt
      have hcall := HF.out t wr (List.mem_of_getElem? hx) hf hb
      have HX := Lib.hid hx
      clear hx
      generalize hq : p t = q at *
      have HQ := Lib.hid hq
      have HC := Lib.hid hcall
      clear hcall hq
      cases q
      · go_wp2_with (go_at_fn k; refine HC.out.mono ?_; rintro e w' ⟨rfl, hb'⟩)
        go_roundw
        case rel =>
          refine ⟨j + 1, by omega, by go_num, fun q y hq hy => ?_, bthen hb hb'⟩
          by_cases e : q = j
          · subst e; rw [HX.out] at hy; injection hy with hy; subst hy; exact HQ.out
          · exact HP.out q y (by omega) hy
        case measure => simp [intOf]; omega
      · go_wp2_with (go_at_fn k; refine HC.out.mono ?_; rintro e w' ⟨rfl, hb'⟩)
        go_ret
        refine ⟨_, rfl, ?_, bthen hb hb'⟩
        rw [List.any_eq_true.2 ⟨t, List.mem_of_getElem? HX.out, HQ.out⟩]
        simp
    · go_wp2_with fail
      go_ret
      refine ⟨_, rfl, ?_, hb⟩
      rw [any_false_of _ ts (fun q y hq hy => HP.out q y (by omega) hy)]
      simp
theorem containsFuncS (k : FuncId) (eg : ∀ args w, (callFunc k args).run Tryz.prog w = .ok (.enter k args) w) (tv : Value) (ts : List ByteArray) (p : ByteArray → Bool) (w : World) (ht : SlS (Lt w.heap.size) w tv ts) (hf : AsksS k w ts p) :
    Calls Tryz.prog 61 #[tv, .func (.func k) #[] #[]] w fun e w' => e = .returned (.bool (ts.any p)) ∧ Below w.heap.size w w' := by
  have HC := Lib.hid (indexFuncS k eg tv ts p w ht hf)
  clear hf ht
  go_enter Tryz.func61, Tryz.ntmps61
  go_wp2_with (go_at_call 103; refine HC.out.mono ?_; rintro e w' ⟨z, rfl, hz, hb'⟩)
  go_ret
  exact ⟨rfl, hb'⟩
set_option maxHeartbeats 400000 in
theorem validVar1_any (s : ByteArray) (w : World) (hs : s.size ≤ maxLen) : Calls Tryz.prog 171 #[.string s] w fun e w' => e = .returned (.bool (!textB s)) ∧ Below w.heap.size w w' := by
  have HT := Lib.hid (text_any s w hs)
  clear hs
  generalize textB s = q at *
  go_enter Tryz.func171, Tryz.ntmps171
  go_wp2_with (go_at_call 162; refine HT.out.mono ?_; rintro e w' ⟨rfl, hb⟩)
  go_ret
  exact ⟨rfl, hb⟩
theorem cloneS (v : Value) (zs : List ByteArray) (w : World) (h : SlS (Lt w.heap.size) w v zs) (hz : zs.length ≤ 1000000) :
    Calls Tryz.prog 172 #[v] w fun e w' => ∃ v', e = .returned v' ∧ w'.ownsRow w.heap.size 9 1 v' zs.length (zs.map Value.string) ∧ Below w.heap.size w w' := by
  obtain ⟨A, c, rfl, h1, h2, h⟩ := h.open_
  by_cases hn : 0 < zs.length
  · obtain ⟨b, o, rfl, hD, _, hc⟩ := h.cells hn
    refine (Tryz.slices_Clone_string b o zs.length c zs w (Nat.le_refl _) (by omega) hc).mono ?_
    rintro e w' ⟨v', rfl, ho, _, hb⟩
    rw [List.take_of_length_le (Nat.le_refl _)] at ho
    exact ⟨v', rfl, ho, hb⟩
  · have : zs = [] := List.eq_nil_of_length_eq_zero (by omega)
    subst this
    rcases A with _ | a
    · refine (Tryz.slices_Clone_string_nil _ _ w).mono ?_
      rintro e w' ⟨rfl, rfl⟩
      exact ⟨_, rfl, World.ownsRow_nil _ _ _ _, Below.refl _ _⟩
    · refine (Tryz.slices_Clone_string_zero a c w).mono ?_
      rintro e w' ⟨v', rfl, ho, _, hb⟩
      exact ⟨v', rfl, ho, hb⟩
theorem own_bytes {w : World} {base : Nat} {v : Value} {zs : List ByteArray} (h : w.ownsRow base 9 1 v zs.length (zs.map Value.string)) : OwnS w base v (bytesOf zs) := by
  unfold OwnS bytesOf
  rw [List.length_map, List.map_map]
  have : (encStr ∘ fun s : ByteArray => s.data.toList) = Value.string := by
    funext s
    show Value.string (mkS s.data.toList) = _
    rw [mkS_of]
  rw [this]
  exact h
end Go.Proofs.YtlmenhjlgmejkaaGreatDoor

namespace Go.Proofs.YtlmenhjlgmejkaaGreatDoor
open Go.RowKit
theorem varB_no {x : Var} (h : isNameB x.name = false) : varB x = false := by unfold varB; rw [h]; rfl
theorem varB_yes {x : Var} (h : isNameB x.name = true) : varB x = formB x := by unfold varB; rw [h]; rfl
theorem form1 {nm : ByteArray} {lo hi : Int} {its : List ByteArray} : formB ⟨nm, 1, lo, hi, its⟩ = decide (lo = 0 ∧ hi = 0 ∧ its.length = 0) := rfl
theorem form2 {nm : ByteArray} {lo hi : Int} {its : List ByteArray} : formB ⟨nm, 2, lo, hi, its⟩ = (numB lo && numB hi && decide (lo ≤ hi ∧ hi - lo < 1000 ∧ its.length = 0)) := rfl
theorem form3 {nm : ByteArray} {lo hi : Int} {its : List ByteArray} : formB ⟨nm, 3, lo, hi, its⟩ = (decide (lo = 0 ∧ hi = 0 ∧ 1 ≤ its.length ∧ its.length ≤ 1000) && its.all textB && onceB (bytesOf its)) := rfl
theorem form0 {nm : ByteArray} {k lo hi : Int} {its : List ByteArray} (h1 : k ≠ 1) (h2 : k ≠ 2) (h3 : k ≠ 3) : formB ⟨nm, k, lo, hi, its⟩ = false := by unfold formB; simp [h1, h2, h3]
theorem num_bounds {n : Int} (h : numB n = true) : -4503599627370496 ≤ n ∧ n ≤ 4503599627370496 := by unfold numB at h; simpa using h
theorem any_not_allT (l : List ByteArray) : (l.any fun x => !textB x) = !l.all textB := by
  induction l with
  | nil => rfl
  | cons a m ih => simp [List.any_cons, List.all_cons, ih]
set_option maxHeartbeats 2000000 in
set_option maxRecDepth 100000 in
theorem validVar_any (x : Var) (u : Value) (w : World) (h : IsVar (Lt w.heap.size) w u x) :
    Calls Tryz.prog 145 #[u] w fun e w' => e = .returned (.bool (varB x)) ∧ Below w.heap.size w w' := by
  obtain ⟨nm, k, lo, hi, its⟩ := x
  obtain ⟨iv, rfl, hnm, f1, f2, f3, hit⟩ := h
  dsimp only at hnm f1 f2 f3 hit ⊢
  obtain ⟨A, c, rfl, i1, i2, hit⟩ := hit.open_
  have hb := bone w (.cells #[.string nm, .int .i64 k, .int .i64 lo, .int .i64 hi, .slice A its.length c] 117)
  have hB := Blk.new w 117 #[.string nm, .int .i64 k, .int .i64 lo, .int .i64 hi, .slice A its.length c]
  have hit1 := hit.now hb
  go_enter Tryz.func145, Tryz.ntmps145
  go_upto_region 1 with fail
  generalize hw1 : w.alloc (.cells #[.string nm, .int .i64 k, .int .i64 lo, .int .i64 hi, .slice A its.length c] 117) = w1 at *
  clear hw1
  obtain ⟨q0, q1, q2, q3, q4⟩ := hB.c5
  have hlt := hB.lt
  go_wp2_with fail
  refine (isName_any nm _ hnm).mono ?_
  rintro e w' ⟨rfl, rfl⟩
  generalize hq : isNameB nm = q
  have HQ := Lib.hid hq
  clear hq
  cases q
  · have HE : Hid (varB ⟨nm, k, lo, hi, its⟩ = false) := varB_no HQ.out
    go_wp2_with fail
    go_ret
    exact ⟨ret_bool HE.out.symm, hb⟩
  have HV : Hid (varB ⟨nm, k, lo, hi, its⟩ = formB ⟨nm, k, lo, hi, its⟩) := varB_yes HQ.out
  by_cases k1 : k = 1
  · subst k1
    have HE : Hid (varB ⟨nm, 1, lo, hi, its⟩ = decide (lo = 0 ∧ hi = 0 ∧ its.length = 0)) := HV.out.trans form1
    by_cases a1 : lo = 0
    · subst a1
      by_cases a2 : hi = 0
      · subst a2
        by_cases a3 : its.length = 0
        · rw [a3] at q4 HE
          go_wp2_with fail
          go_ret
          exact ⟨ret_bool (by rw [HE.out]; simp), hb⟩
        · have a3' : ((its.length : Int) == 0) = false := by rw [beq_eq_false_iff_ne]; omega
          go_wp2_with fail
          go_ret
          exact ⟨ret_bool (by rw [HE.out]; simp [a3]), hb⟩
      · have a2' : (hi == 0) = false := by simpa using a2
        go_wp2_with fail
        go_ret
        exact ⟨ret_bool (by rw [HE.out]; simp [a2]), hb⟩
    · have a1' : (lo == 0) = false := by simpa using a1
      go_wp2_with fail
      go_ret
      exact ⟨ret_bool (by rw [HE.out]; simp [a1]), hb⟩
  have k1' : (k == 1) = false := by simpa using k1
  by_cases k2 : k = 2
  · subst k2
    have HE : Hid (varB ⟨nm, 2, lo, hi, its⟩ = (numB lo && numB hi && decide (lo ≤ hi ∧ hi - lo < 1000 ∧ its.length = 0))) := HV.out.trans form2
    have HN := Lib.hid (fun n w => number_any n w)
    go_upto_region 7 with fail
    cases hn1 : numB lo with
    | false =>
      have HN1 : Hid (∀ w, Calls Tryz.prog 161 #[.int .i64 lo] w fun e w' => e = .returned (.bool false) ∧ w = w') := fun w => by rw [← hn1]; exact number_any lo w
      rw [hn1] at HE
      clear hn1
      go_wp2_with (go_at_call 161; refine (HN1.out _).mono ?_; rintro e w' ⟨rfl, rfl⟩)
      go_ret
      exact ⟨ret_bool (by rw [HE.out]; rfl), hb⟩
    | true =>
      have HN1 : Hid (∀ w, Calls Tryz.prog 161 #[.int .i64 lo] w fun e w' => e = .returned (.bool true) ∧ w = w') := fun w => by rw [← hn1]; exact number_any lo w
      obtain ⟨b1, b2⟩ := num_bounds hn1
      rw [hn1] at HE
      clear hn1
      cases hn2 : numB hi with
      | false =>
        have HN2 : Hid (∀ w, Calls Tryz.prog 161 #[.int .i64 hi] w fun e w' => e = .returned (.bool false) ∧ w = w') := fun w => by rw [← hn2]; exact number_any hi w
        rw [hn2] at HE
        clear hn2
        go_wp2_with (first | (go_at_call 161; (with_reducible refine (HN1.out _).mono ?_); rintro e w' ⟨rfl, rfl⟩) | (go_at_call 161; (with_reducible refine (HN2.out _).mono ?_); rintro e w' ⟨rfl, rfl⟩))
        go_ret
        exact ⟨ret_bool (by rw [HE.out]; rfl), hb⟩
      | true =>
        have HN2 : Hid (∀ w, Calls Tryz.prog 161 #[.int .i64 hi] w fun e w' => e = .returned (.bool true) ∧ w = w') := fun w => by rw [← hn2]; exact number_any hi w
        obtain ⟨b3, b4⟩ := num_bounds hn2
        rw [hn2] at HE
        clear hn2
        by_cases a1 : lo ≤ hi
        · by_cases a2 : hi - lo < 1000
          · by_cases a3 : its.length = 0
            · rw [a3] at q4 HE
              go_wp2_with (first | (go_at_call 161; (with_reducible refine (HN1.out _).mono ?_); rintro e w' ⟨rfl, rfl⟩) | (go_at_call 161; (with_reducible refine (HN2.out _).mono ?_); rintro e w' ⟨rfl, rfl⟩))
              go_ret
              exact ⟨ret_bool (by rw [HE.out]; simp [a1, a2]), hb⟩
            · have a3' : ((its.length : Int) == 0) = false := by rw [beq_eq_false_iff_ne]; omega
              go_wp2_with (first | (go_at_call 161; (with_reducible refine (HN1.out _).mono ?_); rintro e w' ⟨rfl, rfl⟩) | (go_at_call 161; (with_reducible refine (HN2.out _).mono ?_); rintro e w' ⟨rfl, rfl⟩))
              go_ret
              exact ⟨ret_bool (by rw [HE.out]; simp [a3]), hb⟩
          · go_wp2_with (first | (go_at_call 161; (with_reducible refine (HN1.out _).mono ?_); rintro e w' ⟨rfl, rfl⟩) | (go_at_call 161; (with_reducible refine (HN2.out _).mono ?_); rintro e w' ⟨rfl, rfl⟩))
            go_ret
            exact ⟨ret_bool (by rw [HE.out, show decide (lo ≤ hi ∧ hi - lo < 1000 ∧ its.length = 0) = false from decide_eq_false (fun h => by omega)]; rfl), hb⟩
        · go_wp2_with (first | (go_at_call 161; (with_reducible refine (HN1.out _).mono ?_); rintro e w' ⟨rfl, rfl⟩) | (go_at_call 161; (with_reducible refine (HN2.out _).mono ?_); rintro e w' ⟨rfl, rfl⟩))
          go_ret
          exact ⟨ret_bool (by rw [HE.out, show decide (lo ≤ hi ∧ hi - lo < 1000 ∧ its.length = 0) = false from decide_eq_false (fun h => by omega)]; rfl), hb⟩
  have k2' : (k == 2) = false := by simpa using k2
  by_cases k3 : k = 3
  rotate_left
  · have k3' : (k == 3) = false := by simpa using k3
    have HE : Hid (varB ⟨nm, k, lo, hi, its⟩ = false) := HV.out.trans (form0 k1 k2 k3)
    clear k1 k2 k3
    go_wp2_with fail
    go_ret
    exact ⟨ret_bool HE.out.symm, hb⟩
  subst k3
  have HE : Hid (varB ⟨nm, 3, lo, hi, its⟩ = (decide (lo = 0 ∧ hi = 0 ∧ 1 ≤ its.length ∧ its.length ≤ 1000) && its.all textB && onceB (bytesOf its))) := HV.out.trans form3
  clear k1 k2 k1' k2'
  by_cases a1 : lo = 0
  rotate_left
  · have a1' : (lo != 0) = true := by simpa using a1
    go_wp2_with fail
    go_ret
    exact ⟨ret_bool (by rw [HE.out]; simp [a1]), hb⟩
  subst a1
  by_cases a2 : hi = 0
  rotate_left
  · have a2' : (hi != 0) = true := by simpa using a2
    go_wp2_with fail
    go_ret
    exact ⟨ret_bool (by rw [HE.out]; simp [a2]), hb⟩
  subst a2
  by_cases a3 : its.length < 1
  · have HE2 : Hid (varB ⟨nm, 3, 0, 0, its⟩ = false) := by
      show varB _ = false
      rw [HE.out, show decide ((0 : Int) = 0 ∧ (0 : Int) = 0 ∧ 1 ≤ its.length ∧ its.length ≤ 1000) = false from decide_eq_false (fun h => by omega)]; rfl
    go_wp2_with fail
    go_ret
    exact ⟨ret_bool HE2.out.symm, hb⟩
  by_cases a4 : 1000 < its.length
  · have HE2 : Hid (varB ⟨nm, 3, 0, 0, its⟩ = false) := by
      show varB _ = false
      rw [HE.out, show decide ((0 : Int) = 0 ∧ (0 : Int) = 0 ∧ 1 ≤ its.length ∧ its.length ≤ 1000) = false from decide_eq_false (fun h => by omega)]; rfl
    go_wp2_with fail
    go_ret
    exact ⟨ret_bool HE2.out.symm, hb⟩
  have HE2 : Hid (varB ⟨nm, 3, 0, 0, its⟩ = (its.all textB && onceB (bytesOf its))) := by
    show varB _ = _
    rw [HE.out, show decide ((0 : Int) = 0 ∧ (0 : Int) = 0 ∧ 1 ≤ its.length ∧ its.length ≤ 1000) = true from decide_eq_true (by omega)]; rfl
  clear HE HV
  have eg : ∀ args w, (callFunc 171 args).run Tryz.prog w = .ok (.enter 171 args) w := enters_of Tryz.func171 (by kernel_rfl) rfl
  have HC := Lib.hid (containsFuncS 171 eg _ its (fun s => !textB s) w1 hit1 (fun s W _ hs _ => validVar1_any s W hs))
  clear eg
  rw [any_not_allT] at HC
  go_wp2_with fail
  refine HC.out.mono ?_
  rintro e w2 ⟨rfl, hb2⟩
  clear HC
  have hbw2 := bthen hb hb2
  have hB2 := hB.now hb2
  have hit2 := hit1.now hb2
  clear q0 q1 q2 q3 q4 hb2
  obtain ⟨q0, q1, q2, q3, q4⟩ := hB2.c5
  cases ht : its.all textB with
  | false =>
    rw [ht] at HE2
    clear ht
    go_wp2_with fail
    go_ret
    exact ⟨ret_bool (by rw [HE2.out]; rfl), hbw2⟩
  | true =>
    rw [ht] at HE2
    clear ht
    go_wp2_with fail
    refine (cloneS _ its w2 hit2 (by omega)).mono ?_
    rintro e w3 ⟨cv, rfl, hown, hb3⟩
    have hlt2 := hB2.lt
    have hbw3 := bthen hbw2 hb3
    have hB3 := hB2.now hb3
    clear q0 q1 q2 q3 q4
    go_wp2_with fail
    have hbl : (bytesOf its).length = its.length := by unfold bytesOf; rw [List.length_map]
    refine (sortS _ _ _ _ (own_bytes hown) (by omega)).mono ?_
    rintro e w4 ⟨rfl, hown4, hb4⟩
    have hbw4 := hbw3.trans (hb4.mono (by omega))
    have hB4 := hB3.below hb4 hlt2
    have hsz4 : w2.heap.size ≤ w4.heap.size := Nat.le_trans hb3.size hb4.size
    have hsl := sortB_len (bytesOf its)
    clear hb3 hb4 hB3 hbw3 hown hB2 hbw2
    have HLT : Hid (∀ s ∈ Lib.compact (sortB (bytesOf its)), s.length ≤ maxLen) := fun s hs => by
      have := (setB_mem (bytesOf its) s).1 hs
      unfold bytesOf at this
      obtain ⟨z, hz, rfl⟩ := List.mem_map.1 this
      obtain ⟨q, hq, rfl⟩ := List.mem_iff_getElem.1 hz
      obtain ⟨_, _, z', _, _, hz', hf, _⟩ := hit2.at_ hq
      rw [List.getElem?_eq_getElem hq] at hz'
      injection hz' with hz'
      rw [hz']; exact hf
    have HCP : Hid (Calls Tryz.prog 174 #[cv] w4.drew fun e w' => ∃ A' c', e = .returned (.slice A' (setB (bytesOf its)).length c') ∧ Below w2.heap.size w4 w') := by
      refine (compactS cv _ _ w4.drew hown4 (by omega) HLT.out).mono ?_
      rintro e w' ⟨v', rfl, hsl', hb'⟩
      obtain ⟨A', c', rfl, _, _, _⟩ := hsl'.open_
      refine ⟨A', c', ?_, below_drew_left hb'⟩
      rw [List.length_map]; rfl
    have HS : Hid (∀ W, Below w2.heap.size w4 W → W.cell? ⟨w.heap.size, 4, none⟩ = some (.slice A its.length c)) := fun W hW => (hW.cell (p := ⟨w.heap.size, 4, none⟩) hlt2).trans hB4.c5.2.2.2.2
    have HO := Lib.hid (once_iff (bytesOf its))
    rw [hbl] at HO
    generalize (setB (bytesOf its)).length = L at *
    have HSM : Hid (((L : Int) == (its.length : Int)) = decide (L = its.length)) := by
      show ((L : Int) == (its.length : Int)) = _
      by_cases h : L = its.length
      · simp [h]
      · have h' : ¬ ((L : Int) = (its.length : Int)) := by omega
        simp [h, h']
    generalize decide (L = its.length) = r at *
    have hLr := HSM.out
    have hbd : Below w2.heap.size w4 w4.drew := (Below.refl _ _).drew
    have a0 := HS.out _ hbd
    go_upto_region 13 with fail
    go_region_held3 (fun W => W.cell? ⟨w.heap.size, 4, none⟩ = some (.slice A its.length c)) (exact HS.out _ (by assumption))
      (first
      | (go_at_call 174; (with_reducible refine HCP.out.mono ?_); rintro e w5 ⟨A', c', rfl, hb5⟩))
    go_wp2_with fail
    go_ret
    exact ⟨ret_bool (by rw [HE2.out, HO.out]; rfl), hbw4.trans (hb5.mono (by omega))⟩
end Go.Proofs.YtlmenhjlgmejkaaGreatDoor

namespace Go.Proofs.YtlmenhjlgmejkaaGreatDoor
open Go.RowKit
def sameS (s : ByteArray) (y : ByteArray) : Bool := y.toList == s.toList
def FineTo (its : List ByteArray) (k : Nat) : Prop := ∀ (j : Nat) s, j < k → its[j]? = some s → textB s = true ∧ (its.take j).any (sameS s) = false
end Go.Proofs.YtlmenhjlgmejkaaGreatDoor

namespace Go.Proofs.YtlmenhjlgmejkaaGreatDoor
open Go.RowKit
structure Tame (x : Var) : Prop where
  lo : -4503599627370496 ≤ x.low ∧ x.low ≤ 4503599627370496
  hi : -4503599627370496 ≤ x.high ∧ x.high ≤ 4503599627370496
  dom : x.kind = 2 → x.low ≤ x.high ∧ x.high - x.low < 1000
  kind : x.kind = 1 ∨ x.kind = 2 ∨ x.kind = 3
  items : x.kind = 3 → 1 ≤ x.items.length ∧ x.items.length ≤ 1000
theorem tame_of {x : Var} (h : varB x = true) : Tame x := by
  have hf : formB x = true := by unfold varB at h; simp only [Bool.and_eq_true] at h; exact h.2
  obtain ⟨nm, k, lo, hi, its⟩ := x
  by_cases k1 : k = 1
  · subst k1
    rw [form1] at hf
    simp only [decide_eq_true_eq] at hf
    obtain ⟨rfl, rfl, _⟩ := hf
    exact ⟨by simp, by simp, by simp, by simp, by simp⟩
  by_cases k2 : k = 2
  · subst k2
    rw [form2] at hf
    simp only [Bool.and_eq_true, decide_eq_true_eq] at hf
    exact ⟨num_bounds hf.1.1, num_bounds hf.1.2, fun _ => ⟨hf.2.1, hf.2.2.1⟩, by simp, by simp⟩
  by_cases k3 : k = 3
  · subst k3
    rw [form3] at hf
    simp only [Bool.and_eq_true, decide_eq_true_eq] at hf
    obtain ⟨rfl, rfl, h1, h2⟩ := hf.1.1
    exact ⟨by simp, by simp, by simp, by simp, fun _ => ⟨h1, h2⟩⟩
  · rw [form0 k1 k2 k3] at hf; cases hf
theorem idxFrom_eq (x : ByteArray) : ∀ (zs : List ByteArray) (i : Nat), Lib.idxFromS zs x i = match zs.findIdx? (fun y => y.toList == x.toList) with | some k => ((i + k : Nat) : Int) | none => -1 := by
  intro zs
  induction zs with
  | nil => intro i; rfl
  | cons z zs ih =>
    intro i
    unfold Lib.idxFromS
    by_cases h : z = x
    · subst h
      have h1 : (z.toList == z.toList) = true := by simp
      rw [List.findIdx?_cons, h1, if_pos rfl, if_pos rfl]
      simp
    · have h2 : (z.toList == x.toList) = false := by
        rw [beq_eq_false_iff_ne]
        intro e
        rw [Lib.toList_data, Lib.toList_data] at e
        apply h
        cases z; cases x
        congr 1
        exact Array.toList_inj.1 e
      rw [if_neg h, ih (i + 1), List.findIdx?_cons, h2]
      cases zs.findIdx? (fun y => y.toList == x.toList) with
      | none => rfl
      | some k =>
        show ((i + 1 + k : Nat) : Int) = ((i + (k + 1) : Nat) : Int)
        congr 1
        omega
theorem idxOf_eq (zs : List ByteArray) (x : ByteArray) : Lib.idxOfS zs x = atS zs x := by
  unfold Lib.idxOfS atS
  rw [idxFrom_eq]
  cases zs.findIdx? (fun y => y.toList == x.toList) with
  | none => rfl
  | some k => simp
theorem indexS_any (v : Value) (xs : List ByteArray) (x : ByteArray) (w : World) (hu : SlS (Lt w.heap.size) w v xs) :
    Calls Tryz.prog 163 #[v, .string x] w fun e w' => e = .returned (.int .i64 (atS xs x)) ∧ w = w' := by
  obtain ⟨A, c, rfl, h1, h2, hu⟩ := hu.open_
  by_cases hn : 0 < xs.length
  · obtain ⟨b, o, rfl, hD, _, hc⟩ := hu.cells hn
    refine (Tryz.slices_Index_string b o xs.length c xs x w (Nat.le_refl _) (by omega) hc).mono ?_
    rintro e w' ⟨rfl, hq⟩
    rw [List.take_of_length_le (Nat.le_refl _), idxOf_eq]
    exact ⟨rfl, hq.symm⟩
  · have : xs = [] := List.eq_nil_of_length_eq_zero (by omega)
    subst this
    refine (Tryz.slices_Index_string_empty A c x w).mono ?_
    rintro e w' ⟨rfl, hq⟩
    rw [idxOf_eq]
    exact ⟨rfl, hq.symm⟩
set_option maxHeartbeats 2000000 in
theorem place_any (x : Var) (v : Val) (u : Value) (w : World) (h : IsVar (Lt w.heap.size) w u x) (ht : Tame x) (hv : FitV v) :
    Calls Tryz.prog 137 #[u, valV v] w fun e w' => e = .returned (.int .i64 (placeV x v)) ∧ Below w.heap.size w w' := by
  obtain ⟨nm, k, lo, hi, its⟩ := x
  obtain ⟨vk, vn, vs⟩ := v
  obtain ⟨⟨l1, l2⟩, ⟨l3, l4⟩, ld, lk, li⟩ := ht
  obtain ⟨iv, rfl, hnm, f1, f2, f3, hit⟩ := h
  obtain ⟨g1, g2, g3⟩ := hv
  unfold Fit at f1 f2 f3 g1 g2
  unfold valV
  dsimp only at hnm f1 f2 f3 hit l1 l2 l3 l4 ld lk li g1 g2 g3 ⊢
  obtain ⟨A, c, rfl, i1, i2, hit⟩ := hit.open_
  have hb := bbox (bone w (.cells #[.string nm, .int .i64 k, .int .i64 lo, .int .i64 hi, .slice A its.length c] 117)) (.cells #[.int .i64 vk, .int .i64 vn, .string vs] 63)
  have hit2 := hit.now hb
  have HP : Hid (placeV ⟨nm, k, lo, hi, its⟩ ⟨vk, vn, vs⟩ = if vk ≠ k then -1 else if k = 1 then vn else if k = 3 then atS its vs else if vn < lo ∨ hi < vn then -1 else vn - lo) := rfl
  go_enter Tryz.func137, Tryz.ntmps137
  by_cases a1 : vk = k
  rotate_left
  · have a1' : (vk != k) = true := by simpa using a1
    have HE := Lib.hid (HP.out.trans (if_pos a1))
    clear a1
    go_wp2_with fail
    go_ret
    exact ⟨ret_int HE.out.symm, hb⟩
  subst a1
  have a1' : (vk != vk) = false := by simp
  have HE := Lib.hid (HP.out.trans (if_neg (fun h => h rfl)))
  rcases lk with rfl | rfl | rfl
  · go_wp2_with fail
    go_ret
    exact ⟨ret_int HE.out.symm, hb⟩
  · by_cases b1 : vn < lo
    · have HE2 := Lib.hid (HE.out.trans (show _ = (-1 : Int) by simp [b1]))
      go_wp2_with fail
      go_ret
      exact ⟨ret_int HE2.out.symm, hb⟩
    by_cases b2 : hi < vn
    · have HE2 := Lib.hid (HE.out.trans (show _ = (-1 : Int) by simp [b2]))
      go_wp2_with fail
      go_ret
      exact ⟨ret_int HE2.out.symm, hb⟩
    have HE2 := Lib.hid (HE.out.trans (show _ = vn - lo by simp [b1, b2]))
    go_wp2_with fail
    go_ret
    exact ⟨ret_int HE2.out.symm, hb⟩
  · go_wp2_with fail
    refine (indexS_any _ its vs _ hit2).mono ?_
    rintro e w' ⟨rfl, rfl⟩
    go_wp2_with fail
    go_ret
    exact ⟨ret_int HE.out.symm, hb⟩
end Go.Proofs.YtlmenhjlgmejkaaGreatDoor

namespace Go.Proofs.YtlmenhjlgmejkaaGreatDoor
open Go.RowKit Go.Maps Go.WideMaps
section
variable {P : Program} {t k e : TypeId}
theorem plainElem_bool_inv (he : P.underlying e = some .bool) {v : Value} {z : DataW Unit × List MemPlace} (h : plainElem P e v = some z) : ∃ a, v = .bool a ∧ z = (.lit (.bool a), []) := by
  unfold plainElem at h
  rw [he] at h
  cases v <;> simp at h
  subst h
  exact ⟨_, rfl, rfl⟩
def SetP (P : Program) (k e : TypeId) (w : World) (b n : Nat) (l : List (List UInt8)) : Prop :=
  ∃ D : DataW Unit, w.ownsMap P k (plainElem P e) b n D ∧ IsMap D ∧ ∀ s : List UInt8, D.atKey (.string s) (.lit (.bool false)) = .lit (.bool (decide (s ∈ l)))
theorem SetP.made (w : World) : SetP P k e (w.alloc (.map #[] 0)) w.heap.size 0 [] :=
  ⟨.map [], World.ownsMap_made w _ _ _, isMap_empty, fun s => by rw [show decide (s ∈ ([] : List (List UInt8))) = false by simp]; rfl⟩
theorem SetP.now {w w' : World} {b n : Nat} {l : List (List UInt8)} (h : SetP P k e w b n l) (hb : Below w.heap.size w w') : SetP P k e w' b n l := by
  obtain ⟨D, h1, h2, h3⟩ := h
  exact ⟨D, h1.kept (grown_of_below hb none) (by simp), h2, h3⟩
theorem SetP.lt {w : World} {b n : Nat} {l : List (List UInt8)} (h : SetP P k e w b n l) : b < w.heap.size := by
  obtain ⟨D, h1, h2, h3⟩ := h
  exact h1.lt
theorem SetP.look {w : World} {b n : Nat} {l : List (List UInt8)} (h : SetP P k e w b n l) (ht : P.underlying t = some (.map k e)) (hk : P.underlying k = some .string) (he : P.underlying e = some .bool) (hz : (zeroValue e).run P w = .ok (.bool false) w) {s : ByteArray} (hs : s.size ≤ maxLen) :
    (Instr.lookup t (.map (some b)) (.string s) false).run P w = .ok (.bool (decide (s.data.toList ∈ l))) w := by
  obtain ⟨D, h1, h2, h3⟩ := h
  obtain ⟨v, ps, hrun, hv⟩ := h1.lookup (string_keyed hk) ht hz (plainElem_bool he false) (keyOf_string_mk hk hs)
  obtain ⟨c, rfl, hc⟩ := plainElem_bool_inv he hv
  rw [h3] at hc
  simp only [Prod.mk.injEq, DataW.lit.injEq, Lit.bool.injEq] at hc
  rw [hc.1]
  exact hrun
theorem SetP.put {w : World} {b n : Nat} {l : List (List UInt8)} (h : SetP P k e w b n l) (ht : P.underlying t = some (.map k e)) (hk : P.underlying k = some .string) (he : P.underlying e = some .bool) {s : ByteArray} (hs : s.size ≤ maxLen) (hn : n < maxLen) :
    ∃ w', (Instr.mapUpdate t (.map (some b)) (.string s) (.bool true)).run P w = .ok () w' ∧ SetP P k e w' b (n + 1) (l ++ [s.data.toList]) ∧ w.grownBy w' (some b) := by
  obtain ⟨D, h1, h2, h3⟩ := h
  obtain ⟨w', r0, r1, r2⟩ := h1.update (string_keyed hk) ht hn (keyOf_string_mk hk hs) (plainElem_bool he true)
  refine ⟨w', r0, ⟨_, r1, h2.put _ _, fun t => ?_⟩, r2⟩
  by_cases e : t = s.data.toList
  · subst e
    rw [atKey_put_same h2 (by simp [WideAt.IsKeyLit])]
    simp
  · rw [atKey_put_other (by simpa using e), h3]
    simp [e]
end
def SetS := SetP Tryz.prog 9 4
theorem SetS.made (w : World) : SetS (w.alloc (.map #[] 0)) w.heap.size 0 [] := SetP.made w
theorem SetS.now {w w' : World} {b n : Nat} {l : List (List UInt8)} (h : SetS w b n l) (hb : Below w.heap.size w w') : SetS w' b n l := SetP.now h hb
theorem SetS.lt {w : World} {b n : Nat} {l : List (List UInt8)} (h : SetS w b n l) : b < w.heap.size := SetP.lt h
theorem SetS.look {w : World} {b n : Nat} {l : List (List UInt8)} (h : SetS w b n l) {s : ByteArray} (hs : s.size ≤ maxLen) :
    (Instr.lookup 201 (.map (some b)) (.string s) false).run Tryz.prog w = .ok (.bool (decide (s.data.toList ∈ l))) w :=
  SetP.look h Tryz.underlying201 Tryz.underlying9 Tryz.underlying4 (by kernel_rfl) hs
theorem SetS.store {w : World} {ops : Array Oper} {rest : List Oper} {o : Oper} {a : Act} {Q : Exit → Act → World → Prop} {b n : Nat} {l : List (List UInt8)} {s : ByteArray}
    (h : SetS w b n l) (hs : s.size ≤ maxLen) (hn : n < maxLen) (hg : o.guard = none) (m x v : Operand) (hop : o.op = Op.mapUpdate 201 m x v)
    (hm : a.eval m = .map (some b)) (hx : a.eval x = .string s) (hv : a.eval v = .bool true)
    (hK : ∀ w', SetS w' b (n + 1) (l ++ [s.data.toList]) → w.grownBy w' (some b) → wpList Tryz.prog ops Q rest (a.put o.dst undef) w') :
    wpList Tryz.prog ops Q (o :: rest) a w := by
  refine wpList_plain hg fun K' hK' => ?_
  obtain ⟨w', hrun, r1, r2⟩ := SetP.put h Tryz.underlying201 Tryz.underlying9 Tryz.underlying4 hs hn
  unfold Oper.wp
  simp [execOp, hop, hm, hx, hv, hrun, Result.andThen]
  exact hK' _ _ (hK w' r1 r2)
end Go.Proofs.YtlmenhjlgmejkaaGreatDoor

namespace Go.Proofs.YtlmenhjlgmejkaaGreatDoor
open Go.RowKit
def namesOf (l : List Var) : List Bs := bytesOf (l.map Var.name)
theorem namesOf_take (l : List Var) (k : Nat) : namesOf (l.take k) = (namesOf l).take k := by unfold namesOf bytesOf; rw [List.map_take, List.map_take]
theorem namesOf_get {l : List Var} {k : Nat} {x : Var} (h : l[k]? = some x) : (namesOf l)[k]? = some x.name.data.toList := by unfold namesOf bytesOf; simp [h]
theorem namesOf_snoc {l : List Var} {k : Nat} {x : Var} (h : l[k]? = some x) : namesOf (l.take (k + 1)) = namesOf (l.take k) ++ [x.name.data.toList] := by
  rw [namesOf_take, namesOf_take, List.take_add_one, namesOf_get h]; rfl
def VarsTo (l : List Var) (k : Nat) : Prop := (∀ j x, j < k → l[j]? = some x → varB x = true) ∧ (namesOf (l.take k)).Nodup
theorem VarsTo.zero (l : List Var) : VarsTo l 0 := ⟨fun j _ h => absurd h (by omega), by unfold namesOf bytesOf; simp⟩
theorem VarsTo.next {l : List Var} {k : Nat} {x : Var} (h : VarsTo l k) (hx : l[k]? = some x) (h1 : varB x = true) (h2 : x.name.data.toList ∉ namesOf (l.take k)) : VarsTo l (k + 1) := by
  refine ⟨fun j y hj hy => ?_, ?_⟩
  · by_cases e : j = k
    · subst e; rw [hx] at hy; injection hy with hy; subst hy; exact h1
    · exact h.1 j y (by omega) hy
  · rw [namesOf_snoc hx, List.nodup_append]
    refine ⟨h.2, by simp, fun a ha b hb e => ?_⟩
    simp only [List.mem_singleton] at hb
    subst e hb
    exact h2 ha
theorem varsB_all {l : List Var} (h : VarsTo l l.length) : varsB l = decide (l.length ≤ 8) := by
  unfold varsB
  have h1 : l.all varB = true := by
    rw [List.all_eq_true]
    intro x hx
    obtain ⟨j, hj, rfl⟩ := List.mem_iff_getElem.1 hx
    exact h.1 j _ hj (List.getElem?_eq_getElem hj)
  have h2 := h.2
  rw [List.take_of_length_le (Nat.le_refl _)] at h2
  have h3 : onceB (bytesOf (l.map Var.name)) = true := decide_eq_true h2
  rw [h1, h3]; simp
theorem varsB_bad {l : List Var} {k : Nat} {x : Var} (hx : l[k]? = some x) (h : varB x = false) : varsB l = false := by
  unfold varsB
  have : l.all varB = false := by
    rw [List.all_eq_false]
    exact ⟨x, List.mem_of_getElem? hx, by rw [h]; simp⟩
  rw [this]; simp
theorem varsB_twice {l : List Var} {k : Nat} {x : Var} (hx : l[k]? = some x) (h : x.name.data.toList ∈ namesOf (l.take k)) : varsB l = false := by
  unfold varsB
  have : onceB (bytesOf (l.map Var.name)) = false := by
    unfold onceB
    rw [decide_eq_false_iff_not]
    intro hn
    have h1 : (namesOf (l.take (k + 1))).Nodup := by
      rw [namesOf_take]
      exact hn.sublist (List.take_sublist _ _)
    rw [namesOf_snoc hx, List.nodup_append] at h1
    exact h1.2.2 _ h _ (by simp) rfl
  rw [this]; simp
set_option maxHeartbeats 2000000 in
theorem validVars_any (l : List Var) (u : Value) (w : World) (h : SlX (Lt w.heap.size) w u l) (hl : l.length ≤ 1000000) :
    Calls Tryz.prog 134 #[u] w fun e w' => e = .returned (.bool (varsB l)) ∧ Below w.heap.size w w' := by
  have hmm := @run_makeMap Tryz.prog
  obtain ⟨A, c, rfl, h1, h2, ht⟩ := h.open_
  go_enter Tryz.func134, Tryz.ntmps134
  go_wp2_with fail
  go_loopw [9] (fun i wr => ∃ j : Nat, j ≤ l.length ∧ i = .int .i64 j ∧ Below w.heap.size w wr ∧ SetS wr w.heap.size j (namesOf (l.take j)) ∧ VarsTo l j) (fun i _ => l.length - (intOf i).toNat)
  case atStart => exact ⟨0, Nat.zero_le _, rfl, bone w _, SetS.made w, VarsTo.zero l⟩
  case round =>
    obtain ⟨j, hj, rfl, hb, hset, hto⟩ := hrel
    have HTO := Lib.hid hto
    clear hto
    by_cases hlt : j < l.length
    · obtain ⟨b, o, x, iv, rfl, hD, hx, hvar, hiv, c0, c1, c2, c3, c4⟩ := (ht.now hb).at_ hlt
      have HX := Lib.hid hx
      clear hx
      obtain ⟨A2, k2, rfl, g1, g2, hiv⟩ := hiv.open_
      have hnm : x.name.size ≤ maxLen := by obtain ⟨_, _, hn, _⟩ := hvar; exact hn
      have hb1 := bone wr (.cells #[.string x.name, .int .i64 x.kind, .int .i64 x.low, .int .i64 x.high, .slice A2 x.items.length k2] 117)
      have hB1 := Blk.new wr 117 #[.string x.name, .int .i64 x.kind, .int .i64 x.low, .int .i64 x.high, .slice A2 x.items.length k2]
      have hvar1 := hvar.now hb1
      go_wp2_with fail
      refine (validVar_any x _ _ hvar1).mono ?_
      rintro e w2 ⟨rfl, hb2⟩
      have hB2 := hB1.now hb2
      have hset2 := (hset.now hb1).now hb2
      have hbw2 : Below w.heap.size w w2 := hb.trans ((bthen hb1 hb2).mono hb.size)
      obtain ⟨q0, q1, q2, q3, q4⟩ := hB2.c5
      have hlk := hset2.look hnm
      generalize hq : varB x = q
      have HQ := Lib.hid hq
      clear hq
      cases q
      · have HE := Lib.hid (varsB_bad HX.out HQ.out)
        clear hlk
        go_wp2_with fail
        go_ret
        exact ⟨ret_bool HE.out.symm, hbw2⟩
      · by_cases hin : x.name.data.toList ∈ namesOf (l.take j)
        · have HE := Lib.hid (varsB_twice HX.out hin)
          rw [decide_eq_true hin] at hlk
          clear hin
          go_wp2_with fail
          go_ret
          exact ⟨ret_bool HE.out.symm, hbw2⟩
        · have HI := Lib.hid hin
          rw [decide_eq_false hin] at hlk
          clear hin
          go_wp2_with (at_mapUpdate; refine hset2.store hnm (by unfold maxLen; omega) rfl _ _ _ rfl rfl rfl rfl ?_)
          intro w3 hset3 hg3
          go_wp2_with fail
          go_roundw
          case rel =>
            refine ⟨j + 1, by omega, by go_num, hbw2.trans (below_of_grown hg3 hbw2.size (fun g hg => by injection hg with hg; omega)), ?_, HTO.out.next HX.out HQ.out HI.out⟩
            rw [namesOf_snoc HX.out]
            exact hset3
          case measure => simp [intOf]; omega
    · obtain rfl : j = l.length := by omega
      have HE := Lib.hid (varsB_all HTO.out)
      go_wp2_with fail
      go_ret
      exact ⟨ret_bool (by rw [HE.out, decide_eq_decide]; omega), hb⟩
end Go.Proofs.YtlmenhjlgmejkaaGreatDoor

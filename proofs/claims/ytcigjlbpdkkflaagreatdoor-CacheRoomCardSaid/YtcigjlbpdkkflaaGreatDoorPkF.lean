/- Lay, PathPure, Words, PathWords, PathWalk, GuessWalk, ParseWalk, CcWord, CcTile, CcPut, CcHead, CcOpen -/
import Derived.Shelf.Strings.Builder1
import Derived.Shelf.Strings.Builder2
import Derived.Shelf.Strings.OnBuilder
import Derived.Shelf.LaysM
import Derived.Shelf.Strconv.Itoa3
import Derived.Shelf.Strconv.Itoa4
import Derived.Shelf.LaysC
import Derived.Shelf.Strconv.AtoiAll
import Derived.Shelf.Strconv.ParseIntPublic10
import Derived.Shelf.Strings.Prefix
import Derived.Shelf.Strings.Split
import Derived.Shelf.Strings.Replace
import Derived.Shelf.Strings.SplitShaped
import Derived.Test.YtcigjlbpdkkflaaGreatDoorProg
import Derived.Lib.Replace
import Derived.Lib.Join
import Derived.Lib.AtoiAll
import Derived.Lib.ParseIntB
import Derived.Lib.ItoaNum
import Derived.Lib.ItoaMem
import Derived.Lib.ItoaLen
import Derived.Lib.Strings
import Derived.Test.YtcigjlbpdkkflaaGreatDoorPkB
import Derived.Lib.SmallJoins
import Derived.Test.YtcigjlbpdkkflaaGreatDoorPkC
import Derived.Test.YtcigjlbpdkkflaaGreatDoorPkE
namespace Go.Proofs
open Go.Shelf
def YtcigjlbpdkkflaaGreatDoor.lays169_ren : Go.Shelf.Ren := ⟨fun | 169 => 111 | n => n, fun | 70 => 179 | 9 => 9 | 0 => 0 | 72 => 181 | 37 => 24 | 127 => 222 | 3 => 3 | 5 => 5 | n => n, fun | n => n⟩
theorem YtcigjlbpdkkflaaGreatDoor.lays169 : Go.Proofs.Lays.n169 Tryz.prog YtcigjlbpdkkflaaGreatDoor.lays169_ren := {
  mixed := by kernel_rfl
  f169 := Tryz.func111.trans (congrArg some (by kernel_rfl))
  t0 := Tryz.underlying0
  a0 := Tryz.isAgg0
  z0 := Tryz.sizeOf0
  v0 := Tryz.zeroValue0
  t3 := Tryz.underlying3
  a3 := Tryz.isAgg3
  z3 := Tryz.sizeOf3
  v3 := Tryz.zeroValue3
  t9 := Tryz.underlying9
  a9 := Tryz.isAgg9
  z9 := Tryz.sizeOf9
  v9 := Tryz.zeroValue9
  t37 := Tryz.underlying24
  a37 := Tryz.isAgg24
  z37 := Tryz.sizeOf24
  v37 := Tryz.zeroValue24
  t70 := Tryz.underlying179
  a70 := Tryz.isAgg179
  z70 := Tryz.sizeOf179
  v70 := Tryz.zeroValue179
  t72 := Tryz.underlying181
  a72 := Tryz.isAgg181
  z72 := Tryz.sizeOf181
  v72 := Tryz.zeroValue181
  t127 := Tryz.underlying222
  a127 := Tryz.isAgg222
  z127 := Tryz.sizeOf222
  v127 := Tryz.zeroValue222 }
theorem YtcigjlbpdkkflaaGreatDoor.Builder_Extra_169 : Builder.Extra Tryz.prog YtcigjlbpdkkflaaGreatDoor.lays169_ren := {
  sizeBuilder := by kernel_rfl
  liesBuilder := by kernel_rfl
  t5 := Tryz.underlying5
  a5 := Tryz.isAgg5
  z5 := Tryz.sizeOf5
  v5 := Tryz.zeroValue5
  infoByte := by kernel_rfl
  cellsByte := by kernel_rfl
  sizeByte := by kernel_rfl
  neB5 := by decide }
open Go.RowKit in
theorem YtcigjlbpdkkflaaGreatDoor.Builder_String (B b : Nat) (l : List UInt8) (w : World) (h : Lib.IsBuilder 181 5 B b (Lib.byteCells l) w) (h0 : l ≠ []) :
    Calls Tryz.prog 111 #[.pointer (some ⟨b, 0, none⟩)] w fun e w' => e = .returned (.string ⟨l.toArray⟩) ∧ Below B w w' := Any.Builder_String YtcigjlbpdkkflaaGreatDoor.lays169 YtcigjlbpdkkflaaGreatDoor.Builder_Extra_169 B b l w h h0
def YtcigjlbpdkkflaaGreatDoor.lays156_ren : Go.Shelf.Ren := ⟨fun | 156 => 105 | 165 => 154 | 166 => 108 | 169 => 111 | 240 => 156 | 241 => 200 | 276 => 202 | 277 => 235 | n => n, fun | 31 => 100 | 9 => 9 | 3 => 3 | 4 => 4 | 0 => 0 | 20 => 20 | 72 => 181 | 76 => 171 | 70 => 179 | 37 => 24 | 75 => 170 | 127 => 222 | 164 => 255 | 5 => 5 | 80 => 99 | n => n, fun | n => n⟩
theorem YtcigjlbpdkkflaaGreatDoor.lays156 : Go.Proofs.Lays.n156 Tryz.prog YtcigjlbpdkkflaaGreatDoor.lays156_ren := {
  mixed := by kernel_rfl
  f156 := Tryz.func105.trans (congrArg some (by kernel_rfl))
  f165 := Tryz.func154.trans (congrArg some (by kernel_rfl))
  f166 := Tryz.func108.trans (congrArg some (by kernel_rfl))
  f169 := Tryz.func111.trans (congrArg some (by kernel_rfl))
  f240 := Tryz.func156.trans (congrArg some (by kernel_rfl))
  f241 := Tryz.func200.trans (congrArg some (by kernel_rfl))
  f276 := Tryz.func202.trans (congrArg some (by kernel_rfl))
  f277 := Tryz.func235.trans (congrArg some (by kernel_rfl))
  t0 := Tryz.underlying0
  a0 := Tryz.isAgg0
  z0 := Tryz.sizeOf0
  v0 := Tryz.zeroValue0
  t3 := Tryz.underlying3
  a3 := Tryz.isAgg3
  z3 := Tryz.sizeOf3
  v3 := Tryz.zeroValue3
  t4 := Tryz.underlying4
  a4 := Tryz.isAgg4
  z4 := Tryz.sizeOf4
  v4 := Tryz.zeroValue4
  t9 := Tryz.underlying9
  a9 := Tryz.isAgg9
  z9 := Tryz.sizeOf9
  v9 := Tryz.zeroValue9
  t20 := Tryz.underlying20
  a20 := Tryz.isAgg20
  z20 := Tryz.sizeOf20
  v20 := Tryz.zeroValue20
  t31 := Tryz.underlying100
  a31 := Tryz.isAgg100
  z31 := Tryz.sizeOf100
  v31 := Tryz.zeroValue100
  t37 := Tryz.underlying24
  a37 := Tryz.isAgg24
  z37 := Tryz.sizeOf24
  v37 := Tryz.zeroValue24
  t70 := Tryz.underlying179
  a70 := Tryz.isAgg179
  z70 := Tryz.sizeOf179
  v70 := Tryz.zeroValue179
  t72 := Tryz.underlying181
  a72 := Tryz.isAgg181
  z72 := Tryz.sizeOf181
  v72 := Tryz.zeroValue181
  t75 := Tryz.underlying170
  a75 := Tryz.isAgg170
  z75 := Tryz.sizeOf170
  v75 := Tryz.zeroValue170
  t76 := Tryz.underlying171
  a76 := Tryz.isAgg171
  z76 := Tryz.sizeOf171
  v76 := Tryz.zeroValue171
  t127 := Tryz.underlying222
  a127 := Tryz.isAgg222
  z127 := Tryz.sizeOf222
  v127 := Tryz.zeroValue222
  t164 := Tryz.underlying255
  a164 := Tryz.isAgg255
  z164 := Tryz.sizeOf255
  v164 := Tryz.zeroValue255 }
theorem YtcigjlbpdkkflaaGreatDoor.Builder_Extra_156 : Builder.Extra Tryz.prog YtcigjlbpdkkflaaGreatDoor.lays156_ren := {
  sizeBuilder := by kernel_rfl
  liesBuilder := by kernel_rfl
  t5 := Tryz.underlying5
  a5 := Tryz.isAgg5
  z5 := Tryz.sizeOf5
  v5 := Tryz.zeroValue5
  infoByte := by kernel_rfl
  cellsByte := by kernel_rfl
  sizeByte := by kernel_rfl
  neB5 := by decide }
open Go.RowKit in
theorem YtcigjlbpdkkflaaGreatDoor.strings_Join (bk o c : Nat) (xs : List ByteArray) (sep : ByteArray) (w : World) (hcells : ∀ (j : Nat) x, xs[j]? = some x → w.cell? ⟨bk, o + j, none⟩ = some (.string x)) (hbk : bk < w.heap.size) (hN : xs.length ≤ 140737488355328) (hcap : xs.length ≤ c) (hlen : (Lib.join (xs.map (·.data.toList)) sep.data.toList).length ≤ 140737488355328) :
    Calls Tryz.prog 105 #[.slice (some ⟨bk, o, none⟩) xs.length c, .string sep] w fun e w' => e = .returned (.string ⟨(Lib.join (xs.map (·.data.toList)) sep.data.toList).toArray⟩) ∧ Below w.heap.size w w' := Any.strings_Join YtcigjlbpdkkflaaGreatDoor.lays156 YtcigjlbpdkkflaaGreatDoor.Builder_Extra_156 bk o c xs sep w hcells hbk hN hcap hlen
def YtcigjlbpdkkflaaGreatDoor.laysM171_ren : Go.Shelf.Ren := ⟨fun | 171 => 109 | 243 => 157 | 246 => 158 | 283 => 203 | 284 => 204 | 285 => 205 | 286 => 206 | 129 => 191 | 317 => 238 | 318 => 239 | 319 => 240 | 320 => 241 | 337 => 253 | 338 => 254 | n => n, fun | 3 => 3 | 9 => 9 | 2 => 2 | 4 => 4 | 171 => 257 | 0 => 0 | 53 => 245 | 37 => 24 | 5 => 5 | 173 => 259 | 212 => 285 | 51 => 243 | 20 => 20 | 213 => 286 | 46 => 137 | 232 => 306 | 233 => 307 | n => n, fun | 17 => 2 | 18 => 6 | 19 => 7 | n => n⟩
theorem YtcigjlbpdkkflaaGreatDoor.laysM171 : Go.Proofs.LaysM.n171 Tryz.prog YtcigjlbpdkkflaaGreatDoor.laysM171_ren := {
  mixed := by kernel_rfl
  f129 := Tryz.func191.trans (congrArg some (by kernel_rfl))
  f171 := Tryz.func109.trans (congrArg some (by kernel_rfl))
  f243 := Tryz.func157.trans (congrArg some (by kernel_rfl))
  f246 := Tryz.func158.trans (congrArg some (by kernel_rfl))
  f283 := Tryz.func203.trans (congrArg some (by kernel_rfl))
  f284 := Tryz.func204.trans (congrArg some (by kernel_rfl))
  f285 := Tryz.func205.trans (congrArg some (by kernel_rfl))
  f286 := Tryz.func206.trans (congrArg some (by kernel_rfl))
  f317 := Tryz.func238.trans (congrArg some (by kernel_rfl))
  f318 := Tryz.func239.trans (congrArg some (by kernel_rfl))
  f319 := Tryz.func240.trans (congrArg some (by kernel_rfl))
  f320 := Tryz.func241.trans (congrArg some (by kernel_rfl))
  f337 := Tryz.func253.trans (congrArg some (by kernel_rfl))
  f338 := Tryz.func254.trans (congrArg some (by kernel_rfl))
  t0 := Tryz.underlying0
  a0 := Tryz.isAgg0
  z0 := Tryz.sizeOf0
  v0 := Tryz.zeroValue0
  t2 := Tryz.underlying2
  a2 := Tryz.isAgg2
  z2 := Tryz.sizeOf2
  v2 := Tryz.zeroValue2
  t3 := Tryz.underlying3
  a3 := Tryz.isAgg3
  z3 := Tryz.sizeOf3
  v3 := Tryz.zeroValue3
  t4 := Tryz.underlying4
  a4 := Tryz.isAgg4
  z4 := Tryz.sizeOf4
  v4 := Tryz.zeroValue4
  t5 := Tryz.underlying5
  a5 := Tryz.isAgg5
  z5 := Tryz.sizeOf5
  v5 := Tryz.zeroValue5
  t9 := Tryz.underlying9
  a9 := Tryz.isAgg9
  z9 := Tryz.sizeOf9
  v9 := Tryz.zeroValue9
  t20 := Tryz.underlying20
  a20 := Tryz.isAgg20
  z20 := Tryz.sizeOf20
  v20 := Tryz.zeroValue20
  t37 := Tryz.underlying24
  a37 := Tryz.isAgg24
  z37 := Tryz.sizeOf24
  v37 := Tryz.zeroValue24
  t46 := Tryz.underlying137
  a46 := Tryz.isAgg137
  z46 := Tryz.sizeOf137
  v46 := Tryz.zeroValue137
  t51 := Tryz.underlying243
  a51 := Tryz.isAgg243
  z51 := Tryz.sizeOf243
  v51 := Tryz.zeroValue243
  t53 := Tryz.underlying245
  a53 := Tryz.isAgg245
  z53 := Tryz.sizeOf245
  v53 := Tryz.zeroValue245
  t171 := Tryz.underlying257
  a171 := Tryz.isAgg257
  z171 := Tryz.sizeOf257
  v171 := Tryz.zeroValue257
  t173 := Tryz.underlying259
  a173 := Tryz.isAgg259
  z173 := Tryz.sizeOf259
  v173 := Tryz.zeroValue259
  t212 := Tryz.underlying285
  a212 := Tryz.isAgg285
  z212 := Tryz.sizeOf285
  v212 := Tryz.zeroValue285
  t213 := Tryz.underlying286
  a213 := Tryz.isAgg286
  z213 := Tryz.sizeOf286
  t232 := Tryz.underlying306
  a232 := Tryz.isAgg306
  z232 := Tryz.sizeOf306
  v232 := Tryz.zeroValue306
  t233 := Tryz.underlying307
  a233 := Tryz.isAgg307
  z233 := Tryz.sizeOf307
  v233 := Tryz.zeroValue307
  g17 := by kernel_rfl
  g18 := by kernel_rfl
  g19 := by kernel_rfl
  i0 := by kernel_rfl
  i2 := by kernel_rfl
  i3 := by kernel_rfl
  i4 := by kernel_rfl
  i5 := by kernel_rfl
  i9 := by kernel_rfl
  i20 := by kernel_rfl
  i37 := by kernel_rfl
  i46 := by kernel_rfl
  i51 := by kernel_rfl
  i53 := by kernel_rfl
  i171 := by kernel_rfl
  i173 := by kernel_rfl
  i212 := by kernel_rfl
  i232 := by kernel_rfl
  i233 := by kernel_rfl
  m17 := by kernel_rfl
  m18 := by kernel_rfl
  m19 := by kernel_rfl }
open Go.RowKit Go.Sort Go.Lib in
theorem YtcigjlbpdkkflaaGreatDoor.strconv_Itoa (n : Int) (h0 : -9223372036854775808 ≤ n) (h1 : n ≤ 9223372036854775807) (w : World) (htab : Lib.TabIs Tryz.prog w "internal/strconv.uint64pow10" .u64 Lib.pow10Tab) :
    Calls Tryz.prog 109 #[.int .i64 n] w fun e w' => e = .returned (.string ⟨(Lib.itoa n).toArray⟩) ∧ ∃ k os, w' = grow (w.drewN k) os := Any.strconv_Itoa YtcigjlbpdkkflaaGreatDoor.laysM171 n h0 h1 w htab
def YtcigjlbpdkkflaaGreatDoor.laysM173_ren : Go.Shelf.Ren := ⟨fun | 173 => 110 | 246 => 158 | 283 => 203 | 284 => 204 | 285 => 205 | 286 => 206 | 129 => 191 | 317 => 238 | 318 => 239 | 319 => 240 | 320 => 241 | 337 => 253 | 338 => 254 | n => n, fun | 2 => 2 | 3 => 3 | 9 => 9 | 4 => 4 | 171 => 257 | 0 => 0 | 53 => 245 | 37 => 24 | 5 => 5 | 173 => 259 | 212 => 285 | 51 => 243 | 20 => 20 | 213 => 286 | 46 => 137 | 232 => 306 | 233 => 307 | n => n, fun | 17 => 2 | 18 => 6 | 19 => 7 | n => n⟩
theorem YtcigjlbpdkkflaaGreatDoor.laysM173 : Go.Proofs.LaysM.n173 Tryz.prog YtcigjlbpdkkflaaGreatDoor.laysM173_ren := {
  mixed := by kernel_rfl
  f129 := Tryz.func191.trans (congrArg some (by kernel_rfl))
  f173 := Tryz.func110.trans (congrArg some (by kernel_rfl))
  f246 := Tryz.func158.trans (congrArg some (by kernel_rfl))
  f283 := Tryz.func203.trans (congrArg some (by kernel_rfl))
  f284 := Tryz.func204.trans (congrArg some (by kernel_rfl))
  f285 := Tryz.func205.trans (congrArg some (by kernel_rfl))
  f286 := Tryz.func206.trans (congrArg some (by kernel_rfl))
  f317 := Tryz.func238.trans (congrArg some (by kernel_rfl))
  f318 := Tryz.func239.trans (congrArg some (by kernel_rfl))
  f319 := Tryz.func240.trans (congrArg some (by kernel_rfl))
  f320 := Tryz.func241.trans (congrArg some (by kernel_rfl))
  f337 := Tryz.func253.trans (congrArg some (by kernel_rfl))
  f338 := Tryz.func254.trans (congrArg some (by kernel_rfl))
  t0 := Tryz.underlying0
  a0 := Tryz.isAgg0
  z0 := Tryz.sizeOf0
  v0 := Tryz.zeroValue0
  t2 := Tryz.underlying2
  a2 := Tryz.isAgg2
  z2 := Tryz.sizeOf2
  v2 := Tryz.zeroValue2
  t3 := Tryz.underlying3
  a3 := Tryz.isAgg3
  z3 := Tryz.sizeOf3
  v3 := Tryz.zeroValue3
  t4 := Tryz.underlying4
  a4 := Tryz.isAgg4
  z4 := Tryz.sizeOf4
  v4 := Tryz.zeroValue4
  t5 := Tryz.underlying5
  a5 := Tryz.isAgg5
  z5 := Tryz.sizeOf5
  v5 := Tryz.zeroValue5
  t9 := Tryz.underlying9
  a9 := Tryz.isAgg9
  z9 := Tryz.sizeOf9
  v9 := Tryz.zeroValue9
  t20 := Tryz.underlying20
  a20 := Tryz.isAgg20
  z20 := Tryz.sizeOf20
  v20 := Tryz.zeroValue20
  t37 := Tryz.underlying24
  a37 := Tryz.isAgg24
  z37 := Tryz.sizeOf24
  v37 := Tryz.zeroValue24
  t46 := Tryz.underlying137
  a46 := Tryz.isAgg137
  z46 := Tryz.sizeOf137
  v46 := Tryz.zeroValue137
  t51 := Tryz.underlying243
  a51 := Tryz.isAgg243
  z51 := Tryz.sizeOf243
  v51 := Tryz.zeroValue243
  t53 := Tryz.underlying245
  a53 := Tryz.isAgg245
  z53 := Tryz.sizeOf245
  v53 := Tryz.zeroValue245
  t171 := Tryz.underlying257
  a171 := Tryz.isAgg257
  z171 := Tryz.sizeOf257
  v171 := Tryz.zeroValue257
  t173 := Tryz.underlying259
  a173 := Tryz.isAgg259
  z173 := Tryz.sizeOf259
  v173 := Tryz.zeroValue259
  t212 := Tryz.underlying285
  a212 := Tryz.isAgg285
  z212 := Tryz.sizeOf285
  v212 := Tryz.zeroValue285
  t213 := Tryz.underlying286
  a213 := Tryz.isAgg286
  z213 := Tryz.sizeOf286
  t232 := Tryz.underlying306
  a232 := Tryz.isAgg306
  z232 := Tryz.sizeOf306
  v232 := Tryz.zeroValue306
  t233 := Tryz.underlying307
  a233 := Tryz.isAgg307
  z233 := Tryz.sizeOf307
  v233 := Tryz.zeroValue307
  g17 := by kernel_rfl
  g18 := by kernel_rfl
  g19 := by kernel_rfl
  i0 := by kernel_rfl
  i2 := by kernel_rfl
  i3 := by kernel_rfl
  i4 := by kernel_rfl
  i5 := by kernel_rfl
  i9 := by kernel_rfl
  i20 := by kernel_rfl
  i37 := by kernel_rfl
  i46 := by kernel_rfl
  i51 := by kernel_rfl
  i53 := by kernel_rfl
  i171 := by kernel_rfl
  i173 := by kernel_rfl
  i212 := by kernel_rfl
  i232 := by kernel_rfl
  i233 := by kernel_rfl
  m17 := by kernel_rfl
  m18 := by kernel_rfl
  m19 := by kernel_rfl }
open Go.RowKit Go.Sort Go.Lib in
theorem YtcigjlbpdkkflaaGreatDoor.strconv_FormatInt_10 (n : Int) (h0 : -9223372036854775808 ≤ n) (h1 : n ≤ 9223372036854775807) (w : World) (htab : Lib.TabIs Tryz.prog w "internal/strconv.uint64pow10" .u64 Lib.pow10Tab) :
    Calls Tryz.prog 110 #[.int .i64 n, .int .i64 10] w fun e w' => e = .returned (.string ⟨(Lib.itoa n).toArray⟩) ∧ ∃ k os, w' = grow (w.drewN k) os := Any.strconv_FormatInt_10 YtcigjlbpdkkflaaGreatDoor.laysM173 n h0 h1 w htab
def YtcigjlbpdkkflaaGreatDoor.laysC172_ren : Go.Shelf.Ren := ⟨fun | 172 => 100 | 244 => 149 | 245 => 150 | 247 => 155 | 279 => 195 | 280 => 196 | 281 => 197 | 282 => 198 | 287 => 201 | 316 => 232 | 171 => 109 | 205 => 233 | 321 => 236 | 322 => 237 | 243 => 157 | 246 => 158 | 283 => 203 | 284 => 204 | 285 => 205 | 286 => 206 | 129 => 191 | 317 => 238 | 318 => 239 | 319 => 240 | 320 => 241 | 337 => 253 | 338 => 254 | n => n, fun | 9 => 9 | 3 => 3 | 75 => 170 | 76 => 171 | 4 => 4 | 5 => 5 | 167 => 247 | 37 => 24 | 0 => 0 | 85 => 177 | 2 => 2 | 168 => 248 | 53 => 245 | 175 => 253 | 46 => 137 | 210 => 282 | 127 => 222 | 145 => 297 | 143 => 295 | 21 => 21 | 171 => 257 | 173 => 259 | 212 => 285 | 51 => 243 | 20 => 20 | 213 => 286 | 232 => 306 | 233 => 307 | 80 => 99 | n => n, fun | 15 => 0 | 16 => 1 | 17 => 2 | 18 => 6 | 19 => 7 | n => n⟩
theorem YtcigjlbpdkkflaaGreatDoor.laysC172 : Go.Proofs.LaysC.n172 Tryz.prog YtcigjlbpdkkflaaGreatDoor.laysC172_ren := {
  mixed := by kernel_rfl
  f129 := Tryz.func191.trans (congrArg some (by kernel_rfl))
  f171 := Tryz.func109.trans (congrArg some (by kernel_rfl))
  f172 := Tryz.func100.trans (congrArg some (by kernel_rfl))
  f205 := Tryz.func233.trans (congrArg some (by kernel_rfl))
  f243 := Tryz.func157.trans (congrArg some (by kernel_rfl))
  f244 := Tryz.func149.trans (congrArg some (by kernel_rfl))
  f245 := Tryz.func150.trans (congrArg some (by kernel_rfl))
  f246 := Tryz.func158.trans (congrArg some (by kernel_rfl))
  f247 := Tryz.func155.trans (congrArg some (by kernel_rfl))
  f279 := Tryz.func195.trans (congrArg some (by kernel_rfl))
  f280 := Tryz.func196.trans (congrArg some (by kernel_rfl))
  f281 := Tryz.func197.trans (congrArg some (by kernel_rfl))
  f282 := Tryz.func198.trans (congrArg some (by kernel_rfl))
  f283 := Tryz.func203.trans (congrArg some (by kernel_rfl))
  f284 := Tryz.func204.trans (congrArg some (by kernel_rfl))
  f285 := Tryz.func205.trans (congrArg some (by kernel_rfl))
  f286 := Tryz.func206.trans (congrArg some (by kernel_rfl))
  f287 := Tryz.func201.trans (congrArg some (by kernel_rfl))
  f316 := Tryz.func232.trans (congrArg some (by kernel_rfl))
  f317 := Tryz.func238.trans (congrArg some (by kernel_rfl))
  f318 := Tryz.func239.trans (congrArg some (by kernel_rfl))
  f319 := Tryz.func240.trans (congrArg some (by kernel_rfl))
  f320 := Tryz.func241.trans (congrArg some (by kernel_rfl))
  f321 := Tryz.func236.trans (congrArg some (by kernel_rfl))
  f322 := Tryz.func237.trans (congrArg some (by kernel_rfl))
  f337 := Tryz.func253.trans (congrArg some (by kernel_rfl))
  f338 := Tryz.func254.trans (congrArg some (by kernel_rfl))
  t0 := Tryz.underlying0
  a0 := Tryz.isAgg0
  z0 := Tryz.sizeOf0
  v0 := Tryz.zeroValue0
  t2 := Tryz.underlying2
  a2 := Tryz.isAgg2
  z2 := Tryz.sizeOf2
  v2 := Tryz.zeroValue2
  t3 := Tryz.underlying3
  a3 := Tryz.isAgg3
  z3 := Tryz.sizeOf3
  v3 := Tryz.zeroValue3
  t4 := Tryz.underlying4
  a4 := Tryz.isAgg4
  z4 := Tryz.sizeOf4
  v4 := Tryz.zeroValue4
  t5 := Tryz.underlying5
  a5 := Tryz.isAgg5
  z5 := Tryz.sizeOf5
  v5 := Tryz.zeroValue5
  t9 := Tryz.underlying9
  a9 := Tryz.isAgg9
  z9 := Tryz.sizeOf9
  v9 := Tryz.zeroValue9
  t20 := Tryz.underlying20
  a20 := Tryz.isAgg20
  z20 := Tryz.sizeOf20
  v20 := Tryz.zeroValue20
  t21 := Tryz.underlying21
  a21 := Tryz.isAgg21
  z21 := Tryz.sizeOf21
  v21 := Tryz.zeroValue21
  t37 := Tryz.underlying24
  a37 := Tryz.isAgg24
  z37 := Tryz.sizeOf24
  v37 := Tryz.zeroValue24
  t46 := Tryz.underlying137
  a46 := Tryz.isAgg137
  z46 := Tryz.sizeOf137
  v46 := Tryz.zeroValue137
  t51 := Tryz.underlying243
  a51 := Tryz.isAgg243
  z51 := Tryz.sizeOf243
  v51 := Tryz.zeroValue243
  t53 := Tryz.underlying245
  a53 := Tryz.isAgg245
  z53 := Tryz.sizeOf245
  v53 := Tryz.zeroValue245
  t75 := Tryz.underlying170
  a75 := Tryz.isAgg170
  z75 := Tryz.sizeOf170
  v75 := Tryz.zeroValue170
  t76 := Tryz.underlying171
  a76 := Tryz.isAgg171
  z76 := Tryz.sizeOf171
  v76 := Tryz.zeroValue171
  t85 := Tryz.underlying177
  a85 := Tryz.isAgg177
  z85 := Tryz.sizeOf177
  v85 := Tryz.zeroValue177
  t127 := Tryz.underlying222
  a127 := Tryz.isAgg222
  z127 := Tryz.sizeOf222
  v127 := Tryz.zeroValue222
  t143 := Tryz.underlying295
  a143 := Tryz.isAgg295
  z143 := Tryz.sizeOf295
  v143 := Tryz.zeroValue295
  t145 := Tryz.underlying297
  a145 := Tryz.isAgg297
  z145 := Tryz.sizeOf297
  v145 := Tryz.zeroValue297
  t167 := Tryz.underlying247
  a167 := Tryz.isAgg247
  z167 := Tryz.sizeOf247
  v167 := Tryz.zeroValue247
  t168 := Tryz.underlying248
  a168 := Tryz.isAgg248
  z168 := Tryz.sizeOf248
  v168 := Tryz.zeroValue248
  t171 := Tryz.underlying257
  a171 := Tryz.isAgg257
  z171 := Tryz.sizeOf257
  v171 := Tryz.zeroValue257
  t173 := Tryz.underlying259
  a173 := Tryz.isAgg259
  z173 := Tryz.sizeOf259
  v173 := Tryz.zeroValue259
  t175 := Tryz.underlying253
  a175 := Tryz.isAgg253
  z175 := Tryz.sizeOf253
  v175 := Tryz.zeroValue253
  t210 := Tryz.underlying282
  a210 := Tryz.isAgg282
  z210 := Tryz.sizeOf282
  v210 := Tryz.zeroValue282
  t212 := Tryz.underlying285
  a212 := Tryz.isAgg285
  z212 := Tryz.sizeOf285
  v212 := Tryz.zeroValue285
  t213 := Tryz.underlying286
  a213 := Tryz.isAgg286
  z213 := Tryz.sizeOf286
  t232 := Tryz.underlying306
  a232 := Tryz.isAgg306
  z232 := Tryz.sizeOf306
  v232 := Tryz.zeroValue306
  t233 := Tryz.underlying307
  a233 := Tryz.isAgg307
  z233 := Tryz.sizeOf307
  v233 := Tryz.zeroValue307
  g15 := by kernel_rfl
  g16 := by kernel_rfl
  g17 := by kernel_rfl
  g18 := by kernel_rfl
  g19 := by kernel_rfl
  t80 := Tryz.underlying99
  a80 := Tryz.isAgg99
  z80 := Tryz.sizeOf99
  v80 := Tryz.zeroValue99
  i0 := by kernel_rfl
  i2 := by kernel_rfl
  i3 := by kernel_rfl
  i4 := by kernel_rfl
  i5 := by kernel_rfl
  i9 := by kernel_rfl
  i20 := by kernel_rfl
  i21 := by kernel_rfl
  i37 := by kernel_rfl
  i46 := by kernel_rfl
  i51 := by kernel_rfl
  i53 := by kernel_rfl
  i75 := by kernel_rfl
  i76 := by kernel_rfl
  i80 := by kernel_rfl
  i85 := by kernel_rfl
  i127 := by kernel_rfl
  i143 := by kernel_rfl
  i145 := by kernel_rfl
  i167 := by kernel_rfl
  i168 := by kernel_rfl
  i171 := by kernel_rfl
  i173 := by kernel_rfl
  i175 := by kernel_rfl
  i210 := by kernel_rfl
  i212 := by kernel_rfl
  i232 := by kernel_rfl
  i233 := by kernel_rfl
  m15 := by kernel_rfl
  m16 := by kernel_rfl
  m17 := by kernel_rfl
  m18 := by kernel_rfl
  m19 := by kernel_rfl
  c0 := by kernel_rfl
  c2 := by kernel_rfl
  c3 := by kernel_rfl
  c4 := by kernel_rfl
  c5 := by kernel_rfl
  c9 := by kernel_rfl
  c20 := by kernel_rfl
  c21 := by kernel_rfl
  c37 := by kernel_rfl
  c46 := by kernel_rfl
  c51 := by kernel_rfl
  c53 := by kernel_rfl
  c75 := by kernel_rfl
  c76 := by kernel_rfl
  c80 := by kernel_rfl
  c85 := by kernel_rfl
  c127 := by kernel_rfl
  c143 := by kernel_rfl
  c145 := by kernel_rfl
  c167 := by kernel_rfl
  c168 := by kernel_rfl
  c171 := by kernel_rfl
  c173 := by kernel_rfl
  c175 := by kernel_rfl
  c210 := by kernel_rfl
  c212 := by kernel_rfl
  c213 := by kernel_rfl
  c232 := by kernel_rfl
  c233 := by kernel_rfl }
open Go.RowKit in
theorem YtcigjlbpdkkflaaGreatDoor.strconv_Atoi_ok (s : ByteArray) (hmax : s.size ≤ 9223372036854775806) (v : Int) (h : Lib.atoiAll s.data.toList = .ok v) (w : World) :
    Calls Tryz.prog 100 #[.string s] w fun e w' => e = .returned (.tuple #[.int .i64 v, .nilIface]) ∧ (w' = w ∨ ∃ t, w' = Lib.bytesWorld w 5 t) := Any.strconv_Atoi_ok YtcigjlbpdkkflaaGreatDoor.laysC172 s hmax v h w
open Go.RowKit in
theorem YtcigjlbpdkkflaaGreatDoor.strconv_Atoi_syntax (s : ByteArray) (hlim : s.size ≤ 281474976710656) (h : Lib.atoiAll s.data.toList = .«syntax») (ev : Value) (w : World) (hv : w.cell? ⟨0, 0, none⟩ = some ev) (hev : ev = .nilIface ∨ ∃ te pe, ev = .iface te pe) :
    Calls Tryz.prog 100 #[.string s] w fun e w' => ∃ N, e = .returned (.tuple #[.int .i64 (0), .iface 248 (.pointer (some ⟨N, 0, none⟩))]) ∧ w.heap.size ≤ N ∧ w'.heap[N]? = some (.cells #[.string ⟨#[65, 116, 111, 105]⟩, .string s, ev] 282 (0, 0)) ∧ Below w.heap.size w w' := Any.strconv_Atoi_syntax YtcigjlbpdkkflaaGreatDoor.laysC172 s hlim h ev w hv hev
open Go.RowKit in
theorem YtcigjlbpdkkflaaGreatDoor.strconv_Atoi_range (s : ByteArray) (hlim : s.size ≤ 281474976710656) (h : Lib.atoiAll s.data.toList = .range) (ev : Value) (w : World) (hv : w.cell? ⟨1, 0, none⟩ = some ev) (hev : ev = .nilIface ∨ ∃ te pe, ev = .iface te pe) :
    Calls Tryz.prog 100 #[.string s] w fun e w' => ∃ N, e = .returned (.tuple #[.int .i64 (Lib.atoiSat s.data.toList), .iface 248 (.pointer (some ⟨N, 0, none⟩))]) ∧ w.heap.size ≤ N ∧ w'.heap[N]? = some (.cells #[.string ⟨#[65, 116, 111, 105]⟩, .string s, ev] 282 (0, 0)) ∧ Below w.heap.size w w' := Any.strconv_Atoi_range YtcigjlbpdkkflaaGreatDoor.laysC172 s hlim h ev w hv hev
def YtcigjlbpdkkflaaGreatDoor.laysC174_ren : Go.Shelf.Ren := ⟨fun | 174 => 106 | 247 => 155 | 245 => 150 | 287 => 201 | 279 => 195 | 280 => 196 | 281 => 197 | 282 => 198 | 321 => 236 | 322 => 237 | 316 => 232 | 171 => 109 | 205 => 233 | 243 => 157 | 246 => 158 | 283 => 203 | 284 => 204 | 285 => 205 | 286 => 206 | 129 => 191 | 317 => 238 | 318 => 239 | 319 => 240 | 320 => 241 | 337 => 253 | 338 => 254 | n => n, fun | 9 => 9 | 3 => 3 | 2 => 2 | 75 => 170 | 85 => 177 | 4 => 4 | 167 => 247 | 5 => 5 | 53 => 245 | 175 => 253 | 46 => 137 | 168 => 248 | 37 => 24 | 0 => 0 | 210 => 282 | 21 => 21 | 127 => 222 | 145 => 297 | 143 => 295 | 171 => 257 | 173 => 259 | 212 => 285 | 51 => 243 | 20 => 20 | 213 => 286 | 232 => 306 | 233 => 307 | 80 => 99 | n => n, fun | 15 => 0 | 16 => 1 | 17 => 2 | 18 => 6 | 19 => 7 | n => n⟩
theorem YtcigjlbpdkkflaaGreatDoor.laysC174 : Go.Proofs.LaysC.n174 Tryz.prog YtcigjlbpdkkflaaGreatDoor.laysC174_ren := {
  mixed := by kernel_rfl
  f129 := Tryz.func191.trans (congrArg some (by kernel_rfl))
  f171 := Tryz.func109.trans (congrArg some (by kernel_rfl))
  f174 := Tryz.func106.trans (congrArg some (by kernel_rfl))
  f205 := Tryz.func233.trans (congrArg some (by kernel_rfl))
  f243 := Tryz.func157.trans (congrArg some (by kernel_rfl))
  f245 := Tryz.func150.trans (congrArg some (by kernel_rfl))
  f246 := Tryz.func158.trans (congrArg some (by kernel_rfl))
  f247 := Tryz.func155.trans (congrArg some (by kernel_rfl))
  f279 := Tryz.func195.trans (congrArg some (by kernel_rfl))
  f280 := Tryz.func196.trans (congrArg some (by kernel_rfl))
  f281 := Tryz.func197.trans (congrArg some (by kernel_rfl))
  f282 := Tryz.func198.trans (congrArg some (by kernel_rfl))
  f283 := Tryz.func203.trans (congrArg some (by kernel_rfl))
  f284 := Tryz.func204.trans (congrArg some (by kernel_rfl))
  f285 := Tryz.func205.trans (congrArg some (by kernel_rfl))
  f286 := Tryz.func206.trans (congrArg some (by kernel_rfl))
  f287 := Tryz.func201.trans (congrArg some (by kernel_rfl))
  f316 := Tryz.func232.trans (congrArg some (by kernel_rfl))
  f317 := Tryz.func238.trans (congrArg some (by kernel_rfl))
  f318 := Tryz.func239.trans (congrArg some (by kernel_rfl))
  f319 := Tryz.func240.trans (congrArg some (by kernel_rfl))
  f320 := Tryz.func241.trans (congrArg some (by kernel_rfl))
  f321 := Tryz.func236.trans (congrArg some (by kernel_rfl))
  f322 := Tryz.func237.trans (congrArg some (by kernel_rfl))
  f337 := Tryz.func253.trans (congrArg some (by kernel_rfl))
  f338 := Tryz.func254.trans (congrArg some (by kernel_rfl))
  t0 := Tryz.underlying0
  a0 := Tryz.isAgg0
  z0 := Tryz.sizeOf0
  v0 := Tryz.zeroValue0
  t2 := Tryz.underlying2
  a2 := Tryz.isAgg2
  z2 := Tryz.sizeOf2
  v2 := Tryz.zeroValue2
  t3 := Tryz.underlying3
  a3 := Tryz.isAgg3
  z3 := Tryz.sizeOf3
  v3 := Tryz.zeroValue3
  t4 := Tryz.underlying4
  a4 := Tryz.isAgg4
  z4 := Tryz.sizeOf4
  v4 := Tryz.zeroValue4
  t5 := Tryz.underlying5
  a5 := Tryz.isAgg5
  z5 := Tryz.sizeOf5
  v5 := Tryz.zeroValue5
  t9 := Tryz.underlying9
  a9 := Tryz.isAgg9
  z9 := Tryz.sizeOf9
  v9 := Tryz.zeroValue9
  t20 := Tryz.underlying20
  a20 := Tryz.isAgg20
  z20 := Tryz.sizeOf20
  v20 := Tryz.zeroValue20
  t21 := Tryz.underlying21
  a21 := Tryz.isAgg21
  z21 := Tryz.sizeOf21
  v21 := Tryz.zeroValue21
  t37 := Tryz.underlying24
  a37 := Tryz.isAgg24
  z37 := Tryz.sizeOf24
  v37 := Tryz.zeroValue24
  t46 := Tryz.underlying137
  a46 := Tryz.isAgg137
  z46 := Tryz.sizeOf137
  v46 := Tryz.zeroValue137
  t51 := Tryz.underlying243
  a51 := Tryz.isAgg243
  z51 := Tryz.sizeOf243
  v51 := Tryz.zeroValue243
  t53 := Tryz.underlying245
  a53 := Tryz.isAgg245
  z53 := Tryz.sizeOf245
  v53 := Tryz.zeroValue245
  t75 := Tryz.underlying170
  a75 := Tryz.isAgg170
  z75 := Tryz.sizeOf170
  v75 := Tryz.zeroValue170
  t85 := Tryz.underlying177
  a85 := Tryz.isAgg177
  z85 := Tryz.sizeOf177
  v85 := Tryz.zeroValue177
  t127 := Tryz.underlying222
  a127 := Tryz.isAgg222
  z127 := Tryz.sizeOf222
  v127 := Tryz.zeroValue222
  t143 := Tryz.underlying295
  a143 := Tryz.isAgg295
  z143 := Tryz.sizeOf295
  v143 := Tryz.zeroValue295
  t145 := Tryz.underlying297
  a145 := Tryz.isAgg297
  z145 := Tryz.sizeOf297
  v145 := Tryz.zeroValue297
  t167 := Tryz.underlying247
  a167 := Tryz.isAgg247
  z167 := Tryz.sizeOf247
  v167 := Tryz.zeroValue247
  t168 := Tryz.underlying248
  a168 := Tryz.isAgg248
  z168 := Tryz.sizeOf248
  v168 := Tryz.zeroValue248
  t171 := Tryz.underlying257
  a171 := Tryz.isAgg257
  z171 := Tryz.sizeOf257
  v171 := Tryz.zeroValue257
  t173 := Tryz.underlying259
  a173 := Tryz.isAgg259
  z173 := Tryz.sizeOf259
  v173 := Tryz.zeroValue259
  t175 := Tryz.underlying253
  a175 := Tryz.isAgg253
  z175 := Tryz.sizeOf253
  v175 := Tryz.zeroValue253
  t210 := Tryz.underlying282
  a210 := Tryz.isAgg282
  z210 := Tryz.sizeOf282
  v210 := Tryz.zeroValue282
  t212 := Tryz.underlying285
  a212 := Tryz.isAgg285
  z212 := Tryz.sizeOf285
  v212 := Tryz.zeroValue285
  t213 := Tryz.underlying286
  a213 := Tryz.isAgg286
  z213 := Tryz.sizeOf286
  t232 := Tryz.underlying306
  a232 := Tryz.isAgg306
  z232 := Tryz.sizeOf306
  v232 := Tryz.zeroValue306
  t233 := Tryz.underlying307
  a233 := Tryz.isAgg307
  z233 := Tryz.sizeOf307
  v233 := Tryz.zeroValue307
  g15 := by kernel_rfl
  g16 := by kernel_rfl
  g17 := by kernel_rfl
  g18 := by kernel_rfl
  g19 := by kernel_rfl
  t80 := Tryz.underlying99
  a80 := Tryz.isAgg99
  z80 := Tryz.sizeOf99
  v80 := Tryz.zeroValue99
  i0 := by kernel_rfl
  i2 := by kernel_rfl
  i3 := by kernel_rfl
  i4 := by kernel_rfl
  i5 := by kernel_rfl
  i9 := by kernel_rfl
  i20 := by kernel_rfl
  i21 := by kernel_rfl
  i37 := by kernel_rfl
  i46 := by kernel_rfl
  i51 := by kernel_rfl
  i53 := by kernel_rfl
  i75 := by kernel_rfl
  i80 := by kernel_rfl
  i85 := by kernel_rfl
  i127 := by kernel_rfl
  i143 := by kernel_rfl
  i145 := by kernel_rfl
  i167 := by kernel_rfl
  i168 := by kernel_rfl
  i171 := by kernel_rfl
  i173 := by kernel_rfl
  i175 := by kernel_rfl
  i210 := by kernel_rfl
  i212 := by kernel_rfl
  i232 := by kernel_rfl
  i233 := by kernel_rfl
  m15 := by kernel_rfl
  m16 := by kernel_rfl
  m17 := by kernel_rfl
  m18 := by kernel_rfl
  m19 := by kernel_rfl
  c0 := by kernel_rfl
  c2 := by kernel_rfl
  c3 := by kernel_rfl
  c4 := by kernel_rfl
  c5 := by kernel_rfl
  c9 := by kernel_rfl
  c20 := by kernel_rfl
  c21 := by kernel_rfl
  c37 := by kernel_rfl
  c46 := by kernel_rfl
  c51 := by kernel_rfl
  c53 := by kernel_rfl
  c75 := by kernel_rfl
  c80 := by kernel_rfl
  c85 := by kernel_rfl
  c127 := by kernel_rfl
  c143 := by kernel_rfl
  c145 := by kernel_rfl
  c167 := by kernel_rfl
  c168 := by kernel_rfl
  c171 := by kernel_rfl
  c173 := by kernel_rfl
  c175 := by kernel_rfl
  c210 := by kernel_rfl
  c212 := by kernel_rfl
  c213 := by kernel_rfl
  c232 := by kernel_rfl
  c233 := by kernel_rfl }
open Go.RowKit in
theorem YtcigjlbpdkkflaaGreatDoor.strconv_ParseInt_10_at64_ok (s : ByteArray) (hmax : s.size ≤ 9223372036854775806) (v : Int) (h : Lib.parseIntB 64 s.data.toList = .ok v) (w : World) :
    Calls Tryz.prog 106 #[.string s, .int .i64 10, .int .i64 64] w fun e w' => e = .returned (.tuple #[.int .i64 v, .nilIface]) ∧ (w' = w ∨ ∃ t, w' = Lib.bytesWorld w 5 t) := Any.strconv_ParseInt_10_at64_ok YtcigjlbpdkkflaaGreatDoor.laysC174 s hmax v h w
open Go.RowKit in
theorem YtcigjlbpdkkflaaGreatDoor.strconv_ParseInt_10_at64_syntax (s : ByteArray) (hlim : s.size ≤ 281474976710656) (h : Lib.parseIntB 64 s.data.toList = .«syntax») (ev : Value) (w : World) (hv : w.cell? ⟨0, 0, none⟩ = some ev) (hev : ev = .nilIface ∨ ∃ te pe, ev = .iface te pe) :
    Calls Tryz.prog 106 #[.string s, .int .i64 10, .int .i64 64] w fun e w' => ∃ N, e = .returned (.tuple #[.int .i64 (0), .iface 248 (.pointer (some ⟨N, 0, none⟩))]) ∧ w.heap.size ≤ N ∧ w'.heap[N]? = some (.cells #[.string ⟨#[80, 97, 114, 115, 101, 73, 110, 116]⟩, .string s, ev] 282 (0, 0)) ∧ Below w.heap.size w w' := Any.strconv_ParseInt_10_at64_syntax YtcigjlbpdkkflaaGreatDoor.laysC174 s hlim h ev w hv hev
open Go.RowKit in
theorem YtcigjlbpdkkflaaGreatDoor.strconv_ParseInt_10_at64_range (s : ByteArray) (hlim : s.size ≤ 281474976710656) (h : Lib.parseIntB 64 s.data.toList = .range) (ev : Value) (w : World) (hv : w.cell? ⟨1, 0, none⟩ = some ev) (hev : ev = .nilIface ∨ ∃ te pe, ev = .iface te pe) :
    Calls Tryz.prog 106 #[.string s, .int .i64 10, .int .i64 64] w fun e w' => ∃ N, e = .returned (.tuple #[.int .i64 (Lib.intSat 64 s.data.toList), .iface 248 (.pointer (some ⟨N, 0, none⟩))]) ∧ w.heap.size ≤ N ∧ w'.heap[N]? = some (.cells #[.string ⟨#[80, 97, 114, 115, 101, 73, 110, 116]⟩, .string s, ev] 282 (0, 0)) ∧ Below w.heap.size w w' := Any.strconv_ParseInt_10_at64_range YtcigjlbpdkkflaaGreatDoor.laysC174 s hlim h ev w hv hev
def YtcigjlbpdkkflaaGreatDoor.lays100_ren : Go.Shelf.Ren := ⟨fun | 100 => 102 | 207 => 151 | n => n, fun | 9 => 9 | 4 => 4 | 3 => 3 | n => n, fun | n => n⟩
theorem YtcigjlbpdkkflaaGreatDoor.lays100 : Go.Proofs.Lays.n100 Tryz.prog YtcigjlbpdkkflaaGreatDoor.lays100_ren := {
  mixed := by kernel_rfl
  f100 := Tryz.func102.trans (congrArg some (by kernel_rfl))
  f207 := Tryz.func151.trans (congrArg some (by kernel_rfl))
  t3 := Tryz.underlying3
  a3 := Tryz.isAgg3
  z3 := Tryz.sizeOf3
  v3 := Tryz.zeroValue3
  t4 := Tryz.underlying4
  a4 := Tryz.isAgg4
  z4 := Tryz.sizeOf4
  v4 := Tryz.zeroValue4
  t9 := Tryz.underlying9
  a9 := Tryz.isAgg9
  z9 := Tryz.sizeOf9
  v9 := Tryz.zeroValue9 }
open Go.RowKit Go.Lib in
theorem YtcigjlbpdkkflaaGreatDoor.strings_HasSuffix (s p : ByteArray) (w : World) (hs : s.size ≤ 9223372036854775807) :
    Calls Tryz.prog 102 #[.string s, .string p] w fun e w' => e = .returned (.bool (Lib.hasSuffix s.data.toList p.data.toList)) ∧ w' = w := Any.strings_HasSuffix YtcigjlbpdkkflaaGreatDoor.lays100 s p w hs
def YtcigjlbpdkkflaaGreatDoor.lays102_ren : Go.Shelf.Ren := ⟨fun | 102 => 103 | 209 => 152 | 207 => 151 | n => n, fun | 9 => 9 | 4 => 4 | 3 => 3 | n => n, fun | n => n⟩
theorem YtcigjlbpdkkflaaGreatDoor.lays102 : Go.Proofs.Lays.n102 Tryz.prog YtcigjlbpdkkflaaGreatDoor.lays102_ren := {
  mixed := by kernel_rfl
  f102 := Tryz.func103.trans (congrArg some (by kernel_rfl))
  f207 := Tryz.func151.trans (congrArg some (by kernel_rfl))
  f209 := Tryz.func152.trans (congrArg some (by kernel_rfl))
  t3 := Tryz.underlying3
  a3 := Tryz.isAgg3
  z3 := Tryz.sizeOf3
  v3 := Tryz.zeroValue3
  t4 := Tryz.underlying4
  a4 := Tryz.isAgg4
  z4 := Tryz.sizeOf4
  v4 := Tryz.zeroValue4
  t9 := Tryz.underlying9
  a9 := Tryz.isAgg9
  z9 := Tryz.sizeOf9
  v9 := Tryz.zeroValue9 }
open Go.RowKit Go.Lib in
theorem YtcigjlbpdkkflaaGreatDoor.strings_TrimSuffix (s p : ByteArray) (w : World) (hs : s.size ≤ 9223372036854775807) :
    Calls Tryz.prog 103 #[.string s, .string p] w fun e w' => e = .returned (.string ⟨(Lib.trimSuffix s.data.toList p.data.toList).toArray⟩) ∧ w' = w := Any.strings_TrimSuffix YtcigjlbpdkkflaaGreatDoor.lays102 s p w hs
def YtcigjlbpdkkflaaGreatDoor.lays155_ren : Go.Shelf.Ren := ⟨fun | 155 => 104 | 154 => 153 | 138 => 193 | 165 => 154 | 143 => 194 | 166 => 108 | 197 => 199 | 169 => 111 | 195 => 229 | 218 => 230 | 240 => 156 | 241 => 200 | 219 => 231 | 260 => 234 | 276 => 202 | 277 => 235 | 217 => 249 | 225 => 250 | 224 => 251 | 267 => 252 | 266 => 258 | 314 => 259 | n => n, fun | 9 => 9 | 3 => 3 | 4 => 4 | 72 => 181 | 0 => 0 | 76 => 171 | 105 => 251 | 21 => 21 | 5 => 5 | 70 => 179 | 20 => 20 | 37 => 24 | 75 => 170 | 127 => 222 | 164 => 255 | 46 => 137 | 119 => 298 | 139 => 301 | 138 => 300 | 146 => 304 | 51 => 243 | 80 => 99 | n => n, fun | 1 => 3 | 3 => 4 | 4 => 5 | n => n⟩
theorem YtcigjlbpdkkflaaGreatDoor.lays155 : Go.Proofs.Lays.n155 Tryz.prog YtcigjlbpdkkflaaGreatDoor.lays155_ren := {
  mixed := by kernel_rfl
  f138 := Tryz.func193.trans (congrArg some (by kernel_rfl))
  f143 := Tryz.func194.trans (congrArg some (by kernel_rfl))
  f154 := Tryz.func153.trans (congrArg some (by kernel_rfl))
  f155 := Tryz.func104.trans (congrArg some (by kernel_rfl))
  f165 := Tryz.func154.trans (congrArg some (by kernel_rfl))
  f166 := Tryz.func108.trans (congrArg some (by kernel_rfl))
  f169 := Tryz.func111.trans (congrArg some (by kernel_rfl))
  f195 := Tryz.func229.trans (congrArg some (by kernel_rfl))
  f197 := Tryz.func199.trans (congrArg some (by kernel_rfl))
  f217 := Tryz.func249.trans (congrArg some (by kernel_rfl))
  f218 := Tryz.func230.trans (congrArg some (by kernel_rfl))
  f219 := Tryz.func231.trans (congrArg some (by kernel_rfl))
  f224 := Tryz.func251.trans (congrArg some (by kernel_rfl))
  f225 := Tryz.func250.trans (congrArg some (by kernel_rfl))
  f240 := Tryz.func156.trans (congrArg some (by kernel_rfl))
  f241 := Tryz.func200.trans (congrArg some (by kernel_rfl))
  f260 := Tryz.func234.trans (congrArg some (by kernel_rfl))
  f266 := Tryz.func258.trans (congrArg some (by kernel_rfl))
  f267 := Tryz.func252.trans (congrArg some (by kernel_rfl))
  f276 := Tryz.func202.trans (congrArg some (by kernel_rfl))
  f277 := Tryz.func235.trans (congrArg some (by kernel_rfl))
  f314 := Tryz.func259.trans (congrArg some (by kernel_rfl))
  t0 := Tryz.underlying0
  a0 := Tryz.isAgg0
  z0 := Tryz.sizeOf0
  v0 := Tryz.zeroValue0
  t3 := Tryz.underlying3
  a3 := Tryz.isAgg3
  z3 := Tryz.sizeOf3
  v3 := Tryz.zeroValue3
  t4 := Tryz.underlying4
  a4 := Tryz.isAgg4
  z4 := Tryz.sizeOf4
  v4 := Tryz.zeroValue4
  t5 := Tryz.underlying5
  a5 := Tryz.isAgg5
  z5 := Tryz.sizeOf5
  v5 := Tryz.zeroValue5
  t9 := Tryz.underlying9
  a9 := Tryz.isAgg9
  z9 := Tryz.sizeOf9
  v9 := Tryz.zeroValue9
  t20 := Tryz.underlying20
  a20 := Tryz.isAgg20
  z20 := Tryz.sizeOf20
  v20 := Tryz.zeroValue20
  t21 := Tryz.underlying21
  a21 := Tryz.isAgg21
  z21 := Tryz.sizeOf21
  v21 := Tryz.zeroValue21
  t37 := Tryz.underlying24
  a37 := Tryz.isAgg24
  z37 := Tryz.sizeOf24
  v37 := Tryz.zeroValue24
  t46 := Tryz.underlying137
  a46 := Tryz.isAgg137
  z46 := Tryz.sizeOf137
  v46 := Tryz.zeroValue137
  t51 := Tryz.underlying243
  a51 := Tryz.isAgg243
  z51 := Tryz.sizeOf243
  v51 := Tryz.zeroValue243
  t70 := Tryz.underlying179
  a70 := Tryz.isAgg179
  z70 := Tryz.sizeOf179
  v70 := Tryz.zeroValue179
  t72 := Tryz.underlying181
  a72 := Tryz.isAgg181
  z72 := Tryz.sizeOf181
  v72 := Tryz.zeroValue181
  t75 := Tryz.underlying170
  a75 := Tryz.isAgg170
  z75 := Tryz.sizeOf170
  v75 := Tryz.zeroValue170
  t76 := Tryz.underlying171
  a76 := Tryz.isAgg171
  z76 := Tryz.sizeOf171
  v76 := Tryz.zeroValue171
  t105 := Tryz.underlying251
  a105 := Tryz.isAgg251
  z105 := Tryz.sizeOf251
  v105 := Tryz.zeroValue251
  t119 := Tryz.underlying298
  a119 := Tryz.isAgg298
  z119 := Tryz.sizeOf298
  t127 := Tryz.underlying222
  a127 := Tryz.isAgg222
  z127 := Tryz.sizeOf222
  v127 := Tryz.zeroValue222
  t138 := Tryz.underlying300
  a138 := Tryz.isAgg300
  z138 := Tryz.sizeOf300
  v138 := Tryz.zeroValue300
  t139 := Tryz.underlying301
  a139 := Tryz.isAgg301
  z139 := Tryz.sizeOf301
  v139 := Tryz.zeroValue301
  t146 := Tryz.underlying304
  a146 := Tryz.isAgg304
  z146 := Tryz.sizeOf304
  v146 := Tryz.zeroValue304
  t164 := Tryz.underlying255
  a164 := Tryz.isAgg255
  z164 := Tryz.sizeOf255
  v164 := Tryz.zeroValue255
  g1 := by kernel_rfl
  g3 := by kernel_rfl
  g4 := by kernel_rfl }
theorem YtcigjlbpdkkflaaGreatDoor.Builder_Extra_155 : Builder.Extra Tryz.prog YtcigjlbpdkkflaaGreatDoor.lays155_ren := {
  sizeBuilder := by kernel_rfl
  liesBuilder := by kernel_rfl
  t5 := Tryz.underlying5
  a5 := Tryz.isAgg5
  z5 := Tryz.sizeOf5
  v5 := Tryz.zeroValue5
  infoByte := by kernel_rfl
  cellsByte := by kernel_rfl
  sizeByte := by kernel_rfl
  neB5 := by decide }
open Go.RowKit Go.Lib in
theorem YtcigjlbpdkkflaaGreatDoor.strings_ReplaceAll (s old new : ByteArray) (m : Int) (w : World) (hs : s.size < 4294967281) (hm : w.cell? ⟨3, 0, none⟩ = some (.int .i64 m)) (h1 : 1 ≤ old.size) (hlen : s.size + Lib.countB s old * new.size ≤ 140737488355328) :
    Calls Tryz.prog 104 #[.string s, .string old, .string new] w fun e w' =>
      e = .returned (.string ⟨(Lib.replaceAll s.data.toList old.data.toList new.data.toList).toArray⟩) ∧ Below w.heap.size w w' := Any.strings_ReplaceAll YtcigjlbpdkkflaaGreatDoor.lays155 YtcigjlbpdkkflaaGreatDoor.Builder_Extra_155 s old new m w hs hm h1 hlen
end Go.Proofs
set_option maxRecDepth 10000
namespace Go.Proofs.YtcigjlbpdkkflaaGreatDoor.Pa
open Go.Lib

structure Tl where
  H : Int
  L : Int
  N : Int
  W : Int
  D : Bool
deriving DecidableEq

def cutAt (c : UInt8) : List UInt8 → List (List UInt8)
  | [] => [[]]
  | b :: l => if b = c then [] :: cutAt c l else match cutAt c l with
    | [] => [[b]]
    | x :: r => (b :: x) :: r
theorem cutAt_app {c : UInt8} : ∀ {a : List UInt8} (t : List UInt8), c ∉ a → cutAt c (a ++ c :: t) = a :: cutAt c t
  | [], t, _ => by simp [cutAt]
  | b :: a, t, h => by
    simp only [List.mem_cons, not_or] at h
    rw [List.cons_append, cutAt, if_neg (fun e => h.1 e.symm), cutAt_app t h.2]
theorem cutAt_one {c : UInt8} : ∀ {a : List UInt8}, c ∉ a → cutAt c a = [a]
  | [], _ => rfl
  | b :: a, h => by
    simp only [List.mem_cons, not_or] at h
    rw [cutAt, if_neg (fun e => h.1 e.symm), cutAt_one h.2]
def slashes (ps : List (List UInt8)) : List UInt8 := ps.flatMap (47 :: ·)
theorem cutAt_slashes : ∀ (ps : List (List UInt8)) (x : List UInt8), 47 ∉ x → (∀ p ∈ ps, 47 ∉ p) → cutAt 47 (x ++ slashes ps) = x :: ps
  | [], x, hx, _ => by simp [slashes, cutAt_one hx]
  | p :: ps, x, hx, h => by
    have : x ++ slashes (p :: ps) = x ++ 47 :: (p ++ slashes ps) := by simp [slashes]
    rw [this, cutAt_app _ hx, cutAt_slashes ps p (h p (by simp)) fun q hq => h q (by simp [hq])]
theorem index_app {c : UInt8} : ∀ {a : List UInt8} (t : List UInt8), c ∉ a → index (a ++ c :: t) [c] = a.length
  | [], t, _ => by simp [index]
  | b :: a, t, h => by
    simp only [List.mem_cons, not_or] at h
    rw [List.cons_append, index, index_app t h.2, if_neg]
    · rw [if_neg]
      · rw [List.length_cons]; omega
      · rw [beq_iff_eq]; omega
    · simp [Ne.symm (Ne.intro h.1), h.1]
theorem split_cutAt (c : UInt8) : ∀ (n : Nat) (s : List UInt8), s.length ≤ n → splitK [c] 0 (count s [c]) s = cutAt c s := by
  intro n
  induction n with
  | zero =>
    intro s hs
    obtain rfl : s = [] := List.eq_nil_of_length_eq_zero (by omega)
    rw [count_one]; rfl
  | succ n ih =>
    intro s hs
    by_cases h : c ∈ s
    · obtain ⟨a, t, rfl, ha⟩ := List.eq_append_cons_of_mem h
      have hc : count (a ++ c :: t) [c] = count t [c] + 1 := by
        rw [count_one, count_one, List.count_append, List.count_cons_self, List.count_eq_zero.2 ha]; omega
      have hi := index_app t ha
      rw [hc, splitK, hi, if_neg (by rw [beq_iff_eq]; omega), cutAt_app t ha]
      have e1 : (a ++ c :: t).take ((a.length : Int).toNat + 0) = a := by simp
      have e2 : (a ++ c :: t).drop ((a.length : Int).toNat + [c].length) = t := by
        rw [Int.toNat_natCast, show a ++ c :: t = (a ++ [c]) ++ t by simp, show a.length + [c].length = (a ++ [c]).length by simp, List.drop_left]
      rw [e1, e2, ih t (by simp at hs; omega)]
    · rw [count_one, List.count_eq_zero.2 h, cutAt_one h]; rfl
theorem replaceAll_one (c : UInt8) (s : List UInt8) : replaceAll s [c] [] = s.filter (· ≠ c) := by
  have key : ∀ (n : Nat) (s : List UInt8), s.length ≤ n → replaceK [c] [] (count s [c]) s = s.filter (· ≠ c) := by
    intro n
    induction n with
    | zero =>
      intro s hs
      obtain rfl : s = [] := List.eq_nil_of_length_eq_zero (by omega)
      rw [count_one]; rfl
    | succ n ih =>
      intro s hs
      by_cases h : c ∈ s
      · obtain ⟨a, t, rfl, ha⟩ := List.eq_append_cons_of_mem h
        have hc : count (a ++ c :: t) [c] = count t [c] + 1 := by
          rw [count_one, count_one, List.count_append, List.count_cons_self, List.count_eq_zero.2 ha]; omega
        rw [hc, replaceK_hit [c] [] _ _ a.length (index_app t ha)]
        have e1 : (a ++ c :: t).take a.length = a := by simp
        have e2 : (a ++ c :: t).drop (a.length + [c].length) = t := by
          rw [show a ++ c :: t = (a ++ [c]) ++ t by simp, show a.length + [c].length = (a ++ [c]).length by simp, List.drop_left]
        rw [e1, e2, ih t (by simp at hs; omega), List.append_nil, List.filter_append, List.filter_cons_of_neg (by simp)]
        congr 1
        refine (List.filter_eq_self.2 fun x hx => ?_).symm
        simp only [ne_eq, decide_not, Bool.not_eq_eq_eq_not, Bool.not_true, decide_eq_false_iff_not]
        exact fun e => ha (e ▸ hx)
      · rw [count_one, List.count_eq_zero.2 h]
        show s = _
        refine (List.filter_eq_self.2 fun x hx => ?_).symm
        simp only [ne_eq, decide_not, Bool.not_eq_eq_eq_not, Bool.not_true, decide_eq_false_iff_not]
        exact fun e => h (e ▸ hx)
  unfold replaceAll replace
  rw [if_neg (by simp)]
  have : replaceNum s [c] (-1) = count s [c] := by unfold replaceNum; rw [if_pos (.inl (by decide))]
  rw [this]
  exact key s.length s (Nat.le_refl _)

def isDig (b : UInt8) : Prop := 48 ≤ b.toNat ∧ b.toNat ≤ 57
theorem dig_of (i : Nat) (h : i < 10) : (UInt8.ofNat (48 + i)).toNat = 48 + i := by
  simp only [UInt8.toNat_ofNat']; omega
theorem dec_dig : ∀ (u : Nat), ∀ b ∈ decDigits u, isDig b := by
  intro u
  induction u using Nat.strongRecOn with
  | ind u ih =>
    intro b hb
    rw [decDigits] at hb
    split at hb
    · rename_i h
      simp only [List.mem_singleton] at hb
      subst hb
      unfold isDig; rw [dig_of u h]; omega
    · rcases List.mem_append.1 hb with hb | hb
      · exact ih (u / 10) (by omega) b hb
      · simp only [List.mem_singleton] at hb
        subst hb
        unfold isDig; rw [dig_of _ (Nat.mod_lt _ (by decide))]; omega
theorem parse_app : ∀ (l r : List UInt8) (acc m : Nat), parseUint10 acc l = .ok m → parseUint10 acc (l ++ r) = parseUint10 m r
  | [], r, acc, m, h => by
    simp only [parseUint10] at h
    injection h with h
    subst h; rfl
  | c :: l, r, acc, m, h => by
    rw [parseUint10] at h
    rw [List.cons_append, parseUint10]
    split at h
    · rename_i g
      rw [if_pos g]
      split at h
      · cases h
      · rename_i g2
        rw [if_neg g2]
        split at h
        · cases h
        · rename_i g3
          rw [if_neg g3]
          exact parse_app l r _ m h
    · cases h
theorem parse_dec : ∀ (u : Nat), u < 9223372036854775808 → parseUint10 0 (decDigits u) = .ok u := by
  intro u
  induction u using Nat.strongRecOn with
  | ind u ih =>
    intro hu
    have one : ∀ (m i : Nat), i < 10 → m < 922337203685477581 → parseUint10 m [UInt8.ofNat (48 + i)] = .ok (m * 10 + i) := by
      intro m i hi hm
      unfold parseUint10
      rw [dig_of i hi, if_pos (by omega), if_neg (by omega), if_neg (by omega)]
      unfold parseUint10
      rw [show 48 + i - 48 = i by omega]
    rw [decDigits]
    split
    · rename_i h
      have := one 0 u h (by omega)
      simpa using this
    · rw [parse_app _ _ 0 (u / 10) (ih (u / 10) (by omega) (by omega)), one (u / 10) (u % 10) (Nat.mod_lt _ (by decide)) (by omega), show u / 10 * 10 + u % 10 = u by omega]
theorem parse_zero (l : List UInt8) : parseUint10 0 (48 :: l) = parseUint10 0 l := by
  rw [parseUint10, if_pos (by decide), if_neg (by decide), if_neg (by decide)]
  rfl
def atoiV (l : List UInt8) : Int := match atoiAll l with | .ok v => v | .syntax => 0 | .range => atoiSat l
def parseV (l : List UInt8) : Int := match parseIntB 64 l with | .ok v => v | .syntax => 0 | .range => intSat 64 l
theorem dec_ne (u : Nat) : ∃ c r, decDigits u = c :: r ∧ isDig c := by
  have hl : 0 < (decDigits u).length := by rw [decDigits_length]; exact nDigits_pos u
  match hd : decDigits u with
  | [] => rw [hd] at hl; simp at hl
  | c :: r => exact ⟨c, r, rfl, dec_dig u c (by rw [hd]; simp)⟩
theorem atoi_dec (u : Nat) (hu : u < 9223372036854775808) : atoiV (decDigits u) = u := by
  obtain ⟨c, r, hd, hc⟩ := dec_ne u
  have hp := parse_dec u hu
  unfold atoiV atoiAll
  rw [hd] at hp ⊢
  unfold isDig at hc
  have e1 : ¬ (c.toNat = 43 ∨ c.toNat = 45) := by omega
  simp only [e1, if_false, parseMag, List.cons_ne_nil, hp]
  have e2 : ¬ c.toNat = 45 := by omega
  simp only [e2, not_false_eq_true, true_and, false_and, if_false]
  rw [if_neg (by omega)]
theorem parseM : ∀ (l : List UInt8) (acc : Nat), parseUintM (2 ^ 64 - 1) acc l = parseUint10 acc l
  | [], _ => rfl
  | c :: r, acc => by
    rw [parseUintM, parseUint10, parseM r]
    have e : (2 ^ 64 - 1 < acc * 10 + (c.toNat - 48)) = (18446744073709551616 ≤ acc * 10 + (c.toNat - 48)) := by
      apply propext; omega
    simp only [e]
def pad3 (l : List UInt8) : List UInt8 := List.replicate ((3 - l.length % 3) % 3) 48 ++ l
theorem parse_zeros (l : List UInt8) : ∀ k, parseUint10 0 (List.replicate k 48 ++ l) = parseUint10 0 l
  | 0 => rfl
  | k + 1 => by rw [List.replicate_succ, List.cons_append, parse_zero, parse_zeros l k]
theorem pad_dig {l : List UInt8} (h : ∀ b ∈ l, isDig b) : ∀ b ∈ pad3 l, isDig b := by
  intro b hb
  rcases List.mem_append.1 hb with hb | hb
  · obtain ⟨_, rfl⟩ := List.mem_replicate.1 hb
    exact ⟨by decide, by decide⟩
  · exact h b hb
theorem pad_len_le (l : List UInt8) : (pad3 l).length ≤ l.length + 2 := by
  unfold pad3
  rw [List.length_append, List.length_replicate]; omega
theorem parse_pad (u : Nat) (hu : u < 9223372036854775808) : parseV (pad3 (decDigits u)) = u := by
  have hp : parseUint10 0 (pad3 (decDigits u)) = .ok u := by rw [pad3, parse_zeros]; exact parse_dec u hu
  have hne : pad3 (decDigits u) ≠ [] := by
    obtain ⟨c, r, hd, _⟩ := dec_ne u
    rw [pad3, hd]; simp
  have hdig := pad_dig (dec_dig u)
  unfold parseV parseIntB
  match hd : pad3 (decDigits u) with
  | [] => exact absurd hd hne
  | c :: r =>
    rw [hd] at hp hdig
    have hc := hdig c (by simp)
    unfold isDig at hc
    have e1 : ¬ (c.toNat = 43 ∨ c.toNat = 45) := by omega
    have e2 : ¬ c.toNat = 45 := by omega
    have hcond : (if c.toNat = 43 ∨ c.toNat = 45 then r else c :: r) = c :: r := if_neg e1
    simp only [hcond, parseUintB, List.cons_ne_nil, if_false, parseM, hp]
    simp only [e2, not_false_eq_true, true_and, false_and, if_false]
    rw [if_neg (by omega)]

def groups (l : List UInt8) : List (List UInt8) := if h : l.length ≤ 3 then [l] else (120 :: l.take 3) :: groups (l.drop 3)
termination_by l.length
decreasing_by simp only [List.length_drop]; omega
def gtail (l : List UInt8) : Option (List UInt8) → List (List UInt8)
  | none => groups l
  | some w => (groups l).dropLast ++ [(groups l).getLastD [] ++ [46, 112], w]
theorem groups_small {l : List UInt8} (h : l.length ≤ 3) : groups l = [l] := by rw [groups, dif_pos h]
theorem groups_big {l : List UInt8} (h : ¬ l.length ≤ 3) : groups l = (120 :: l.take 3) :: groups (l.drop 3) := by rw [groups, dif_neg h]
theorem groups_ne (l : List UInt8) : groups l ≠ [] := by
  rw [groups]; split <;> simp
theorem gtail_small {l : List UInt8} (h : l.length ≤ 3) (o : Option (List UInt8)) : gtail l o = match o with | none => [l] | some w => [l ++ [46, 112], w] := by
  cases o <;> simp [gtail, groups_small h]
theorem gtail_big {l : List UInt8} (h : ¬ l.length ≤ 3) (o : Option (List UInt8)) : gtail l o = (120 :: l.take 3) :: gtail (l.drop 3) o := by
  cases o with
  | none => simp [gtail, groups_big h]
  | some w =>
    have hne := groups_ne (l.drop 3)
    obtain ⟨x, r, hx⟩ : ∃ x r, groups (l.drop 3) = x :: r := by
      match hg : groups (l.drop 3) with
      | [] => exact absurd hg hne
      | x :: r => exact ⟨x, r, rfl⟩
    simp only [gtail, groups_big h, hx, List.dropLast_cons_cons, List.cons_append, List.getLastD_cons]
theorem groups_flat : ∀ (n : Nat) (l : List UInt8), l.length ≤ n → (∀ b ∈ l, isDig b) → (groups l).flatten.filter (· ≠ 120) = l := by
  have self : ∀ l : List UInt8, (∀ b ∈ l, isDig b) → l.filter (· ≠ 120) = l := fun l hl => List.filter_eq_self.2 fun b hb => by
    have := hl b hb
    unfold isDig at this
    simp only [ne_eq, decide_not, Bool.not_eq_eq_eq_not, Bool.not_true, decide_eq_false_iff_not]
    rintro rfl
    exact absurd this.2 (by decide)
  intro n
  induction n with
  | zero =>
    intro l hl hd
    obtain rfl : l = [] := List.eq_nil_of_length_eq_zero (by omega)
    rw [groups_small (by simp)]; rfl
  | succ n ih =>
    intro l hl hd
    by_cases h : l.length ≤ 3
    · rw [groups_small h, List.flatten_cons, List.flatten_nil, List.append_nil]
      exact self l hd
    · rw [groups_big h, List.flatten_cons, List.filter_append, List.filter_cons_of_neg (by simp), ih (l.drop 3) (by rw [List.length_drop]; omega) (fun b hb => hd b (List.mem_of_mem_drop hb)), self _ (fun b hb => hd b (List.mem_of_mem_take hb)), List.take_append_drop]
theorem groups_all {P : UInt8 → Prop} (hx : P 120) : ∀ (n : Nat) (l : List UInt8), l.length ≤ n → (∀ b ∈ l, P b) → ∀ g ∈ groups l, ∀ b ∈ g, P b := by
  intro n
  induction n with
  | zero =>
    intro l hl hd g hg
    rw [groups_small (by omega)] at hg
    simp only [List.mem_singleton] at hg
    subst hg; exact hd
  | succ n ih =>
    intro l hl hd g hg
    by_cases h : l.length ≤ 3
    · rw [groups_small h] at hg
      simp only [List.mem_singleton] at hg
      subst hg; exact hd
    · rw [groups_big h] at hg
      rcases List.mem_cons.1 hg with rfl | hg
      · intro b hb
        rcases List.mem_cons.1 hb with rfl | hb
        · exact hx
        · exact hd b (List.mem_of_mem_take hb)
      · exact ih (l.drop 3) (by rw [List.length_drop]; omega) (fun b hb => hd b (List.mem_of_mem_drop hb)) g hg
def okT (t : Tl) : Prop := 1 ≤ t.H ∧ t.H ≤ 8 ∧ 1 ≤ t.W ∧ t.W ≤ 2 ^ t.H.toNat ∧ 0 ≤ t.L ∧ 0 ≤ t.N ∧ (t.D = true → t.L = 0) ∧ t.H * t.L ≤ 48 ∧ t.N * 2 ^ t.H.toNat + t.W ≤ 281474976710656 / 2 ^ (t.H * t.L).toNat
def lvlB (t : Tl) : List UInt8 := if t.D then [100, 97, 116, 97] else itoa t.L
def wdB (t : Tl) : Option (List UInt8) := if t.W < 2 ^ t.H.toNat then some (itoa t.W) else none
def partsB (t : Tl) : List (List UInt8) := itoa t.H :: lvlB t :: gtail (pad3 (itoa t.N)) (wdB t)
def pathB (t : Tl) : List UInt8 := [116, 105, 108, 101] ++ slashes (partsB t)
def tz : Tl := ⟨0, 0, 0, 0, false⟩
def guessV (ps : List (List UInt8)) : Tl :=
  if ps.length < 4 then tz else
    let num := ps.drop 3
    let k := num.length
    let cut := decide (1 < k) && hasSuffix (num[k - 2]?.getD []) [46, 112]
    { H := atoiV (ps[1]?.getD []), L := atoiV (ps[2]?.getD []), D := decide (ps[2]?.getD [] = [100, 97, 116, 97]),
      W := if cut then atoiV (num[k - 1]?.getD []) else 2 ^ ((atoiV (ps[1]?.getD [])) % 16).toNat,
      N := parseV (trimSuffix (replaceAll (if cut then num.take (k - 1) else num).flatten [120] []) [46, 112]) }
theorem okT.bounds {t : Tl} (h : okT t) : t.H ≤ 8 ∧ 0 ≤ t.L ∧ t.L ≤ 48 ∧ 0 ≤ t.N ∧ t.N ≤ 281474976710656 ∧ 1 ≤ t.W ∧ t.W ≤ 256 := by
  obtain ⟨h1, h2, h3, h4, h5, h6, h7, h8, h9⟩ := h
  have hp : (2 : Int) ^ t.H.toNat ≤ 256 := by
    have : (2 : Nat) ^ t.H.toNat ≤ 2 ^ 8 := Nat.pow_le_pow_right (by decide) (by omega)
    have e : ((2 ^ t.H.toNat : Nat) : Int) = (2 : Int) ^ t.H.toNat := by norm_cast
    omega
  have hp1 : (1 : Int) ≤ 2 ^ t.H.toNat := by
    have : 0 < (2 : Nat) ^ t.H.toNat := Nat.pow_pos (by decide)
    have e : ((2 ^ t.H.toNat : Nat) : Int) = (2 : Int) ^ t.H.toNat := by norm_cast
    omega
  have hq : (281474976710656 : Int) / 2 ^ (t.H * t.L).toNat ≤ 281474976710656 := Int.ediv_le_self _ (by decide)
  have hN : t.N ≤ t.N * 2 ^ t.H.toNat := by
    have := Int.mul_le_mul_of_nonneg_left hp1 h6
    omega
  have hL : t.L ≤ t.H * t.L := by
    have := Int.mul_le_mul_of_nonneg_right h1 h5
    omega
  omega
theorem itoa_dig {n : Int} (h : 0 ≤ n) : ∃ u : Nat, n = u ∧ itoa n = decDigits u := by
  obtain ⟨u, rfl⟩ := Int.eq_ofNat_of_zero_le h
  exact ⟨u, rfl, itoa_nonneg u⟩
theorem no_slash {l : List UInt8} (h : ∀ b ∈ l, isDig b) : 47 ∉ l := fun hm => by
  have := h 47 hm
  exact absurd this.1 (by decide)
theorem suffix_dot {l : List UInt8} (h : ∀ b ∈ l, isDig b ∨ b = 120) : hasSuffix l [46, 112] = false := by
  unfold hasSuffix
  rw [Bool.eq_false_iff]
  intro hs
  have hm : (112 : UInt8) ∈ l := (List.isSuffixOf_iff_suffix.1 hs).subset (by simp)
  rcases h 112 hm with g | g
  · exact absurd g.2 (by decide)
  · exact absurd g (by decide)
theorem suffix_app (l : List UInt8) : hasSuffix (l ++ [46, 112]) [46, 112] = true := by
  unfold hasSuffix
  exact List.isSuffixOf_iff_suffix.2 ⟨l, rfl⟩
theorem last_mem {g : List (List UInt8)} (h : g ≠ []) : g.getLastD [] ∈ g := by
  match g with
  | [] => exact absurd rfl h
  | x :: r => rw [List.getLastD_cons]; exact List.getLastD_mem_cons ..
theorem last_app {g : List (List UInt8)} (h : g ≠ []) : g.dropLast ++ [g.getLastD []] = g := by
  match g with
  | [] => exact absurd rfl h
  | x :: r =>
    have := List.dropLast_concat_getLast (l := x :: r) (by simp)
    rw [List.getLastD_cons]
    rw [List.getLast_eq_getLastD] at this
    exact this
theorem parts_slash {t : Tl} (h : okT t) : ∀ p ∈ partsB t, (47 : UInt8) ∉ p := by
  obtain ⟨h1, h2, h3, h4, h5, h6, h7⟩ := h.bounds
  have hH := h.1
  obtain ⟨uH, eH, dH⟩ := itoa_dig (n := t.H) (by omega)
  obtain ⟨uL, eL, dL⟩ := itoa_dig (n := t.L) h2
  obtain ⟨uN, eN, dN⟩ := itoa_dig (n := t.N) h4
  obtain ⟨uW, eW, dW⟩ := itoa_dig (n := t.W) (by omega)
  have hg : ∀ g ∈ groups (pad3 (itoa t.N)), (47 : UInt8) ∉ g := fun g hg hm => by
    have := groups_all (P := fun b => isDig b ∨ b = 120) (.inr rfl) _ (pad3 (itoa t.N)) (Nat.le_refl _) (fun b hb => .inl (pad_dig (by rw [dN]; exact dec_dig uN) b hb)) g hg 47 hm
    rcases this with g | g
    · exact absurd g.1 (by decide)
    · exact absurd g (by decide)
  intro p hp
  simp only [partsB, List.mem_cons] at hp
  rcases hp with rfl | rfl | hp
  · rw [dH]; exact no_slash (dec_dig uH)
  · unfold lvlB
    split
    · decide
    · rw [dL]; exact no_slash (dec_dig uL)
  · unfold wdB at hp
    split at hp
    · simp only [gtail, List.mem_append, List.mem_cons, List.not_mem_nil, or_false] at hp
      rcases hp with hp | rfl | rfl
      · exact hg p (List.dropLast_subset _ hp)
      · intro hm
        rcases List.mem_append.1 hm with hm | hm
        · have hne := groups_ne (pad3 (itoa t.N))
          have : (groups (pad3 (itoa t.N))).getLastD [] ∈ groups (pad3 (itoa t.N)) := last_mem hne
          exact hg _ this hm
        · revert hm; decide
      · rw [dW]; exact no_slash (dec_dig uW)
    · exact hg p hp
theorem trim_no {l : List UInt8} (h : ∀ b ∈ l, isDig b) : trimSuffix l [46, 112] = l := by
  unfold trimSuffix
  rw [suffix_dot fun b hb => .inl (h b hb)]; rfl
theorem trim_yes (l : List UInt8) : trimSuffix (l ++ [46, 112]) [46, 112] = l := by
  unfold trimSuffix
  rw [suffix_app, if_pos rfl, List.length_append, Nat.add_sub_cancel, List.take_left]
theorem guess_path {t : Tl} (h : okT t) : guessV ([116, 105, 108, 101] :: partsB t) = t := by
  obtain ⟨h1, h2, h3, h4, h5, h6, h7⟩ := h.bounds
  obtain ⟨hH, _, _, hWle, _, _, hD, _, _⟩ := h
  obtain ⟨uH, eH, dH⟩ := itoa_dig (n := t.H) (by omega)
  obtain ⟨uL, eL, dL⟩ := itoa_dig (n := t.L) h2
  obtain ⟨uN, eN, dN⟩ := itoa_dig (n := t.N) h4
  obtain ⟨uW, eW, dW⟩ := itoa_dig (n := t.W) (by omega)
  have hdig : ∀ b ∈ pad3 (itoa t.N), isDig b := pad_dig (by rw [dN]; exact dec_dig uN)
  have hgne := groups_ne (pad3 (itoa t.N))
  have hflat := groups_flat _ (pad3 (itoa t.N)) (Nat.le_refl _) hdig
  have hgl : ∀ g ∈ groups (pad3 (itoa t.N)), ∀ b ∈ g, isDig b ∨ b = 120 := groups_all (P := fun b => isDig b ∨ b = 120) (.inr rfl) _ (pad3 (itoa t.N)) (Nat.le_refl _) fun b hb => .inl (hdig b hb)
  have hpN : parseV (pad3 (itoa t.N)) = t.N := by rw [dN, parse_pad uN (by omega), eN]
  have hpH : atoiV (itoa t.H) = t.H := by rw [dH, atoi_dec uH (by omega), eH]
  have hpW : atoiV (itoa t.W) = t.W := by rw [dW, atoi_dec uW (by omega), eW]
  have hpL : atoiV (lvlB t) = t.L := by
    unfold lvlB
    split
    · rename_i hd
      rw [hD hd]; rfl
    · rw [dL, atoi_dec uL (by omega), eL]
  have hpD : decide (lvlB t = [100, 97, 116, 97]) = t.D := by
    unfold lvlB
    cases hd : t.D with
    | true => rfl
    | false =>
      rw [if_neg (by simp), dL]
      simp only [decide_eq_false_iff_not]
      intro e
      have := dec_dig uL 100 (by rw [e]; simp)
      exact absurd this.2 (by decide)
  generalize hd : pad3 (itoa t.N) = d at *
  have hglen : 0 < (groups d).length := List.length_pos_iff.2 hgne
  have hlen : ¬ ([116, 105, 108, 101] :: partsB t).length < 4 := by
    simp only [partsB, List.length_cons, hd]
    have : 0 < (gtail d (wdB t)).length := by
      unfold wdB
      split
      · simp [gtail]
      · exact hglen
    omega
  have e1 : ([116, 105, 108, 101] :: partsB t)[1]?.getD [] = itoa t.H := rfl
  have e2 : ([116, 105, 108, 101] :: partsB t)[2]?.getD [] = lvlB t := rfl
  have e3 : ([116, 105, 108, 101] :: partsB t).drop 3 = gtail d (wdB t) := by rw [partsB, hd]; rfl
  unfold guessV
  rw [if_neg hlen]
  simp only [e1, e2, e3, hpH, hpL, hpD]
  by_cases hw : t.W < 2 ^ t.H.toNat
  · have ew : wdB t = some (itoa t.W) := by unfold wdB; rw [if_pos hw]
    rw [ew]
    have eg : gtail d (some (itoa t.W)) = (groups d).dropLast ++ [(groups d).getLastD [] ++ [46, 112], itoa t.W] := rfl
    have hk : (gtail d (some (itoa t.W))).length = (groups d).length + 1 := by rw [eg, List.length_append, List.length_dropLast]; simp; omega
    have g1 : (gtail d (some (itoa t.W)))[(gtail d (some (itoa t.W))).length - 2]?.getD [] = (groups d).getLastD [] ++ [46, 112] := by
      rw [hk, eg, List.getElem?_append_right (by rw [List.length_dropLast]; omega), List.length_dropLast, show (groups d).length + 1 - 2 - ((groups d).length - 1) = 0 by omega]; rfl
    have g2 : (gtail d (some (itoa t.W)))[(gtail d (some (itoa t.W))).length - 1]?.getD [] = itoa t.W := by
      rw [hk, eg, List.getElem?_append_right (by rw [List.length_dropLast]; omega), List.length_dropLast, show (groups d).length + 1 - 1 - ((groups d).length - 1) = 1 by omega]; rfl
    have g3 : (gtail d (some (itoa t.W))).take ((gtail d (some (itoa t.W))).length - 1) = (groups d).dropLast ++ [(groups d).getLastD [] ++ [46, 112]] := by
      rw [hk, eg, List.take_append, List.take_of_length_le (by rw [List.length_dropLast]; omega), List.length_dropLast, show (groups d).length + 1 - 1 - ((groups d).length - 1) = 1 by omega]; rfl
    have g4 : ((groups d).dropLast ++ [(groups d).getLastD [] ++ [46, 112]]).flatten = (groups d).flatten ++ [46, 112] := by
      have := congrArg List.flatten (last_app hgne)
      rw [List.flatten_append] at this ⊢
      rw [← this]; simp
    have hc : (decide (1 < (gtail d (some (itoa t.W))).length) && hasSuffix ((gtail d (some (itoa t.W)))[(gtail d (some (itoa t.W))).length - 2]?.getD []) [46, 112]) = true := by
      rw [g1, suffix_app, hk, decide_eq_true (by omega)]; rfl
    rw [hc, g2, g3]
    simp only [if_true]
    rw [g4, replaceAll_one, List.filter_append, hflat]
    have : ([46, 112] : List UInt8).filter (· ≠ 120) = [46, 112] := by decide
    rw [this, trim_yes]
    rw [hpN, hpW]
  · have ew : wdB t = none := by unfold wdB; rw [if_neg hw]
    rw [ew]
    have eg : gtail d none = groups d := rfl
    rw [eg]
    have hc : (decide (1 < (groups d).length) && hasSuffix ((groups d)[(groups d).length - 2]?.getD []) [46, 112]) = false := by
      rw [Bool.and_eq_false_iff]
      right
      match hx : (groups d)[(groups d).length - 2]? with
      | none => rfl
      | some g => exact suffix_dot (hgl g (List.mem_of_getElem? hx))
    rw [hc]
    simp only [Bool.false_eq_true, if_false]
    rw [replaceAll_one, hflat, trim_no hdig, hpN]
    have e16 : t.H % 16 = t.H := Int.emod_eq_of_lt (by omega) (by omega)
    have eW2 : (2 : Int) ^ t.H.toNat = t.W := by omega
    rw [e16, eW2]
theorem path_len {t : Tl} (h : okT t) : (pathB t).length ≤ 200 := by
  obtain ⟨h1, h2, h3, h4, h5, h6, h7⟩ := h.bounds
  have hH := h.1
  have l1 := itoa_length_le t.H (by omega) (by omega)
  have l2 := itoa_length_le t.L (by omega) (by omega)
  have l3 := itoa_length_le t.N (by omega) (by omega)
  have l4 := itoa_length_le t.W (by omega) (by omega)
  have sl : ∀ ps, (slashes ps).length = ps.length + ps.flatten.length := by
    intro ps
    induction ps with
    | nil => rfl
    | cons p ps ih => simp only [slashes, List.flatMap_cons, List.length_append, List.length_cons, List.flatten_cons] at *; omega
  have gl : ∀ (n : Nat) (l : List UInt8), l.length ≤ n → (groups l).length ≤ l.length / 3 + 1 ∧ (groups l).flatten.length ≤ l.length + l.length / 3 := by
    intro n
    induction n with
    | zero =>
      intro l hl
      obtain rfl : l = [] := List.eq_nil_of_length_eq_zero (by omega)
      rw [groups_small (by simp)]; simp
    | succ n ih =>
      intro l hl
      by_cases h : l.length ≤ 3
      · rw [groups_small h]; simp
      · have hd : (l.drop 3).length = l.length - 3 := List.length_drop
        obtain ⟨i1, i2⟩ := ih (l.drop 3) (by omega)
        rw [groups_big h]
        simp only [List.length_cons, List.flatten_cons, List.length_append, List.length_take]
        omega
  have l5 := pad_len_le (itoa t.N)
  obtain ⟨g1, g2⟩ := gl _ (pad3 (itoa t.N)) (Nat.le_refl _)
  have lv : (lvlB t).length ≤ 21 := by
    unfold lvlB
    split
    · decide
    · exact l2
  have gt : (gtail (pad3 (itoa t.N)) (wdB t)).length ≤ (groups (pad3 (itoa t.N))).length + 1 ∧ (gtail (pad3 (itoa t.N)) (wdB t)).flatten.length ≤ (groups (pad3 (itoa t.N))).flatten.length + 2 + 21 := by
    unfold wdB
    split
    · have hne := groups_ne (pad3 (itoa t.N))
      have hp : 0 < (groups (pad3 (itoa t.N))).length := List.length_pos_iff.2 hne
      have hf := congrArg (fun g => g.flatten.length) (last_app hne)
      simp only [List.flatten_append, List.length_append, List.flatten_cons, List.flatten_nil, List.append_nil] at hf
      simp only [gtail, List.length_append, List.length_dropLast, List.length_cons, List.length_nil, List.flatten_append, List.flatten_cons, List.flatten_nil, List.append_nil]
      omega
    · simp only [gtail]; omega
  simp only [pathB, List.length_append, sl, partsB, List.length_cons, List.flatten_cons, List.length_nil]
  omega
theorem cut_path {t : Tl} (h : okT t) : cutAt 47 (pathB t) = [116, 105, 108, 101] :: partsB t := cutAt_slashes _ _ (by decide) (parts_slash h)
end Go.Proofs.YtcigjlbpdkkflaaGreatDoor.Pa
set_option maxRecDepth 10000
namespace Go.Proofs.YtcigjlbpdkkflaaGreatDoor.Pa
open Go.Sh Go.RowKit

theorem chg_below {w w' : World} (h : Below w.heap.size w w') : Chg None w w' := ⟨h.os, h.tape, h.output, h.size, fun k hk _ => h.block k hk⟩
theorem below_chg {w w' : World} (h : Chg None w w') : Below w.heap.size w w' := ⟨h.os, h.tape, h.output, h.size, fun k hk => h.block k hk id⟩
theorem chg_grow (w : World) (k : Nat) (os : Array Obj) : Chg None w (Go.Sort.grow (w.drewN k) os) :=
  ⟨rfl, rfl, rfl, by rw [Go.Sort.size_grow]; exact Nat.le_add_right _ _, fun i hi _ => Go.Sort.heap_grow_old (w.drewN k) os hi⟩
structure Std (w : World) : Prop where
  pow : Lib.TabIs PP w "internal/strconv.uint64pow10" .u64 Lib.pow10Tab
  syn : ∃ ev, w.cell? ⟨0, 0, none⟩ = some ev ∧ (ev = .nilIface ∨ ∃ te pe, ev = .iface te pe)
  rng : ∃ ev, w.cell? ⟨1, 0, none⟩ = some ev ∧ (ev = .nilIface ∨ ∃ te pe, ev = .iface te pe)
  mx : ∃ m, w.cell? ⟨3, 0, none⟩ = some (.int .i64 m)
theorem cell_chg {w w' : World} {a : Addr} {v : Value} (h : w.cell? a = some v) (k : Chg None w w') : w'.cell? a = some v := by
  rw [World.cell?_of_block (w := w) (k.block _ (World.block_lt_of_cell? _ _ h) id)]; exact h
theorem Std.chg {w w' : World} (h : Std w) (k : Chg None w w') : Std w' := by
  obtain ⟨h1, ⟨e, h2, h2'⟩, ⟨e3, h3, h3'⟩, ⟨m, h4⟩⟩ := h
  refine ⟨?_, ⟨e, cell_chg h2 k, h2'⟩, ⟨e3, cell_chg h3 k, h3'⟩, ⟨m, cell_chg h4 k⟩⟩
  unfold Lib.TabIs at *
  cases hg : PP.globalNamed "internal/strconv.uint64pow10" with
  | none => unfold World.var? at h1; rw [hg] at h1; simp at h1
  | some g => exact Go.Joins.var_stays hg h1 (below_chg k) (Nat.le_refl _)
section
variable {Q : Value → World → Prop} {w : World}
theorem itoa_word {n : Int} (h0 : -9223372036854775808 ≤ n) (h1 : n ≤ 9223372036854775807) (s : Std w) (hQ : ∀ w', Chg None w w' → Q (.string ⟨(Lib.itoa n).toArray⟩) w') : C_strconv_Itoa #[.int .i64 n] w Q := by
  refine C_calls Tryz.func109 (by rfl) (by decide) ((strconv_Itoa n h0 h1 w s.pow).mono ?_)
  rintro e w' ⟨rfl, k, os, rfl⟩
  exact hQ _ (chg_grow w k os)
theorem fmt_word {n : Int} (h0 : -9223372036854775808 ≤ n) (h1 : n ≤ 9223372036854775807) (s : Std w) (hQ : ∀ w', Chg None w w' → Q (.string ⟨(Lib.itoa n).toArray⟩) w') : C_strconv_FormatInt #[.int .i64 n, .int .i64 10] w Q := by
  refine C_calls Tryz.func110 (by rfl) (by decide) ((strconv_FormatInt_10 n h0 h1 w s.pow).mono ?_)
  rintro e w' ⟨rfl, k, os, rfl⟩
  exact hQ _ (chg_grow w k os)
theorem chg_bytes (w : World) (e : TypeId) (s : ByteArray) : Chg None w (Lib.bytesWorld w e s) := chg_below (Go.Joins.below_bytesWorld _ w e s (Nat.le_refl _))
theorem atoi_word {s : ByteArray} (hs : s.size ≤ 281474976710656) (st : Std w) (hQ : ∀ e w', Chg None w w' → Q (.tuple #[.int .i64 (atoiV s.data.toList), e]) w') : C_strconv_Atoi #[.string s] w Q := by
  unfold atoiV at hQ
  cases h : Lib.atoiAll s.data.toList with
  | ok v =>
    rw [h] at hQ
    refine C_calls Tryz.func100 (by rfl) (by decide) ((strconv_Atoi_ok s (by omega) v h w).mono ?_)
    rintro e w' ⟨rfl, rfl | ⟨t, rfl⟩⟩
    · exact hQ _ _ (Chg.refl _ _)
    · exact hQ _ _ (chg_bytes w _ t)
  | «syntax» =>
    rw [h] at hQ
    obtain ⟨ev, h1, h2⟩ := st.syn
    refine C_calls Tryz.func100 (by rfl) (by decide) ((strconv_Atoi_syntax s hs h ev w h1 h2).mono ?_)
    rintro e w' ⟨N, rfl, _, _, hb⟩
    exact hQ _ _ (chg_below hb)
  | range =>
    rw [h] at hQ
    obtain ⟨ev, h1, h2⟩ := st.rng
    refine C_calls Tryz.func100 (by rfl) (by decide) ((strconv_Atoi_range s hs h ev w h1 h2).mono ?_)
    rintro e w' ⟨N, rfl, _, _, hb⟩
    exact hQ _ _ (chg_below hb)
theorem parse_word {s : ByteArray} (hs : s.size ≤ 281474976710656) (st : Std w) (hQ : ∀ e w', Chg None w w' → Q (.tuple #[.int .i64 (parseV s.data.toList), e]) w') : C_strconv_ParseInt #[.string s, .int .i64 10, .int .i64 64] w Q := by
  unfold parseV at hQ
  cases h : Lib.parseIntB 64 s.data.toList with
  | ok v =>
    rw [h] at hQ
    refine C_calls Tryz.func106 (by rfl) (by decide) ((strconv_ParseInt_10_at64_ok s (by omega) v h w).mono ?_)
    rintro e w' ⟨rfl, rfl | ⟨t, rfl⟩⟩
    · exact hQ _ _ (Chg.refl _ _)
    · exact hQ _ _ (chg_bytes w _ t)
  | «syntax» =>
    rw [h] at hQ
    obtain ⟨ev, h1, h2⟩ := st.syn
    refine C_calls Tryz.func106 (by rfl) (by decide) ((strconv_ParseInt_10_at64_syntax s hs h ev w h1 h2).mono ?_)
    rintro e w' ⟨N, rfl, _, _, hb⟩
    exact hQ _ _ (chg_below hb)
  | range =>
    rw [h] at hQ
    obtain ⟨ev, h1, h2⟩ := st.rng
    refine C_calls Tryz.func106 (by rfl) (by decide) ((strconv_ParseInt_10_at64_range s hs h ev w h1 h2).mono ?_)
    rintro e w' ⟨N, rfl, _, _, hb⟩
    exact hQ _ _ (chg_below hb)
theorem hasSuffix_word {s p : ByteArray} (hs : s.size ≤ 9223372036854775807) (hQ : Q (.bool (Lib.hasSuffix s.data.toList p.data.toList)) w) : C_strings_HasSuffix #[.string s, .string p] w Q := by
  refine C_calls Tryz.func102 (by rfl) (by decide) ((strings_HasSuffix s p w hs).mono ?_)
  rintro e w' ⟨rfl, rfl⟩
  exact hQ
theorem trimSuffix_word {s p : ByteArray} (hs : s.size ≤ 9223372036854775807) (hQ : Q (.string ⟨(Lib.trimSuffix s.data.toList p.data.toList).toArray⟩) w) : C_strings_TrimSuffix #[.string s, .string p] w Q := by
  refine C_calls Tryz.func103 (by rfl) (by decide) ((strings_TrimSuffix s p w hs).mono ?_)
  rintro e w' ⟨rfl, rfl⟩
  exact hQ
theorem replaceAll_word {s : ByteArray} (hs : s.size ≤ 1048576) (st : Std w) (hQ : ∀ w', Chg None w w' → Q (.string ⟨(Lib.replaceAll s.data.toList [120] []).toArray⟩) w') : C_strings_ReplaceAll #[.string s, .string (⟨#[120]⟩ : ByteArray), .string (⟨#[]⟩ : ByteArray)] w Q := by
  obtain ⟨m, hm⟩ := st.mx
  refine C_calls Tryz.func104 (by rfl) (by decide) ((strings_ReplaceAll s ⟨#[120]⟩ ⟨#[]⟩ m w (by omega) hm (by decide) (by show s.size + _ * 0 ≤ _; omega)).mono ?_)
  rintro e w' ⟨rfl, hb⟩
  exact hQ _ (chg_below hb)
abbrev svs (ps : List (List UInt8)) : List Value := ps.map fun l => Value.string ⟨l.toArray⟩
theorem split_word {s : ByteArray} (hs : s.size ≤ 1048576) (st : Std w) (hQ : ∀ b w', Blk w' b 9 (svs (cutAt 47 s.data.toList)) → Chg None w w' → w.heap.size ≤ b → Q (.slice (some ⟨b, 0, none⟩) (cutAt 47 s.data.toList).length (cutAt 47 s.data.toList).length) w') : C_strings_Split #[.string s, .string (⟨#[47]⟩ : ByteArray)] w Q := by
  obtain ⟨m, hm⟩ := st.mx
  refine C_calls Tryz.func98 (by rfl) (by decide) ((strings_Split s ⟨#[47]⟩ m w (by omega) hm (by decide)).mono ?_)
  rintro e w' ⟨rfl, rfl⟩
  have hl := Lib.splitB_all ⟨#[47]⟩ (by decide) 0 _ s rfl
  have hd := Lib.splitB_data ⟨#[47]⟩ 0 (Lib.countB s ⟨#[47]⟩) s
  have hd2 : (Lib.splitB ⟨#[47]⟩ 0 (Lib.countB s ⟨#[47]⟩) s).map (·.data.toList) = cutAt 47 s.data.toList := by
    rw [hd]
    exact split_cutAt 47 s.data.toList.length s.data.toList (Nat.le_refl _)
  have e1 : (Lib.splitB ⟨#[47]⟩ 0 (Lib.countB s ⟨#[47]⟩) s).map Value.string = svs (cutAt 47 s.data.toList) := by
    rw [← hd2]
    simp [svs, Function.comp_def]
  have e2 : Lib.countB s ⟨#[47]⟩ + 1 = (cutAt 47 s.data.toList).length := by rw [← hl, ← hd2, List.length_map]
  show Q _ _
  rw [e1, e2]
  have := hQ w.heap.size (w.alloc (.cells (svs (cutAt 47 s.data.toList)).toArray 9)) (by simpa using blk_alloc (w := w) (t := 9) (cs := (svs (cutAt 47 s.data.toList)).toArray)) (chg_alloc w _) (Nat.le_refl _)
  exact this
theorem join_word {b o c : Nat} {ps : List (List UInt8)} (hcells : ∀ (j : Nat) l, ps[j]? = some l → w.cell? ⟨b, o + j, none⟩ = some (.string ⟨l.toArray⟩)) (hb : b < w.heap.size) (hc : ps.length ≤ c) (hN : ps.length ≤ 1048576) (hlen : ps.flatten.length ≤ 1048576) (hQ : ∀ w', Chg None w w' → Q (.string ⟨ps.flatten.toArray⟩) w') : C_strings_Join #[.slice (some ⟨b, o, none⟩) ps.length c, .string (⟨#[]⟩ : ByteArray)] w Q := by
  have hj : Lib.join ((ps.map fun l => (⟨l.toArray⟩ : ByteArray)).map (·.data.toList)) (⟨#[]⟩ : ByteArray).data.toList = ps.flatten := by
    rw [List.map_map]
    have : (fun x : ByteArray => x.data.toList) ∘ (fun l : List UInt8 => (⟨l.toArray⟩ : ByteArray)) = id := by funext l; simp
    rw [this, List.map_id]
    cases ps with
    | nil => rfl
    | cons x r => rw [Lib.join_cons, Lib.joinTail]; simp
  have h := strings_Join b o c (ps.map fun l => (⟨l.toArray⟩ : ByteArray)) ⟨#[]⟩ w (fun j x hx => by
    rw [List.getElem?_map, Option.map_eq_some_iff] at hx
    obtain ⟨l, hl, rfl⟩ := hx
    exact hcells j l hl) hb (by rw [List.length_map]; omega) (by rw [List.length_map]; exact hc) (by rw [hj]; omega)
  rw [List.length_map, hj] at h
  refine C_calls Tryz.func105 (by rfl) (by decide) (h.mono ?_)
  rintro e w' ⟨rfl, hb⟩
  exact hQ _ (chg_below hb)
end
end Go.Proofs.YtcigjlbpdkkflaaGreatDoor.Pa
set_option maxRecDepth 10000
namespace Go.Proofs.YtcigjlbpdkkflaaGreatDoor.Pa
open Go.Sh Go.RowKit

def Bd (b : Nat) (l : List UInt8) (w : World) : Prop := Lib.IsBuilder 181 5 b b (Lib.byteCells l) w
theorem bdAt_chg {p : Value} {b : Nat} {bs : List Value} {w w' : World} (h : Lib.BuilderAt 181 5 b b p bs w) (k : Chg None w w') : Lib.BuilderAt 181 5 b b p bs w' := by
  obtain ⟨h1, v, h2, ⟨h3, h4⟩, h5⟩ := h
  have old : ∀ g o, w.heap[g]? = some o → w'.heap[g]? = some o := fun g o hg => by
    rw [k.block g (Array.getElem?_eq_some_iff.1 hg).1 id]; exact hg
  refine ⟨h1, v, old _ _ h2, ⟨h3, ?_⟩, h5⟩
  rcases h4 with h4 | ⟨g, cap, cur, e1, e2, e3, r⟩
  · exact .inl h4
  · exact .inr ⟨g, cap, cur, e1, e2, old _ _ e3, r⟩
theorem Bd.chg {b : Nat} {l : List UInt8} {w w' : World} (h : Bd b l w) (k : Chg None w w') : Bd b l w' := h.imp (fun h => bdAt_chg h k) fun h => bdAt_chg h k
theorem bd_new {w : World} : Bd w.heap.size [] (w.alloc (.cells #[.pointer none, .slice none 0 0] 181)) :=
  .inl ⟨Nat.le_refl _, .slice none 0 0, by show (w.heap.push _)[w.heap.size]? = _; simp, ⟨rfl, .inl ⟨rfl, rfl⟩⟩, by simp [Value.ownBlock]⟩
section
variable {Q : Value → World → Prop} {w w0 : World}
theorem write_word {b : Nat} {l : List UInt8} {s : ByteArray} (h : Bd b l w) (hb : b ≤ w.heap.size) (hl : l.length + s.size ≤ 1048576) (h0 : w0.heap.size ≤ b) (k0 : Chg None w0 w)
    (hQ : ∀ v e w', Bd b (l ++ s.data.toList) w' → Chg None w0 w' → (∀ k, k < b → w'.heap[k]? = w.heap[k]?) → b ≤ w'.heap.size → Q (.tuple #[.int .i64 v, e]) w') : C_p_strings_Builder_WriteString #[.pointer (some ⟨b, 0, none⟩), .string s] w Q := by
  have hc := Any.Builder_WriteString (P := PP) (ρ := lays156_ren) { lays156 with } Builder_Extra_156 b b (Lib.byteCells l) s w h (by rw [Lib.byteCells_length]; omega) hb
  refine C_calls Tryz.func108 (by rfl) (by decide) (hc.mono ?_)
  rintro e w' ⟨rfl, hB, hbel⟩
  have e1 : Lib.byteCells l ++ Lib.strCells s = Lib.byteCells (l ++ s.data.toList) := by simp [Lib.byteCells, Lib.strCells]
  rw [e1] at hB
  exact hQ _ _ _ (.inr hB) (Chg.trans k0 ⟨hbel.os, hbel.tape, hbel.output, hbel.size, fun k _ hn => hbel.block k (Nat.lt_of_not_le hn)⟩ (fun _ _ h => h) (fun x hx hd => absurd hd (by show ¬ b ≤ x; omega))) hbel.block (Nat.le_trans hb hbel.size)
theorem string_word {b : Nat} {l : List UInt8} (h : Bd b l w) (hne : l ≠ []) (h0 : w0.heap.size ≤ b) (k0 : Chg None w0 w) (hQ : ∀ w', Chg None w0 w' → Q (.string ⟨l.toArray⟩) w') : C_p_strings_Builder_String #[.pointer (some ⟨b, 0, none⟩)] w Q := by
  refine C_calls Tryz.func111 (by rfl) (by decide) ((Builder_String b b l w h hne).mono ?_)
  rintro e w' ⟨rfl, hbel⟩
  exact hQ _ (Chg.trans k0 ⟨hbel.os, hbel.tape, hbel.output, hbel.size, fun k _ hn => hbel.block k (Nat.lt_of_not_le hn)⟩ (fun _ _ h => h) (fun x hx hd => absurd hd (by show ¬ b ≤ x; omega)))
end

theorem shr_nat (x k : Nat) (hk : k ≤ 64) : shrI .i64 (x : Int) (k : Int) = ((x / 2 ^ k : Nat) : Int) := by
  simp only [shrI, IntKind.bits, Int.toNat_natCast]
  rw [Nat.min_eq_left hk, Int.fdiv_eq_ediv_of_nonneg _ (by exact_mod_cast Nat.zero_le _)]
  norm_cast
theorem shl_nat (x k : Nat) (hk : k ≤ 64) (h : x * 2 ^ k < 9223372036854775808) : shlI .i64 (x : Int) (k : Int) = ((x * 2 ^ k : Nat) : Int) := by
  simp only [shlI, IntKind.bits, Int.toNat_natCast]
  rw [Nat.min_eq_left hk, show (x : Int) * 2 ^ k = ((x * 2 ^ k : Nat) : Int) by norm_cast]
  exact wrap_id (by omega) (by omega)
theorem nn_nat {n : Nat} {p : Prop} (h : p) : nn (n : Int) p := h
theorem shl_one {h : Int} (h0 : 0 ≤ h) (h1 : h ≤ 15) : shlI .i64 1 h = 2 ^ h.toNat := by
  obtain ⟨n, rfl⟩ := Int.eq_ofNat_of_zero_le h0
  have : ∀ m : Fin 16, shlI .i64 1 ((m.val : Nat) : Int) = 2 ^ ((m.val : Nat) : Int).toNat := by decide +kernel
  exact this ⟨n, by omega⟩
theorem full_word {Q : Value → World → Prop} {h : Int} {w : World} (h0 : 0 ≤ h) (h1 : h ≤ 15) (hQ : Q (.int .i64 (2 ^ h.toNat)) w) : C_tile_full #[.int .i64 h] w Q := by
  refine C_tile_full_eq _ _ _ ?_
  rw [shl_one h0 h1]
  obtain ⟨n, rfl⟩ := Int.eq_ofNat_of_zero_le h0
  exact nn_nat hQ
abbrev tg (t : Tl) : Value := .agg #[.int .i64 t.H, .int .i64 t.L, .int .i64 t.N, .int .i64 t.W, .bool t.D]
def tv (t : Tl) : List Value := [.int .i64 t.H, .int .i64 t.L, .int .i64 t.N, .int .i64 t.W, .bool t.D]
def fitsT (t : Tl) : Prop := (-9223372036854775808 ≤ t.H ∧ t.H ≤ 9223372036854775807) ∧ (-9223372036854775808 ≤ t.L ∧ t.L ≤ 9223372036854775807) ∧ (-9223372036854775808 ≤ t.N ∧ t.N ≤ 9223372036854775807) ∧ (-9223372036854775808 ≤ t.W ∧ t.W ≤ 9223372036854775807)
theorem check_word {Q : Value → World → Prop} {t : Tl} {w0 : World} (hf : fitsT t) (hok : okT t → ∀ w', Chg None w0 w' → Q (.int .i64 0) w') (hno : ¬ okT t → ∀ w', Chg None w0 w' → Q (.int .i64 101) w') : C_tile_Check #[tg t] w0 Q := by
  obtain ⟨f1, f2, f3, f4⟩ := hf
  refine C_tile_Check_eq _ _ _ _ _ _ _ ?_
  refine alC_box fun b w1 hb k1 hlo => ?_
  rw [drw_s]
  have k2 : Chg None w0 w1.drew := k1.drew
  have hb2 : Blk w1.drew b 41 (tv t) := hb.chg (Chg.drew0 (D := None) w1) (fun h => h)
  generalize w1.drew = w2 at k2 hb2
  have bad : ¬ okT t → N_tile_Check.j2 Q w2 := fun h => N_tile_Check.j2_eq (h := hno h w2 k2)
  have r0 : ∀ {K : Int → Prop}, K t.H → opnI .i64 (w2.cell? ((⟨b, 0, none⟩ : Addr).add 0)) K := fun h => opnI_c (hb2.rd 0 rfl) h
  have r1 : ∀ {K : Int → Prop}, K t.L → opnI .i64 (w2.cell? ((⟨b, 0, none⟩ : Addr).add 1)) K := fun h => opnI_c (hb2.rd 1 rfl) h
  have r2 : ∀ {K : Int → Prop}, K t.N → opnI .i64 (w2.cell? ((⟨b, 0, none⟩ : Addr).add 2)) K := fun h => opnI_c (hb2.rd 2 rfl) h
  have r3 : ∀ {K : Int → Prop}, K t.W → opnI .i64 (w2.cell? ((⟨b, 0, none⟩ : Addr).add 3)) K := fun h => opnI_c (hb2.rd 3 rfl) h
  have r4 : ∀ {K : Bool → Prop}, K t.D → opnB (w2.cell? ((⟨b, 0, none⟩ : Addr).add 4)) K := fun h => opnB_c (hb2.rd 4 rfl) h
  refine r0 ?_
  by_cases g1 : t.H < 1
  · have := bad (fun h => by unfold okT at h; omega)
    exact c_lt g1 this
  refine c_nlt (by omega) (r0 ?_)
  by_cases g2 : t.H > 8
  · have := bad (fun h => by unfold okT at h; omega)
    exact c_gt g2 this
  refine c_ngt (by omega) (r3 ?_)
  by_cases g3 : t.W < 1
  · have := bad (fun h => by unfold okT at h; omega)
    exact c_lt g3 this
  refine c_nlt (by omega) ?_
  have hp : (2 : Int) ^ t.H.toNat ≤ 256 := by
    have : (2 : Nat) ^ t.H.toNat ≤ 2 ^ 8 := Nat.pow_le_pow_right (by decide) (by omega)
    have e : ((2 ^ t.H.toNat : Nat) : Int) = (2 : Int) ^ t.H.toNat := by norm_cast
    omega
  have hp1 : (1 : Int) ≤ 2 ^ t.H.toNat := by
    have : 0 < (2 : Nat) ^ t.H.toNat := Nat.pow_pos (by decide)
    have e : ((2 ^ t.H.toNat : Nat) : Int) = (2 : Int) ^ t.H.toNat := by norm_cast
    omega
  -- the last tests
  have j3 : t.W ≤ 2 ^ t.H.toNat → 0 ≤ t.L → 0 ≤ t.N → (t.D = true → t.L = 0) → N_tile_Check.j3 Q ⟨b, 0, none⟩ w2 := by
    intro a1 a2 a3 a4
    refine N_tile_Check.j3_eq (h := ?_)
    rw [drw_s]
    have k3 : Chg None w0 w2.drew := k2.drew
    have hb3 := hb2.chg (Chg.drew0 (D := None) w2) (fun h => h)
    generalize w2.drew = w3 at k3 hb3
    refine opnI_c (hb3.rd 1 rfl) (opnI_c (hb3.rd 0 rfl) ⟨by omega, ?_⟩)
    have hdiv : IntKind.wrap .i64 (Int.tdiv 48 t.H) = 48 / t.H := by
      rw [Int.tdiv_eq_ediv_of_nonneg (by decide)]
      have h1 : 48 / t.H ≤ 48 := Int.ediv_le_self _ (by decide)
      have h2 : 0 ≤ 48 / t.H := Int.ediv_nonneg (by decide) (by omega)
      exact wrap_id (by omega) (by omega)
    rw [hdiv]
    have hiff : t.L ≤ 48 / t.H ↔ t.H * t.L ≤ 48 := by
      rw [Int.le_ediv_iff_mul_le (by omega), Int.mul_comm]
    by_cases g4 : t.L > 48 / t.H
    · exact c_gt g4 (N_tile_Check.j4_eq (h := hno (fun h => by unfold okT at h; omega) w3 k3))
    refine c_ngt (by omega) (N_tile_Check.j5_eq (h := ?_))
    have hHL := hiff.1 (by omega)
    have hHL0 : 0 ≤ t.H * t.L := Int.mul_nonneg (by omega) a2
    refine opnI_c (hb3.rd 0 rfl) (opnI_c (hb3.rd 1 rfl) ?_)
    rw [wrap_id (by omega) (by omega)]
    obtain ⟨m, hm⟩ := Int.eq_ofNat_of_zero_le hHL0
    have hroom : shrI .i64 281474976710656 (t.H * t.L) = 281474976710656 / 2 ^ (t.H * t.L).toNat := by
      rw [hm, Int.toNat_natCast]
      have := shr_nat 281474976710656 m (by omega)
      rw [show (281474976710656 : Int) = ((281474976710656 : Nat) : Int) by rfl, this]; norm_cast
    rw [hroom]
    have hnn : ∀ {p : Prop}, p → nn (t.H * t.L) p := fun h => by rw [hm]; exact h
    refine hnn ?_
    have hr1 : (281474976710656 : Int) / 2 ^ (t.H * t.L).toNat ≤ 281474976710656 := Int.ediv_le_self _ (by decide)
    have hr0 : (0 : Int) ≤ 281474976710656 / 2 ^ (t.H * t.L).toNat := Int.ediv_nonneg (by decide) (Int.le_of_lt (Int.pow_pos (by decide)))
    have hokiff : okT t ↔ t.N * 2 ^ t.H.toNat + t.W ≤ 281474976710656 / 2 ^ (t.H * t.L).toNat := by
      unfold okT
      exact ⟨fun h => h.2.2.2.2.2.2.2.2, fun h => ⟨by omega, by omega, by omega, a1, a2, a3, a4, hHL, h⟩⟩
    generalize (281474976710656 : Int) / 2 ^ (t.H * t.L).toNat = R at hr1 hr0 hokiff ⊢
    refine N_tile_Check.j6_eq (h := ?_)
    rw [drw_s]
    have k4 : Chg None w0 w3.drew := k3.drew
    have hb4 := hb3.chg (Chg.drew0 (D := None) w3) (fun h => h)
    generalize w3.drew = w4 at k4 hb4
    obtain ⟨hh, hhe⟩ := Int.eq_ofNat_of_zero_le (by omega : 0 ≤ t.H)
    obtain ⟨Rn, hRn⟩ := Int.eq_ofNat_of_zero_le hr0
    obtain ⟨Nn, hNn⟩ := Int.eq_ofNat_of_zero_le a3
    have hpn : ((2 ^ hh : Nat) : Int) = (2 : Int) ^ t.H.toNat := by rw [hhe, Int.toNat_natCast]; norm_cast
    have hpos : 0 < 2 ^ hh := Nat.pow_pos (by decide)
    have hsr : shrI .i64 R t.H = ((Rn / 2 ^ hh : Nat) : Int) := by rw [hhe, hRn]; exact shr_nat Rn hh (by omega)
    have hnn2 : ∀ {p : Prop}, p → nn t.H p := fun h => by rw [hhe]; exact h
    have bad7 : ¬ okT t → N_tile_Check.j7 Q w4 := fun h => N_tile_Check.j7_eq (h := hno h w4 k4)
    refine opnI_c (hb4.rd 2 rfl) (opnI_c (hb4.rd 0 rfl) (hnn2 ?_))
    rw [hsr]
    have hprod : t.N * 2 ^ t.H.toNat = ((Nn * 2 ^ hh : Nat) : Int) := by rw [hNn, ← hpn]; norm_cast
    by_cases g5 : t.N > ((Rn / 2 ^ hh : Nat) : Int)
    · refine c_gt g5 (bad7 fun h => ?_)
      have h1 := hokiff.1 h
      rw [hprod] at h1
      have h2 : Nn ≤ Rn / 2 ^ hh := (Nat.le_div_iff_mul_le hpos).2 (by omega)
      omega
    refine c_ngt (by omega) (opnI_c (hb4.rd 2 rfl) (opnI_c (hb4.rd 0 rfl) (hnn2 (opnI_c (hb4.rd 3 rfl) ?_))))
    have h2 : Nn * 2 ^ hh ≤ Rn := (Nat.le_div_iff_mul_le hpos).1 (by omega)
    have hsl : shlI .i64 t.N t.H = ((Nn * 2 ^ hh : Nat) : Int) := by rw [hhe, hNn]; exact shl_nat Nn hh (by omega) (by omega)
    rw [hsl, wrap_id (by omega) (by omega)]
    by_cases g6 : ((Nn * 2 ^ hh : Nat) : Int) + t.W > R
    · exact c_gt g6 (bad7 fun h => by have h1 := hokiff.1 h; rw [hprod] at h1; omega)
    · exact c_ngt (by omega) (N_tile_Check.j8_eq (h := hok (hokiff.2 (by rw [hprod]; omega)) w4 k4))
  refine r3 (r0 (full_word (by omega) (by omega) (opnI_s ⟨r3 rfl, ?_⟩)))
  all_goals
    by_cases a1 : t.W > 2 ^ t.H.toNat
    · exact c_gt a1 (bad fun h => by unfold okT at h; omega)
    refine c_ngt (by omega) (r1 ?_)
    by_cases a2 : t.L < 0
    · exact c_lt a2 (bad fun h => by unfold okT at h; omega)
    refine c_nlt (by omega) (r2 ?_)
    by_cases a3 : t.N < 0
    · exact c_lt a3 (bad fun h => by unfold okT at h; omega)
    refine c_nlt (by omega) (r4 ?_)
    cases hd : t.D with
    | false => exact j3 (by omega) (by omega) (by omega) (fun h => by rw [hd] at h; cases h)
    | true =>
      refine c_t rfl (r1 ?_)
      by_cases a4 : t.L = 0
      · exact c_nne a4 (j3 (by omega) (by omega) (by omega) fun _ => a4)
      · exact c_ne a4 (bad fun h => a4 (h.2.2.2.2.2.2.1 hd))
end Go.Proofs.YtcigjlbpdkkflaaGreatDoor.Pa
set_option maxRecDepth 10000
namespace Go.Proofs.YtcigjlbpdkkflaaGreatDoor.Pa
open Go.Sh Go.RowKit

theorem ba_app (a b : List UInt8) : (⟨a.toArray⟩ : ByteArray) ++ ⟨b.toArray⟩ = ⟨(a ++ b).toArray⟩ := by
  apply ByteArray.ext
  rw [ByteArray.data_append]; simp
theorem ba_size (l : List UInt8) : (⟨l.toArray⟩ : ByteArray).size = l.length := by simp [ByteArray.size]
theorem ba_ext (l : List UInt8) (i j : Nat) : (⟨l.toArray⟩ : ByteArray).extract i j = ⟨((l.drop i).take (j - i)).toArray⟩ := by
  apply ByteArray.ext
  simp [ByteArray.data_extract]
theorem tmod3 (n : Nat) : Int.tmod (n : Int) 3 = ((n % 3 : Nat) : Int) := rfl
theorem blk_eq {w w' : World} {b T : Nat} {l : List Value} (h : Blk w b T l) (e : w'.heap[b]? = w.heap[b]?) : Blk w' b T l := by
  obtain ⟨fr, h1, h2⟩ := h
  exact ⟨fr, by rw [e]; exact h1, h2⟩
structure Pw (w0 : World) (b0 bb : Nat) (t : Tl) (l : List UInt8) (w : World) : Prop where
  bd : Bd bb l w
  box : Blk w b0 41 (tv t)
  le : bb ≤ w.heap.size
  k : Chg None w0 w
  b0 : b0 < bb
  h0 : w0.heap.size ≤ bb
  st : Std w0
section
variable {Q : Value → World → Prop} {w w0 : World} {b0 bb : Nat} {t : Tl} {l : List UInt8}
theorem Pw.chg {w' : World} (h : Pw w0 b0 bb t l w) (k : Chg None w w') : Pw w0 b0 bb t l w' := ⟨h.bd.chg k, h.box.chg k (fun h => h), Nat.le_trans h.le k.size, h.k.none_trans k, h.b0, h.h0, h.st⟩
theorem Pw.std (h : Pw w0 b0 bb t l w) : Std w := h.st.chg h.k
theorem pw_write (h : Pw w0 b0 bb t l w) {s : List UInt8} (hl : l.length + s.length ≤ 1048576) (hQ : ∀ v e w', Pw w0 b0 bb t (l ++ s) w' → Q (.tuple #[.int .i64 v, e]) w') : C_p_strings_Builder_WriteString #[.pointer (some ⟨bb, 0, none⟩), .string ⟨s.toArray⟩] w Q :=
  write_word h.bd h.le (by rw [ba_size]; exact hl) h.h0 h.k fun v e w' hB k hold hsz => hQ v e w' ⟨hB, blk_eq h.box (hold _ h.b0), hsz, k, h.b0, h.h0, h.st⟩
theorem j9_pad : ∀ (k : Nat) (d : List UInt8), (3 - d.length % 3) % 3 = k → d.length + k ≤ 100 → (∀ d', d' = List.replicate k 48 ++ d → N_tile_Path.j11 Q ⟨b0, 0, none⟩ ⟨bb, 0, none⟩ ⟨d'.toArray⟩ w) → N_tile_Path.j9 Q ⟨b0, 0, none⟩ ⟨bb, 0, none⟩ ⟨d.toArray⟩ w := by
  intro k
  induction k with
  | zero =>
    intro d hk hl hend
    refine N_tile_Path.j9_eq (h := ⟨by decide, ?_⟩)
    rw [ba_size, tmod3]
    exact c_nne (by omega) (hend d rfl)
  | succ k ih =>
    intro d hk hl hend
    refine N_tile_Path.j9_eq (h := ⟨by decide, ?_⟩)
    rw [ba_size, tmod3]
    refine c_ne (by omega) ⟨by rw [ba_size]; exact (show 1 + d.length ≤ 9223372036854775807 by omega), ?_⟩
    rw [ba_app]
    refine ih (48 :: d) (by rw [List.length_cons]; omega) (by have : (48 :: d).length = d.length + 1 := rfl; omega) fun d' hd' => hend d' ?_
    rw [hd', List.replicate_succ', List.append_assoc]; rfl
theorem j17_word {l : List UInt8} (h : Pw w0 b0 bb t l w) (he : l = pathB t) (hQ : ∀ w', Chg None w0 w' → Q (.tuple #[.string ⟨(pathB t).toArray⟩, .int .i64 0]) w') : N_tile_Path.j17 Q ⟨bb, 0, none⟩ w := by
  subst he
  refine N_tile_Path.j17_eq (h := string_word h.bd (by simp [pathB]) h.h0 h.k fun w' k => ?_)
  rw [opnS_s]
  exact hQ w' k
theorem j11_word (hok : okT t) (hQ : ∀ w', Chg None w0 w' → Q (.tuple #[.string ⟨(pathB t).toArray⟩, .int .i64 0]) w') : ∀ (n : Nat) (d l : List UInt8) (w : World), d.length ≤ n → d.length ≤ 100 → l.length ≤ 1000 + 5 * (100 - d.length) → Pw w0 b0 bb t l w → l ++ slashes (gtail d (wdB t)) = pathB t → N_tile_Path.j11 Q ⟨b0, 0, none⟩ ⟨bb, 0, none⟩ ⟨d.toArray⟩ w := by
  obtain ⟨h1, h2, h3, h4, h5, h6, h7⟩ := hok.bounds
  have hH := hok.1
  have small : ∀ (d l : List UInt8) (w : World), d.length ≤ 3 → l.length ≤ 1000 + 5 * (100 - d.length) → Pw w0 b0 bb t l w → l ++ slashes (gtail d (wdB t)) = pathB t → N_tile_Path.j11 Q ⟨b0, 0, none⟩ ⟨bb, 0, none⟩ ⟨d.toArray⟩ w := by
    intro d l w g hl h he
    refine N_tile_Path.j11_eq (h := ?_)
    rw [ba_size]
    refine c_ngt (by omega) ⟨by rw [ba_size]; exact (show 1 + d.length ≤ 9223372036854775807 by omega), ?_⟩
    rw [ba_app]
    refine pw_write h (by simp only [List.length_append, List.length_cons, List.length_nil]; omega) fun v e w1 hp => ⟨rfl, opnI_c rfl (opnV_c rfl ?_)⟩
    rw [drw_s]
    have hp2 := hp.chg (Chg.drew0 (D := None) w1)
    generalize w1.drew = w2 at hp2
    refine opnI_c (hp2.box.rd 3 rfl) (opnI_c (hp2.box.rd 0 rfl) (full_word (by omega) (by omega) (opnI_s ⟨opnI_c (hp2.box.rd 3 rfl) rfl, ?_⟩)))
    rw [gtail_small g] at he
    by_cases hw : t.W < 2 ^ t.H.toNat
    · have ew : wdB t = some (Lib.itoa t.W) := by unfold wdB; rw [if_pos hw]
      rw [ew] at he
      refine c_lt hw (opnI_c (hp2.box.rd 3 rfl) (itoa_word (by omega) (by omega) hp2.std fun w3 k3 => ?_))
      have hil := Lib.itoa_length_le t.W (by omega) (by omega)
      rw [opnS_s]
      refine ⟨by rw [ba_size]; exact (show 3 + (Lib.itoa t.W).length ≤ 9223372036854775807 by omega), ?_⟩
      rw [ba_app]
      refine pw_write (hp2.chg k3) (by simp only [List.length_append, List.length_cons, List.length_nil]; omega) fun v e w4 hp4 => ⟨rfl, opnI_c rfl (opnV_c rfl ?_)⟩
      exact j17_word hp4 (by rw [← he]; simp [slashes]) hQ
    · have ew : wdB t = none := by unfold wdB; rw [if_neg hw]
      rw [ew] at he
      exact c_nlt (by omega) (j17_word hp2 (by rw [← he]; simp [slashes]) hQ)
  intro n
  induction n with
  | zero =>
    intro d l w hn hd hl h he
    exact small d l w (by omega) hl h he
  | succ n ih =>
    intro d l w hn hd hl h he
    by_cases g : d.length ≤ 3
    · exact small d l w g hl h he
    · refine N_tile_Path.j11_eq (h := ?_)
      rw [ba_size]
      refine c_gt (by omega) ⟨by decide, by omega, ?_, ?_⟩
      · rw [ba_ext, ba_size]
        have h3 := List.length_take_le 3 d
        exact (show 2 + (d.take 3).length ≤ 9223372036854775807 by omega)
      rw [ba_ext, ba_app]
      have e3 : (d.drop 0).take (Int.toNat 3 - 0) = d.take 3 := rfl
      rw [e3]
      refine pw_write h (by simp only [List.length_append, List.length_cons, List.length_nil, List.length_take]; omega) fun v e w1 hp => ⟨rfl, opnI_c rfl (opnV_c rfl ⟨by decide, by omega, ?_⟩)⟩
      rw [ba_ext]
      have e4 : (d.drop (Int.toNat 3)).take (d.length - Int.toNat 3) = d.drop 3 := List.take_of_length_le (by rw [List.length_drop]; exact Nat.le_refl _)
      rw [e4]
      refine ih (d.drop 3) _ w1 (by rw [List.length_drop]; omega) (by rw [List.length_drop]; omega) ?_ hp ?_
      · simp only [List.length_append, List.length_cons, List.length_nil, List.length_take, List.length_drop]; omega
      · rw [← he, gtail_big g]; simp [slashes]
theorem path_word (hf : fitsT t) (st : Std w0) (hok : okT t → ∀ w', Chg None w0 w' → Q (.tuple #[.string ⟨(pathB t).toArray⟩, .int .i64 0]) w') (hno : ¬ okT t → ∀ w', Chg None w0 w' → Q (.tuple #[.string ⟨#[]⟩, .int .i64 101]) w') : C_tile_Path #[tg t] w0 Q := by
  refine C_tile_Path_eq _ _ _ _ _ _ _ ?_
  refine alC_box fun b w1 hb k1 hlo => ?_
  refine opnI_c (hb.rd 0 rfl) (opnI_c (hb.rd 1 rfl) (opnI_c (hb.rd 2 rfl) (opnI_c (hb.rd 3 rfl) (opnB_c (hb.rd 4 rfl) ?_))))
  refine check_word (t := t) hf (fun hk w2 k2 => ?_) fun hk w2 k2 => opnI_s (c_ne (by decide) (hno hk w2 (k1.none_trans k2)))
  refine opnI_s (c_nne rfl ?_)
  replace hok := hok hk
  obtain ⟨h1, h2, h3, h4, h5, h6, h7⟩ := hk.bounds
  have hH := hk.1
  unfold alC
  have ka : Chg None w2 (w2.alloc (.cells #[.pointer none, .slice none 0 0] 181)) := chg_alloc w2 _
  have hb2 : Blk w2 b 41 (tv t) := hb.chg k2 (fun h => h)
  have hp : Pw w0 b w2.heap.size t [] (w2.alloc (.cells #[.pointer none, .slice none 0 0] 181)) :=
    ⟨bd_new, hb2.chg ka (fun h => h), ka.size, (k1.none_trans k2).none_trans ka, hb2.lt, (k1.none_trans k2).size, st⟩
  generalize w2.alloc (.cells #[.pointer none, .slice none 0 0] 181) = w3 at hp
  generalize hbb : w2.heap.size = bb at hp
  have lH := Lib.itoa_length_le t.H (by omega) (by omega)
  have lL := Lib.itoa_length_le t.L (by omega) (by omega)
  have lN := Lib.itoa_length_le t.N (by omega) (by omega)
  refine opnI_c (hp.box.rd 0 rfl) (itoa_word (by omega) (by omega) hp.std fun w4 k4 => ?_)
  rw [opnS_s]
  have hp4 := hp.chg k4
  refine ⟨by rw [ba_size]; exact (show 5 + (Lib.itoa t.H).length ≤ 9223372036854775807 by omega), ?_⟩
  rw [ba_app]
  refine ⟨by rw [ba_size, ba_size]; simp only [List.length_append, List.length_cons, List.length_nil]; omega, ?_⟩
  rw [ba_app]
  refine pw_write hp4 (by simp only [List.length_append, List.length_cons, List.length_nil]; omega) fun v e w5 hp5 => ⟨rfl, opnI_c rfl (opnV_c rfl (opnB_c (hp5.box.rd 4 rfl) ?_))⟩
  -- the number
  have num : ∀ (l : List UInt8) (w : World), l.length ≤ 200 → Pw w0 b bb t l w → l ++ slashes (gtail (pad3 (Lib.itoa t.N)) (wdB t)) = pathB t → N_tile_Path.j8 Q ⟨b, 0, none⟩ ⟨bb, 0, none⟩ w := by
    intro l w hl hp he
    refine N_tile_Path.j8_eq (h := opnI_c (hp.box.rd 2 rfl) (fmt_word (by omega) (by omega) hp.std fun w2 k2 => ?_))
    rw [opnS_s]
    refine j9_pad _ _ rfl (by omega) fun d' hd' => ?_
    have e : d' = pad3 (Lib.itoa t.N) := hd'
    have hpl := pad_len_le (Lib.itoa t.N)
    subst e
    exact j11_word hk hok _ _ l w2 (Nat.le_refl _) (by omega) (by omega) (hp.chg k2) he
  by_cases hD : t.D = true
  · refine c_t hD ?_
    refine pw_write hp5 (s := [100, 97, 116, 97]) (by simp only [List.length_append, List.length_cons, List.length_nil]; omega) fun v e w6 hp6 => ⟨rfl, opnI_c rfl (opnV_c rfl ?_)⟩
    refine num _ w6 (by simp only [List.length_append, List.length_cons, List.length_nil]; omega) hp6 ?_
    have : lvlB t = [100, 97, 116, 97] := by unfold lvlB; rw [if_pos hD]
    simp [pathB, partsB, slashes, this]
  · refine c_f (by simpa using hD) (opnI_c (hp5.box.rd 1 rfl) (itoa_word (by omega) (by omega) hp5.std fun w6 k6 => ?_))
    rw [opnS_s]
    refine pw_write (hp5.chg k6) (by simp only [List.length_append, List.length_cons, List.length_nil]; omega) fun v e w7 hp7 => ⟨rfl, opnI_c rfl (opnV_c rfl ?_)⟩
    refine num _ w7 (by simp only [List.length_append, List.length_cons, List.length_nil]; omega) hp7 ?_
    have : lvlB t = Lib.itoa t.L := by unfold lvlB; rw [if_neg hD]
    simp [pathB, partsB, slashes, this]
end
end Go.Proofs.YtcigjlbpdkkflaaGreatDoor.Pa
set_option maxRecDepth 10000
namespace Go.Proofs.YtcigjlbpdkkflaaGreatDoor.Pa
open Go.Sh Go.RowKit

theorem and15 (x : Int) : bits .and .i64 x 15 = x % 16 := by
  show IntKind.i64.wrap ((BitVec.ofInt 64 x &&& BitVec.ofInt 64 15).toNat : Int) = _
  rw [BitVec.toNat_and, BitVec.toNat_ofInt, show (BitVec.ofInt 64 15).toNat = 2 ^ 4 - 1 from rfl, Nat.and_two_pow_sub_one_eq_mod, IntKind.wrap_i64]
  omega
theorem slA_three {b c : Nat} (h : 3 < c) : slA (some ⟨b, 0, none⟩) (Int.toNat 3) c 1 = some ⟨b, 3, none⟩ := by
  unfold slA
  split
  · rename_i g; exact absurd g (by simp; omega)
  · rfl
theorem ba_list (l : List UInt8) : (⟨l.toArray⟩ : ByteArray).data.toList = l := by simp
section
variable {Q : Value → World → Prop} {w w0 : World}
theorem j16_word {b0 b1 : Nat} {t : Tl} {old : List Value} (h0 : Blk w b0 41 old) (hl : old.length = 5) (h1 : Blk w b1 41 (tv t)) (hlo : w0.heap.size ≤ b0) (k : Chg None w0 w) (hQ : ∀ w', Chg None w0 w' → Q (tg t) w') : N_tile_guess.j16 Q ⟨b0, 0, none⟩ ⟨b1, 0, none⟩ w := by
  refine N_tile_guess.j16_eq (h := ?_)
  refine opnI_c (h1.rd 0 rfl) (opnI_c (h1.rd 1 rfl) (opnI_c (h1.rd 2 rfl) (opnI_c (h1.rd 3 rfl) (opnB_c (h1.rd 4 rfl) ⟨rfl, ?_⟩))))
  refine box5 h0 hl rfl fun w' hb k' => ?_
  refine opnI_c (hb.rd 0 rfl) (opnI_c (hb.rd 1 rfl) (opnI_c (hb.rd 2 rfl) (opnI_c (hb.rd 3 rfl) (opnB_c (hb.rd 4 rfl) ?_))))
  exact hQ w' (Chg.fresh k k' fun x hx => by rw [hx]; exact hlo)
theorem j14_word {b0 b1 bs c : Nat} {num : List (List UInt8)} {t : Tl} {old : List Value} (hc : ∀ (j : Nat) l, num[j]? = some l → w.cell? ⟨bs, 3 + j, none⟩ = some (.string ⟨l.toArray⟩)) (hbs : bs < w.heap.size) (hcap : num.length ≤ c) (hn : num.length ≤ 300) (hl : num.flatten.length ≤ 300) (h0 : Blk w b0 41 old) (hl0 : old.length = 5) (h1 : Blk w b1 41 (tv t)) (hlo0 : w0.heap.size ≤ b0) (hlo1 : w0.heap.size ≤ b1) (ne : b1 ≠ b0) (k : Chg None w0 w) (st0 : Std w0) (hQ : ∀ w', Chg None w0 w' → Q (tg { t with N := parseV (Lib.trimSuffix (Lib.replaceAll num.flatten [120] []) [46, 112]) }) w') : N_tile_guess.j14 Q ⟨b0, 0, none⟩ ⟨b1, 0, none⟩ (some ⟨bs, 3, none⟩) num.length c w := by
  refine N_tile_guess.j14_eq (h := join_word hc hbs hcap (by omega) (by omega) fun w1 k1 => ?_)
  rw [opnS_s]
  refine replaceAll_word (by rw [ba_size]; omega) (st0.chg (k.none_trans k1)) fun w2 k2 => ?_
  rw [opnS_s, ba_list]
  have hr : (Lib.replaceAll num.flatten [120] []).length ≤ 300 := by
    rw [replaceAll_one]
    exact Nat.le_trans (List.length_filter_le _ _) hl
  refine trimSuffix_word (by rw [ba_size]; omega) ?_
  rw [opnS_s, ba_list]
  have ht : (Lib.trimSuffix (Lib.replaceAll num.flatten [120] []) [46, 112]).length ≤ 300 := by
    unfold Lib.trimSuffix
    split
    · exact Nat.le_trans (List.length_take_le ..) (by omega)
    · exact hr
  have k02 := k.none_trans (k1.none_trans k2)
  refine N_tile_guess.j15_eq (h := parse_word (by rw [ba_size]; exact Nat.le_trans ht (by decide)) (st0.chg k02) fun e w3 k3 => ⟨rfl, opnI_c rfl (opnV_c rfl ?_)⟩)
  rw [ba_list]
  have k13 := (k1.none_trans k2).none_trans k3
  refine box_set (h1.chg k13 (fun h => h)) (by simp [tv]) rfl fun w4 hb4 k4 => ?_
  refine j16_word (t := { t with N := parseV (Lib.trimSuffix (Lib.replaceAll num.flatten [120] []) [46, 112]) }) ((h0.chg k13 (fun h => h)).chg k4 (fun e => ne e.symm)) hl0 hb4 hlo0 (Chg.fresh (k02.none_trans k3) k4 fun x hx => by rw [hx]; exact hlo1) hQ
theorem guess_word {s : ByteArray} (hs : s.size ≤ 200) (st : Std w0) (hQ : ∀ w', Chg None w0 w' → Q (tg (guessV (cutAt 47 s.data.toList))) w') : C_tile_guess #[.string s] w0 Q := by
  refine C_tile_guess_eq _ _ _ ?_
  refine alC_box fun b0 w1 hb0 k1 hlo => ?_
  refine split_word (by omega) (st.chg k1) fun bs w2 hbs k2 hlo2 => ?_
  rw [opnL_s]
  have k02 := k1.none_trans k2
  have hb02 := hb0.chg k2 (fun h => h)
  have htot : (cutAt 47 s.data.toList).flatten.length ≤ s.data.toList.length ∧ (cutAt 47 s.data.toList).length ≤ s.data.toList.length + 1 := by
    have : ∀ l : List UInt8, (cutAt 47 l).flatten.length ≤ l.length ∧ (cutAt 47 l).length ≤ l.length + 1 := by
      intro l
      induction l with
      | nil => simp [cutAt]
      | cons x l ih =>
        unfold cutAt
        split
        · simp only [List.flatten_cons, List.nil_append, List.length_cons]; omega
        · split
          · simp
          · rename_i y r hy
            rw [hy] at ih
            simp only [List.flatten_cons, List.length_append, List.length_cons] at ih ⊢; omega
    exact this _
  have hsl : s.data.toList.length ≤ 200 := by rw [← Lib.size_eq]; exact hs
  generalize hps : cutAt 47 s.data.toList = ps at *
  by_cases g : ps.length < 4
  · refine c_lt (by omega) ⟨rfl, ?_⟩
    refine box5 hb02 rfl rfl fun w' hb k' => ?_
    refine opnI_c (hb.rd 0 rfl) (opnI_c (hb.rd 1 rfl) (opnI_c (hb.rd 2 rfl) (opnI_c (hb.rd 3 rfl) (opnB_c (hb.rd 4 rfl) ?_))))
    have := hQ w' (Chg.fresh k02 k' fun x hx => by rw [hx]; exact hlo)
    unfold guessV at this
    rw [if_pos g] at this
    exact this
  refine c_nlt (by omega) ?_
  refine alC_box fun b1 w3 hb1 k3 hlo3 => ?_
  have hbs3 := hbs.chg k3 (fun h => h)
  have hb03 := hb02.chg k3 (fun h => h)
  have k03 := k02.none_trans k3
  have ne1 : b1 ≠ bs := fun e => by have := hbs.lt; omega
  have ne0 : b1 ≠ b0 := fun e => by have := hb02.lt; omega
  have len : ∀ (j : Nat) (l : List UInt8), ps[j]? = some l → l.length ≤ 200 := by
    intro j l hj
    have hm := List.mem_of_getElem? hj
    have : l.length ≤ ps.flatten.length := by
      obtain ⟨a, r, rfl⟩ := List.append_of_mem hm
      simp only [List.flatten_append, List.flatten_cons, List.length_append]; omega
    omega
  have gsv : ∀ (j : Nat), j < ps.length → (svs ps)[j]? = some (.string ⟨(ps[j]?.getD []).toArray⟩) := by
    intro j hj
    rw [List.getElem?_map, List.getElem?_eq_getElem hj]; rfl
  have lenD : ∀ j : Nat, (ps[j]?.getD []).length ≤ 200 := by
    intro j
    match h : ps[j]? with
    | none => exact Nat.zero_le _
    | some l => exact len j l h
  refine ⟨by decide, by omega, ?_⟩
  show opnS (w3.cell? ((⟨bs, 0, none⟩ : Addr).add 1)) _
  refine opnS_c (hbs3.rd 1 (gsv 1 (by omega))) ?_
  refine atoi_word (by rw [ba_size]; have := lenD 1; omega) (st.chg k03) fun e4 w4 k4 => ⟨rfl, opnI_c rfl (opnV_c rfl ?_)⟩
  rw [ba_list]
  refine box_set (hb1.chg k4 (fun h => h)) (by simp) rfl fun w5 hb5 k5 => ⟨by decide, by omega, ?_⟩
  have hfr : ∀ {a b : World}, Chg None w0 a → Chg (fun k => k = b1) a b → Chg None w0 b := fun h k => Chg.fresh h k fun x hx => by rw [hx]; have := k03.size; have := k02.size; omega
  have k05 := hfr (k03.none_trans k4) k5
  have hbs5 := (hbs3.chg k4 (fun h => h)).chg k5 (fun e => ne1 e.symm)
  have hb05 := (hb03.chg k4 (fun h => h)).chg k5 (fun e => ne0 e.symm)
  show opnS (w5.cell? ((⟨bs, 0, none⟩ : Addr).add 2)) _
  refine opnS_c (hbs5.rd 2 (gsv 2 (by omega))) ?_
  have hD : ((⟨(ps[2]?.getD []).toArray⟩ : ByteArray).toList == (⟨#[100, 97, 116, 97]⟩ : ByteArray).toList) = decide (ps[2]?.getD [] = [100, 97, 116, 97]) := by
    rw [Lib.toList_data, Lib.toList_data, ba_list]
    rw [Bool.eq_iff_iff]; simp
  rw [hD]
  refine box_set hb5 (by simp) rfl fun w6 hb6 k6 => ⟨by decide, by omega, ?_⟩
  have k06 := hfr k05 k6
  have hbs6 := hbs5.chg k6 (fun e => ne1 e.symm)
  have hb06 := hb05.chg k6 (fun e => ne0 e.symm)
  show opnS (w6.cell? ((⟨bs, 0, none⟩ : Addr).add 2)) _
  refine opnS_c (hbs6.rd 2 (gsv 2 (by omega))) ?_
  refine atoi_word (by rw [ba_size]; have := lenD 2; omega) (st.chg k06) fun e7 w7 k7 => ⟨rfl, opnI_c rfl (opnV_c rfl ?_)⟩
  rw [ba_list]
  refine box_set (hb6.chg k7 (fun h => h)) (by simp) rfl fun w8 hb8 k8 => ⟨by decide, by omega, ?_⟩
  have k08 := hfr (k06.none_trans k7) k8
  have hbs8 := (hbs6.chg k7 (fun h => h)).chg k8 (fun e => ne1 e.symm)
  have hb08 := (hb06.chg k7 (fun h => h)).chg k8 (fun e => ne0 e.symm)
  refine opnI_c (hb8.rd 0 rfl) ?_
  rw [and15]
  refine full_word (by omega) (by omega) (opnI_s ?_)
  refine box_set hb8 (by simp) rfl fun w9 hb9 k9 => ?_
  have k09 := hfr k08 k9
  have hbs9 := hbs8.chg k9 (fun e => ne1 e.symm)
  have hb09 := hb08.chg k9 (fun e => ne0 e.symm)
  have hcell : ∀ (w : World), Blk w bs 9 (svs ps) → ∀ (j : Nat) l, (ps.drop 3)[j]? = some l → w.cell? ⟨bs, 3 + j, none⟩ = some (.string ⟨l.toArray⟩) := by
    intro w h j l hj
    rw [List.getElem?_drop] at hj
    rw [h.cell, List.getElem?_map, hj]; rfl
  have hnl : (ps.drop 3).length = ps.length - 3 := List.length_drop
  have hfl : (ps.drop 3).flatten.length ≤ 200 := by
    have : ps.flatten = (ps.take 3).flatten ++ (ps.drop 3).flatten := by rw [← List.flatten_append, List.take_append_drop]
    have := congrArg List.length this
    rw [List.length_append] at this
    omega
  have hlo1' : w0.heap.size ≤ b1 := by have := k02.size; omega
  unfold guessV at hQ
  rw [if_neg g] at hQ
  simp only [hnl] at hQ
  show cond (decide (((ps.length - 3 : Nat) : Int) > 1)) _ _
  rw [slA_three (by omega)]
  by_cases hk : 1 < ps.length - 3
  · refine c_gt (by omega) ?_
    have e2 : IntKind.wrap .i64 (((ps.length - Int.toNat 3 : Nat) : Int) - 2) = ((ps.length - 3 - 2 : Nat) : Int) := by
      have : ((ps.length - Int.toNat 3 : Nat) : Int) = ((ps.length - 3 : Nat) : Int) := rfl
      rw [this, wrap_id (by omega) (by omega)]; omega
    have e1 : IntKind.wrap .i64 (((ps.length - Int.toNat 3 : Nat) : Int) - 1) = ((ps.length - 3 - 1 : Nat) : Int) := by
      have : ((ps.length - Int.toNat 3 : Nat) : Int) = ((ps.length - 3 : Nat) : Int) := rfl
      rw [this, wrap_id (by omega) (by omega)]; omega
    rw [e2, e1]
    refine ⟨by omega, (show ((ps.length - 3 - 2 : Nat) : Int) < ((ps.length - 3 : Nat) : Int) by omega), ?_⟩
    have hget : ∀ j : Nat, j < ps.length - 3 → ∀ w, Blk w bs 9 (svs ps) → w.cell? ((⟨bs, 3, none⟩ : Addr).add (Int.toNat ((j : Nat) : Int) * 1)) = some (.string ⟨((ps.drop 3)[j]?.getD []).toArray⟩) := by
      intro j hj w h
      rw [Int.toNat_natCast, Nat.mul_one, Addr.add_lit]
      refine hcell w h j _ ?_
      rw [List.getElem?_eq_getElem (by omega)]; rfl
    have hlen3 : ∀ j : Nat, ((ps.drop 3)[j]?.getD []).length ≤ 200 := by
      intro j
      rw [List.getElem?_drop]; exact lenD _
    refine opnS_c (hget _ (by omega) w9 hbs9) (hasSuffix_word (by rw [ba_size]; have := hlen3 (ps.length - 3 - 2); omega) ?_)
    rw [opnB_s, ba_list]
    by_cases hsx : Lib.hasSuffix ((ps.drop 3)[ps.length - 3 - 2]?.getD []) [46, 112] = true
    · refine c_t hsx ⟨by omega, (show ((ps.length - 3 - 1 : Nat) : Int) < ((ps.length - 3 : Nat) : Int) by omega), ?_⟩
      have hc : (decide (1 < ps.length - 3) && Lib.hasSuffix ((ps.drop 3)[ps.length - 3 - 2]?.getD []) [46, 112]) = true := by rw [decide_eq_true hk, hsx]; rfl
      rw [hc] at hQ
      refine opnS_c (hget _ (by omega) w9 hbs9) ?_
      refine atoi_word (by rw [ba_size]; have := hlen3 (ps.length - 3 - 1); omega) (st.chg k09) fun e10 w10 k10 => ⟨rfl, opnI_c rfl (opnV_c rfl ?_)⟩
      rw [ba_list]
      refine box_set (hb9.chg k10 (fun h => h)) (by simp) rfl fun w11 hb11 k11 => ⟨by omega, (show ((ps.length - 3 - 1 : Nat) : Int) ≤ ((ps.length - 3 : Nat) : Int) by omega), ?_⟩
      have k011 := hfr (k09.none_trans k10) k11
      have hbs11 := (hbs9.chg k10 (fun h => h)).chg k11 (fun e => ne1 e.symm)
      have hb011 := (hb09.chg k10 (fun h => h)).chg k11 (fun e => ne0 e.symm)
      rw [slA_zero, Int.toNat_natCast, Nat.sub_zero, Nat.sub_zero]
      have htl : ((ps.drop 3).take (ps.length - 3 - 1)).length = ps.length - 3 - 1 := by rw [List.length_take, hnl]; omega
      have htf : ((ps.drop 3).take (ps.length - 3 - 1)).flatten.length ≤ 200 := by
        have : (ps.drop 3).flatten = ((ps.drop 3).take (ps.length - 3 - 1)).flatten ++ ((ps.drop 3).drop (ps.length - 3 - 1)).flatten := by rw [← List.flatten_append, List.take_append_drop]
        have := congrArg List.length this
        rw [List.length_append] at this
        omega
      have := j14_word (Q := Q) (w0 := w0) (w := w11) (b0 := b0) (b1 := b1) (bs := bs) (c := ps.length - 3) (num := (ps.drop 3).take (ps.length - 3 - 1)) (t := ⟨atoiV (ps[1]?.getD []), atoiV (ps[2]?.getD []), 0, atoiV ((ps.drop 3)[ps.length - 3 - 1]?.getD []), decide (ps[2]?.getD [] = [100, 97, 116, 97])⟩) (fun j l hj => hcell w11 hbs11 j l (by
        rw [List.getElem?_take] at hj
        split at hj
        · exact hj
        · cases hj)) hbs11.lt (by omega) (by omega) (by omega) hb011 rfl hb11 hlo hlo1' ne0 k011 st (by simpa using hQ)
      rw [htl] at this
      exact this
    · refine c_f (by simpa using hsx) ?_
      have hc : (decide (1 < ps.length - 3) && Lib.hasSuffix ((ps.drop 3)[ps.length - 3 - 2]?.getD []) [46, 112]) = false := by rw [Bool.and_eq_false_iff]; exact .inr (by simpa using hsx)
      rw [hc] at hQ
      have := j14_word (Q := Q) (w0 := w0) (w := w9) (b0 := b0) (b1 := b1) (bs := bs) (c := ps.length - 3) (num := ps.drop 3) (t := ⟨atoiV (ps[1]?.getD []), atoiV (ps[2]?.getD []), 0, 2 ^ (atoiV (ps[1]?.getD []) % 16).toNat, decide (ps[2]?.getD [] = [100, 97, 116, 97])⟩) (hcell w9 hbs9) hbs9.lt (by omega) (by omega) (by omega) hb09 rfl hb9 hlo hlo1' ne0 k09 st (by simpa using hQ)
      rw [hnl] at this
      exact this
  · refine c_ngt (by omega) ?_
    have hc : (decide (1 < ps.length - 3) && Lib.hasSuffix ((ps.drop 3)[ps.length - 3 - 2]?.getD []) [46, 112]) = false := by rw [decide_eq_false hk]; rfl
    rw [hc] at hQ
    have := j14_word (Q := Q) (w0 := w0) (w := w9) (b0 := b0) (b1 := b1) (bs := bs) (c := ps.length - 3) (num := ps.drop 3) (t := ⟨atoiV (ps[1]?.getD []), atoiV (ps[2]?.getD []), 0, 2 ^ (atoiV (ps[1]?.getD []) % 16).toNat, decide (ps[2]?.getD [] = [100, 97, 116, 97])⟩) (hcell w9 hbs9) hbs9.lt (by omega) (by omega) (by omega) hb09 rfl hb9 hlo hlo1' ne0 k09 st (by simpa using hQ)
    rw [hnl] at this
    exact this
end
end Go.Proofs.YtcigjlbpdkkflaaGreatDoor.Pa
set_option maxRecDepth 10000
namespace Go.Proofs.YtcigjlbpdkkflaaGreatDoor.Pa
open Go.Sh Go.RowKit

theorem atoi_fits (l : List UInt8) : -9223372036854775808 ≤ atoiV l ∧ atoiV l ≤ 9223372036854775807 := by
  unfold atoiV
  cases h : Lib.atoiAll l with
  | ok v =>
    show _ ≤ v ∧ v ≤ _
    unfold Lib.atoiAll at h
    split at h
    · cases h
    · simp only at h
      split at h
      · cases h
      · cases h
      · split at h
        · cases h
        · split at h
          · cases h
          · injection h with h
            subst h
            split <;> omega
  | «syntax» => exact (show (-9223372036854775808 : Int) ≤ 0 ∧ (0 : Int) ≤ 9223372036854775807 by omega)
  | range =>
    show _ ≤ Lib.atoiSat l ∧ Lib.atoiSat l ≤ _
    unfold Lib.atoiSat
    split <;> omega
theorem parse_fits (l : List UInt8) : -9223372036854775808 ≤ parseV l ∧ parseV l ≤ 9223372036854775807 := by
  unfold parseV
  cases h : Lib.parseIntB 64 l with
  | ok v =>
    show _ ≤ v ∧ v ≤ _
    unfold Lib.parseIntB at h
    split at h
    · cases h
    · simp only at h
      split at h
      · cases h
      · cases h
      · split at h
        · cases h
        · split at h
          · cases h
          · injection h with h
            subst h
            split <;> omega
  | «syntax» => exact (show (-9223372036854775808 : Int) ≤ 0 ∧ (0 : Int) ≤ 9223372036854775807 by omega)
  | range =>
    show _ ≤ Lib.intSat 64 l ∧ Lib.intSat 64 l ≤ _
    unfold Lib.intSat
    split <;> simp <;> omega
theorem guess_fits (ps : List (List UInt8)) : fitsT (guessV ps) := by
  unfold guessV
  split
  · unfold fitsT tz; simp
  · refine ⟨atoi_fits _, atoi_fits _, parse_fits _, ?_⟩
    simp only
    split
    · exact atoi_fits _
    · have h1 : (2 : Nat) ^ ((atoiV (ps[1]?.getD [])) % 16).toNat ≤ 2 ^ 16 := Nat.pow_le_pow_right (by decide) (by omega)
      have h3 : 0 < (2 : Nat) ^ ((atoiV (ps[1]?.getD [])) % 16).toNat := Nat.pow_pos (by decide)
      have h2 : ((2 ^ ((atoiV (ps[1]?.getD [])) % 16).toNat : Nat) : Int) = (2 : Int) ^ ((atoiV (ps[1]?.getD [])) % 16).toNat := by norm_cast
      omega
def goodP (s : List UInt8) : Prop := s.length ≤ 200 ∧ okT (guessV (cutAt 47 s)) ∧ pathB (guessV (cutAt 47 s)) = s
theorem goodP_path {t : Tl} (h : okT t) : goodP (pathB t) ∧ guessV (cutAt 47 (pathB t)) = t := by
  have e : guessV (cutAt 47 (pathB t)) = t := by rw [cut_path h, guess_path h]
  exact ⟨⟨path_len h, by rw [e]; exact h, by rw [e]⟩, e⟩
theorem parsepath_word {Q : Value → World → Prop} {s : ByteArray} {w0 : World} (st : Std w0) (hok : goodP s.data.toList → ∀ w', Chg None w0 w' → Q (.tuple #[tg (guessV (cutAt 47 s.data.toList)), .int .i64 0]) w') (hno : ¬ goodP s.data.toList → ∀ w', Chg None w0 w' → Q (.tuple #[tg tz, .int .i64 100]) w') : C_tile_ParsePath #[.string s] w0 Q := by
  refine C_tile_ParsePath_eq _ _ _ ?_
  refine alC_box fun b w1 hb k1 hlo => ?_
  have hsz := Lib.size_eq s
  by_cases g : s.size ≤ 200
  case neg =>
    refine c_gt (by omega) ⟨rfl, ?_⟩
    refine box5 hb rfl rfl fun w' hb k' => ?_
    refine opnI_c (hb.rd 0 rfl) (opnI_c (hb.rd 1 rfl) (opnI_c (hb.rd 2 rfl) (opnI_c (hb.rd 3 rfl) (opnB_c (hb.rd 4 rfl) ?_))))
    exact hno (fun h => by have := h.1; omega) w' (Chg.fresh k1 k' fun x hx => by rw [hx]; exact hlo)
  refine c_ngt (by omega) (guess_word g (st.chg k1) fun w2 k2 => ?_)
  refine ⟨rfl, opnI_c rfl (opnI_c rfl (opnI_c rfl (opnI_c rfl (opnB_c rfl ?_))))⟩
  refine alC_box fun b2 w3 hb3 k3 hlo3 => ⟨rfl, ?_⟩
  have hft := guess_fits (cutAt 47 s.data.toList)
  have hgood : goodP s.data.toList ↔ okT (guessV (cutAt 47 s.data.toList)) ∧ pathB (guessV (cutAt 47 s.data.toList)) = s.data.toList := by
    unfold goodP
    exact ⟨fun h => h.2, fun h => ⟨by omega, h⟩⟩
  generalize guessV (cutAt 47 s.data.toList) = t at *
  refine box5 (v0 := .int .i64 t.H) hb3 rfl rfl fun w4 hb4 k4 => ?_
  have k03 := k1.none_trans (k2.none_trans k3)
  have k04 : Chg None w0 w4 := Chg.fresh k03 k4 fun x hx => by rw [hx]; have := (k1.none_trans k2).size; omega
  have ne : b2 ≠ b := fun e => by have := hb.lt; have := k2.size; omega
  have hb04 := (hb.chg (k2.none_trans k3) (fun h => h)).chg k4 (fun e => ne e.symm)
  refine opnI_c (hb4.rd 0 rfl) (opnI_c (hb4.rd 1 rfl) (opnI_c (hb4.rd 2 rfl) (opnI_c (hb4.rd 3 rfl) (opnB_c (hb4.rd 4 rfl) ?_))))
  have bad : ∀ w5, Chg None w4 w5 → ¬ goodP s.data.toList → N_tile_ParsePath.j6 Q ⟨b, 0, none⟩ w5 := by
    intro w5 k5 h
    refine N_tile_ParsePath.j6_eq (h := ⟨rfl, ?_⟩)
    refine box5 (hb04.chg k5 (fun h => h)) rfl rfl fun w' hb k' => ?_
    refine opnI_c (hb.rd 0 rfl) (opnI_c (hb.rd 1 rfl) (opnI_c (hb.rd 2 rfl) (opnI_c (hb.rd 3 rfl) (opnB_c (hb.rd 4 rfl) ?_))))
    exact hno h w' (Chg.fresh (k04.none_trans k5) k' fun x hx => by rw [hx]; exact hlo)
  refine path_word (t := t) hft (st.chg k04) (fun hk w5 k5 => ⟨rfl, opnS_c rfl (opnI_c rfl ?_)⟩) fun hk w5 k5 => ⟨rfl, opnS_c rfl (opnI_c rfl (c_ne (by decide) (bad w5 k5 fun h => hk (hgood.1 h).1)))⟩
  refine c_nne rfl ?_
  rw [Lib.toList_data, Lib.toList_data, ba_list]
  by_cases he : pathB t = s.data.toList
  · rw [he, beq_self_eq_true, Bool.not_true, cond_false]
    have hb4' := hb4.chg k5 (fun h => h)
    refine opnI_c (hb4'.rd 0 rfl) (opnI_c (hb4'.rd 1 rfl) (opnI_c (hb4'.rd 2 rfl) (opnI_c (hb4'.rd 3 rfl) (opnB_c (hb4'.rd 4 rfl) ⟨rfl, ?_⟩))))
    refine box5 (v0 := .int .i64 t.H) (hb04.chg k5 (fun h => h)) rfl rfl fun w' hb k' => ?_
    refine opnI_c (hb.rd 0 rfl) (opnI_c (hb.rd 1 rfl) (opnI_c (hb.rd 2 rfl) (opnI_c (hb.rd 3 rfl) (opnB_c (hb.rd 4 rfl) ?_))))
    exact hok (hgood.2 ⟨hk, he⟩) w' (Chg.fresh (k04.none_trans k5) k' fun x hx => by rw [hx]; exact hlo)
  · rw [beq_eq_false_iff_ne.2 he, Bool.not_false, cond_true]
    exact bad w5 k5 fun h => he (hgood.1 h).2
end Go.Proofs.YtcigjlbpdkkflaaGreatDoor.Pa
set_option maxRecDepth 10000
namespace Go.Proofs.YtcigjlbpdkkflaaGreatDoor
open Go.Sh Go.ChangeShapes
open Go.RowKit
abbrev Tl := Pa.Tl
structure Dc (w0 w : World) (T : Tags) (G : Gs) (d c : Nat) (D : DiskA) (C : CaM) : Prop where
  a : DiskD w T d D
  b : CaAt w G c d C
  ap : ∀ k, G k ≠ .no → T k = .free
  k0 : Chg None w0 w
  st : Pa.Std w0
  low : ∀ k, k < w0.heap.size → T k = .free ∧ G k = .no
def DcD (T : Tags) (G : Gs) (k : Nat) : Prop := T k ≠ .free ∨ G k = .mu
structure Nx (w w' : World) (T T' : Tags) (G G' : Gs) : Prop where
  t : ∀ k, k < w.heap.size → T' k = T k
  g : ∀ k, k < w.heap.size → G' k = G k
  k : Chg (DcD T G) w w'
def tlE (e : Nm × Int) : Tl := ⟨e.1.1, e.1.2.1, e.1.2.2, e.2, false⟩
def nmT (t : Tl) : Nm := (t.H, t.L, t.N)
structure CaOk (C : CaM) : Prop where
  pre : C.pre.length ≤ 40
  room : 0 ≤ C.room ∧ C.room ≤ 4096
  es : ∀ e ∈ C.es, Pa.okT (tlE e)
  few : (C.es.length : Int) ≤ C.room
  head : C.head.length ≤ 1099511627776
section
variable {Q : Value → World → Prop} {w w' w0 w2 : World} {T T' T2 : Tags} {G G' G2 : Gs} {c d : Nat} {D D' : DiskA} {C C' : CaM}
theorem Nx.refl (w : World) (T : Tags) (G : Gs) : Nx w w T T G G := ⟨fun _ _ => rfl, fun _ _ => rfl, Chg.refl _ _⟩
theorem Nx.none (k : Chg None w w') : Nx w w' T T G G := ⟨fun _ _ => rfl, fun _ _ => rfl, k.mono fun _ _ h => h.elim⟩
theorem Nx.trans (h : Nx w w' T T' G G') (h2 : Nx w' w2 T' T2 G' G2) : Nx w w2 T T2 G G2 := by
  have hs := h.k.size
  refine ⟨fun k hk => by rw [h2.t k (by omega), h.t k hk], fun k hk => by rw [h2.g k (by omega), h.g k hk], Chg.trans h.k h2.k (fun _ _ h => h) fun x hx hd => ?_⟩
  unfold DcD at hd ⊢
  rw [h.t x hx, h.g x hx] at hd
  exact hd
theorem Dc.std (h : Dc w0 w T G d c D C) : Pa.Std w := h.st.chg h.k0
theorem Dc.none (h : Dc w0 w T G d c D C) (k : Chg None w w') : Dc w0 w' T G d c D C := ⟨h.a.chg0 k, h.b.chg0 k, h.ap, h.k0.none_trans k, h.st, h.low⟩
theorem CaAt.free (h : CaAt w G c d C) {k : Nat} (hk : w.heap.size ≤ k) : G k = .no := Classical.byContradiction fun g => by
  obtain ⟨oa, oc, mr, ha, hc, h⟩ := h
  have := h.size k g
  omega
theorem Dc.disk (h : Dc w0 w T G d c D C) (hd : DiskD w' T' d D') (hT : ∀ k, k < w.heap.size → T' k = T k) (k : Chg (Ownd T) w w') : Dc w0 w' T' G d c D' C ∧ Nx w w' T T' G G := by
  have hs := h.k0.size
  refine ⟨⟨hd, h.b.chg k fun x hx ht => ht (h.ap x hx), fun x hx => ?_, Chg.trans h.k0 k (fun _ _ h => h) fun x hx ht => ht (h.low x hx).1, h.st, fun x hx => ⟨by rw [hT x (by omega)]; exact (h.low x hx).1, (h.low x hx).2⟩⟩, ⟨hT, fun _ _ => rfl, k.mono fun x _ hx => .inl hx⟩⟩
  have hlt : x < w.heap.size := Classical.byContradiction fun g => hx (h.b.free (by omega))
  rw [hT x hlt]
  exact h.ap x hx
theorem Dc.own (h : Dc w0 w T G d c D C) (hc : CaAt w' G' c d C') (hG : ∀ k, k < w.heap.size → G' k = G k) (k : Chg (Mu G) w w') : Dc w0 w' T G' d c D C' ∧ Nx w w' T T G G' := by
  have hs := h.k0.size
  have hmu : ∀ x, Mu G x → T x = .free := fun x hx => h.ap x (by rw [hx]; simp)
  refine ⟨⟨h.a.chg k (fun hx => ?_) fun x hx hm => hx (hmu x hm), hc, fun x hx => ?_, Chg.trans h.k0 k (fun _ _ h => h) fun x hx hm => ?_, h.st, fun x hx => ⟨(h.low x hx).1, by rw [hG x (by omega)]; exact (h.low x hx).2⟩⟩, ⟨fun _ _ => rfl, hG, k.mono fun x _ hx => .inr hx⟩⟩
  · have h3 : 3 < w0.heap.size := by
      obtain ⟨m, hm⟩ := h.st.mx
      exact World.block_lt_of_cell? _ _ hm
    rw [Mu, (h.low 3 h3).2] at hx
    cases hx
  · rcases Nat.lt_or_ge x w.heap.size with hlt | hge
    · rw [hG x hlt] at hx
      exact h.ap x hx
    · exact h.a.free hge
  · rw [Mu, (h.low x hx).2] at hm
    cases hm
theorem fits_of {t : Tl} (h : Pa.okT t) : Pa.fitsT t := by
  obtain ⟨h1, h2, h3, h4, h5, h6, h7⟩ := h.bounds
  have hH := h.1
  unfold Pa.fitsT
  omega
theorem numbersOf_word (t : Tl) (hQ : ∀ w', Chg None w w' → Q (nmV (nmT t)) w') : C_cache_numbersOf #[Pa.tg t] w Q := by
  refine C_cache_numbersOf_eq _ _ _ _ _ _ _ ?_
  refine alC_box fun p w1 hp k1 _ => ?_
  refine alC_box fun p3 w2 hp3 k2 hlo => ?_
  have hp2 := hp.chg0 k2
  refine opnI_c (hp2.rd 0 rfl) (opnI_c (hp2.rd 1 rfl) (opnI_c (hp2.rd 2 rfl) ⟨rfl, ?_⟩))
  refine box3 hp3 rfl rfl fun w3 hp3 k3 => ld3 hp3 (hQ w3 (k1.none_trans (Chg.fresh k2 k3 fun x hx => by rw [hx]; exact hlo)))
theorem tile_word (n : Nm) (v : Int) (hQ : ∀ w', Chg None w w' → Q (Pa.tg (tlE (n, v))) w') : C_cache_numbers_tile #[nmV n, .int .i64 v] w Q := by
  refine C_cache_numbers_tile_eq _ _ _ _ _ _ ?_
  refine alC_box fun p w1 hp k1 _ => ?_
  refine alC_box fun p3 w2 hp3 k2 hlo => ?_
  refine ld3 (hp.chg0 k2) (st5 hp3 fun w3 hb k3 => ld5 hb (hQ w3 ?_))
  exact k1.none_trans (Chg.fresh k2 k3 fun x hx => by rw [hx]; exact hlo)
def mayT (t : Tl) : Prop := Pa.okT t ∧ t.D = false
theorem may_word {t : Tl} (hf : Pa.fitsT t) (hyes : mayT t → ∀ w', Chg None w w' → Q (.bool true) w') (hno : ¬ mayT t → ∀ w', Chg None w w' → Q (.bool false) w') : C_cache_may #[Pa.tg t] w Q := by
  refine C_cache_may_eq _ _ _ _ _ _ _ ?_
  refine alC_box fun p w1 hp k1 _ => ld5 hp ?_
  refine Pa.check_word hf (fun hk w2 k2 => opnI_c rfl (c_eq rfl (opnB_c ((hp.chg0 k2).rd 4 rfl) ?_))) fun hk w2 k2 => opnI_c rfl (c_neq (by decide) (hno (fun h => hk h.1) w2 (k1.none_trans k2)))
  cases hD : t.D with
  | false => exact hyes ⟨hk, hD⟩ w2 (k1.none_trans k2)
  | true => exact hno (fun h => by have := hD.symm.trans h.2; cases this) w2 (k1.none_trans k2)
def headN : Str := [104, 101, 97, 100]
theorem headFile_word (h : CaAt w G c d C) (hp : C.pre.length ≤ 40) (hQ : Q (strv (C.pre ++ headN)) w) : C_p_cache_Cache_headFile #[ptr c] w Q := by
  obtain ⟨oa, oc, mr, ha, hc, h⟩ := h
  refine C_p_cache_Cache_headFile_eq _ _ _ ?_
  rw [opnA_e]
  refine opnS_c (h.blk.rd 3 rfl) ⟨?_, ?_⟩
  · rw [Pa.ba_size]
    exact (show C.pre.length + 4 ≤ 9223372036854775807 by omega)
  · have e : (⟨C.pre.toArray⟩ : ByteArray) ++ (⟨#[104, 101, 97, 100]⟩ : ByteArray) = ⟨(C.pre ++ headN).toArray⟩ := Pa.ba_app C.pre headN
    rw [e]
    exact hQ
theorem file_word {t : Tl} (h : CaAt w G c d C) (hp : C.pre.length ≤ 40) (st : Pa.Std w) (ht : Pa.okT t) (hQ : ∀ w', Chg None w w' → Q (strv (C.pre ++ Pa.pathB t)) w') : C_p_cache_Cache_file #[ptr c, Pa.tg t] w Q := by
  obtain ⟨oa, oc, mr, ha, hc, h⟩ := h
  refine C_p_cache_Cache_file_eq _ _ _ _ _ _ _ _ ?_
  refine alC_box fun p w1 hpb k1 _ => ld5 hpb ?_
  refine Pa.path_word (fits_of ht) (st.chg k1) (fun _ w2 k2 => ⟨rfl, opnS_c rfl (opnI_c rfl ?_)⟩) fun hk => absurd ht hk
  rw [opnA_e]
  have hl := Pa.path_len ht
  refine opnS_c (((h.chg0 k1).chg0 k2).blk.rd 3 rfl) ⟨?_, ?_⟩
  · rw [Pa.ba_size, Pa.ba_size]
    omega
  · rw [Pa.ba_app]
    exact hQ w2 (k1.none_trans k2)
def goneD (s : Str) (D : DiskA) : DiskA × Int := ((removeD s D).1, if (removeD s D).2 = 121 then 0 else (removeD s D).2)
theorem remove_c (h : Dc w0 w T G d c D C) (s : Str) (hn : s.length < 4611686018427387904) (hac : D.acts < 1099511627775)
    (hQ : ∀ T' w', Dc w0 w' T' G d c (goneD s D).1 C → Nx w w' T T' G G → Q (.int .i64 (goneD s D).2) w') : C_p_cache_Cache_remove #[ptr c, strv s] w Q := by
  have hb := h.b
  obtain ⟨oa, oc, mr, ha, hc, hb⟩ := hb
  refine C_p_cache_Cache_remove_eq _ _ _ _ ?_
  rw [opnA_e]
  refine opnP_c (hb.blk.rd 2 rfl) ?_
  refine remove_d h.a s hn hac fun T' w' hd hT k => opnI_c rfl ?_
  obtain ⟨h1, h2⟩ := h.disk hd hT k
  unfold goneD at hQ
  by_cases he : (removeD s D).2 = 121
  · refine c_nne he ?_
    have := hQ T' w' h1 h2
    rw [if_pos he] at this
    exact this
  · refine c_ne he ?_
    have := hQ T' w' h1 h2
    rw [if_neg he] at this
    exact this
instance (t : Tl) : Decidable (Pa.okT t) := by unfold Pa.okT; infer_instance
instance (s : Str) : Decidable (Pa.goodP s) := by unfold Pa.goodP; infer_instance
def goodA (D : DiskA) (C : CaM) (n : Str) : Option Tl :=
  if Pa.goodP (n.drop C.pre.length) ∧ (Pa.guessV (Pa.cutAt 47 (n.drop C.pre.length))).D = false ∧ readE D.toDiskM n = 0 ∧ ((readB D.toDiskM n).length : Int) = 32 * (Pa.guessV (Pa.cutAt 47 (n.drop C.pre.length))).W then some (Pa.guessV (Pa.cutAt 47 (n.drop C.pre.length))) else none
theorem good_c (h : Dc w0 w T G d c D C) (n : Str) (hn : n.length < 4611686018427387904) (hl : C.pre.length ≤ n.length)
    (hQ : ∀ t w', Chg None w w' → (∀ u, goodA D C n = some u → t = u) → Q (.tuple #[Pa.tg t, .bool (goodA D C n).isSome]) w') : C_p_cache_Cache_good #[ptr c, strv n] w Q := by
  have hb := h.b
  obtain ⟨oa, oc, mr, ha, hc, hb⟩ := hb
  refine C_p_cache_Cache_good_eq _ _ _ _ ?_
  refine alC_box fun p w2 hp k2 hlo => ?_
  rw [opnA_e]
  have h2 := h.none k2
  have hb2 := hb.chg0 k2
  refine opnS_c (hb2.blk.rd 3 rfl) ⟨by omega, by rw [Pa.ba_size, Pa.ba_size]; omega, ?_⟩
  rw [Pa.ba_size, Pa.ba_size, Int.toNat_natCast, Pa.ba_ext, List.take_of_length_le (by rw [List.length_drop]; omega)]
  have e : (⟨(n.drop C.pre.length).toArray⟩ : ByteArray).data.toList = n.drop C.pre.length := rfl
  have j3 : ∀ w5, Chg None w2 w5 → goodA D C n = none → N_p_cache_Cache_good.j3 Q ⟨p, 0, none⟩ w5 := fun w5 k5 hg => by
    refine N_p_cache_Cache_good.j3_eq (h := ⟨rfl, ?_⟩)
    refine box5 (hp.chg0 k5) rfl rfl fun w' hb' k' => ld5 hb' ?_
    have := hQ Pa.tz w' (Chg.fresh (k2.none_trans k5) k' fun x hx => by rw [hx]; exact hlo) fun u hu => by rw [hg] at hu; cases hu
    rw [hg] at this
    exact this
  refine Pa.parsepath_word h2.std (fun hg w6 k6 => ?_) fun hg w6 k6 => ?_
  · rw [e] at hg
    rw [e]
    generalize ht : Pa.guessV (Pa.cutAt 47 (n.drop C.pre.length)) = t
    refine ⟨rfl, opnG5 (opnI_c rfl ?_)⟩
    refine mk5 fun p15 w16 hp15 k16 hlo15 => c_nne rfl ?_
    have k26 := k6.none_trans k16
    have hgA : goodA D C n = if Pa.goodP (n.drop C.pre.length) ∧ t.D = false ∧ readE D.toDiskM n = 0 ∧ ((readB D.toDiskM n).length : Int) = 32 * t.W then some t else none := by
      unfold goodA
      rw [ht]
    refine opnB_c (hp15.rd 4 rfl) ?_
    by_cases hD' : t.D = true
    · refine c_t hD' (j3 w16 k26 ?_)
      rw [hgA, if_neg (fun h => by have := hD'.symm.trans h.2.1; cases this)]
    · have hD : t.D = false := by simpa using hD'
      refine c_f hD ?_
      rw [opnA_e]
      refine opnP_c ((hb2.chg0 k26).blk.rd 2 rfl) ?_
      refine read_d (h2.none k26).a n hn fun a cc w26 ho hlo26 k27 => ?_
      refine ⟨rfl, opnL_c rfl (opnI_c rfl ?_)⟩
      rw [drw_s]
      have k30 : Chg None w2 w26.drew := k26.none_trans (k27.none_trans (Chg.drew0 w26))
      have k30' : Chg None w16 w26.drew := k27.none_trans (Chg.drew0 w26)
      have hp30 := hp.chg0 k30
      have hp15' := hp15.chg0 k30'
      have hne : p15 ≠ p := fun e => by have := hp.lt; have := k6.size; omega
      generalize w26.drew = w30 at k30 hp30 hp15'
      have hokt : Pa.okT t := by rw [← ht]; exact hg.2.1
      have hW := hokt.bounds.2.2.2.2.2
      have hwr : IntKind.wrap .i64 (32 * t.W) = 32 * t.W := wrap_id (by omega) (by omega)
      by_cases he : readE D.toDiskM n = 0
      · refine c_eq he (ld5 hp15' (opnI_c (hp15'.rd 3 rfl) ⟨rfl, ?_⟩))
        refine box5 hp30 rfl rfl fun w41 hb41 k41 => ?_
        refine ⟨opnI_c ((hp15'.chg k41 hne).rd 3 rfl) rfl, ld5 hb41 ?_⟩
        have k41' : Chg None w w41 := Chg.fresh (k2.none_trans k30) k41 fun x hx => by rw [hx]; exact hlo
        rw [hwr]
        by_cases hl2 : ((readB D.toDiskM n).length : Int) = 32 * t.W
        · have hs : goodA D C n = some t := by rw [hgA, if_pos ⟨hg, hD, he, hl2⟩]
          have := hQ t w41 k41' fun u hu => by rw [hs] at hu; exact Option.some.inj hu
          rw [hs] at this
          rw [hl2, beq_self_eq_true]
          exact this
        · have hs : goodA D C n = none := by rw [hgA, if_neg fun h => hl2 h.2.2.2]
          have := hQ t w41 k41' fun u hu => by rw [hs] at hu; cases hu
          rw [hs] at this
          rw [beq_eq_false_iff_ne.2 hl2]
          exact this
      · refine c_neq he (ld5 hp15' ⟨rfl, ?_⟩)
        refine box5 hp30 rfl rfl fun w41 hb41 k41 => ld5 hb41 ?_
        have hs : goodA D C n = none := by rw [hgA, if_neg fun h => he h.2.2.1]
        have := hQ t w41 (Chg.fresh (k2.none_trans k30) k41 fun x hx => by rw [hx]; exact hlo) fun u hu => by rw [hs] at hu; cases hu
        rw [hs] at this
        exact this
  · rw [e] at hg
    refine ⟨rfl, opnG5 (opnI_c rfl ?_)⟩
    refine mk5 fun p15 w16 hp15 k16 hlo15 => c_ne (by decide) (j3 w16 (k6.none_trans k16) ?_)
    unfold goodA
    rw [if_neg fun h => hg h.1]
theorem UU24 : PP.underlying 24 = some (.slice 5) := Tryz.underlying24
theorem T24 : SlT PP 24 5 1 1 := ⟨Tryz.underlying24, by kernel_rfl⟩
theorem bclone_word {S : Nat → Prop} {a : Option Addr} {x : List UInt8} {ac : Nat} (ha : Lies w S a (bvs x)) (hl : x.length ≤ 1099511627776) (hQ : ∀ a' c' w', Own w' 5 1 a' x.length c' (bvs x) → (∀ k, At a' k → w.heap.size ≤ k) → Chg None w w' → Q (.slice a' x.length c') w') : C_bytes_Clone #[.slice a x.length ac] w Q := by
  refine C_bytes_Clone_eq _ _ _ _ _ ?_
  cases a with
  | none =>
    have hx : x = [] := by
      cases x with
      | nil => rfl
      | cons b l => obtain ⟨p, hp, _⟩ := ha 0 (bv b) rfl; cases hp
    subst hx
    exact hQ none 0 w Own.nil (fun k hk => by obtain ⟨p, hp, _⟩ := hk; cases hp) (Chg.refl _ _)
  | some p =>
    refine c_f rfl (alC_box fun b w2 hb k2 hlo => ?_)
    have ho : Own w2 5 1 (some ⟨b, 0, none⟩) 0 0 [] := ⟨rfl, .inr ⟨b, [], rfl, hb, Nat.zero_le _, Nat.le_refl _⟩⟩
    refine append_own T24 ho (src_bytes UU24 (ha.chg0 k2)) (by simp only [maxLen]; omega) (by omega) fun a' c' w' ho' k' hf => opnL_c rfl ?_
    rw [Nat.zero_add] at ho' ⊢
    refine hQ a' c' w' ho' (fun k hk => ?_) (Chg.fresh k2 k' fun x hx => ?_)
    · obtain ⟨q, hq, hk⟩ := hk
      rcases hf with e | ⟨b', e, hb'⟩
      · rw [e] at hq; cases hq; rw [← hk]; exact hlo
      · rw [e] at hq; cases hq; rw [← hk]; have := k2.size; show _ ≤ b'; omega
    · obtain ⟨q, hq, hx⟩ := hx
      cases hq
      rw [← hx]; exact hlo
def cnC (c : UInt8) : Bool := (decide (97 ≤ c.toNat) && decide (c.toNat ≤ 122)) || (decide (48 ≤ c.toNat) && decide (c.toNat ≤ 57))
def cnameB (s : Str) : Bool := s.all cnC && (!(s == []) && decide (s.length ≤ 30))
theorem named_loop {s : Str} (hl : s.length < 4611686018427387904) : ∀ n i : Nat, s.length - i = n → i ≤ s.length →
    Q (.bool ((s.drop i).all cnC && (!(s == []) && decide (s.length ≤ 30)))) w → N_cache_named.j2 Q ⟨s.toArray⟩ (s.length : Int) (i : Int) w := by
  intro n
  induction n with
  | zero =>
    intro i hi hle hQ
    apply N_cache_named.j2_eq
    refine c_nlt (by omega) ?_
    rw [List.drop_eq_nil_of_le (by omega), List.all_nil, Bool.true_and] at hQ
    have e : ((⟨s.toArray⟩ : ByteArray).toList == (⟨#[]⟩ : ByteArray).toList) = (s == []) := by
      rw [Lib.toList_data, Lib.toList_data]
    rw [e]
    cases hs : s == [] with
    | true =>
      rw [hs] at hQ
      exact hQ
    | false =>
      rw [hs] at hQ
      rw [Bool.not_false, cond_true, Pa.ba_size]
      have e2 : decide ((s.length : Int) ≤ 30) = decide (s.length ≤ 30) := by
        rw [Bool.eq_iff_iff]
        simp only [decide_eq_true_eq]
        omega
      rw [e2]
      exact hQ
  | succ n ih =>
    intro i hi hle hQ
    have hlt : i < s.length := by omega
    apply N_cache_named.j2_eq
    refine c_lt (by omega) ⟨by omega, by rw [Pa.ba_size]; omega, ?_⟩
    rw [Int.toNat_natCast]
    have hb : bt ⟨s.toArray⟩ i = ((s[i]).toNat : Int) := by
      have h1 : bt ⟨s.toArray⟩ i = (nb s i : Int) := bt_sb s i
      rw [h1]
      unfold nb
      rw [List.getD_eq_getElem?_getD, List.getElem?_eq_getElem hlt]
      rfl
    rw [hb]
    rw [List.drop_eq_getElem_cons hlt, List.all_cons] at hQ
    have hnext : IntKind.wrap .i64 ((i : Int) + 1) = ((i + 1 : Nat) : Int) := by rw [IntKind.wrap_i64]; omega
    have j7 : cnC s[i] = true → N_cache_named.j7 Q ⟨s.toArray⟩ (s.length : Int) (i : Int) w := fun hc => by
      apply N_cache_named.j7_eq
      rw [hnext]
      refine ih (i + 1) (by omega) (by omega) ?_
      rw [hc, Bool.true_and] at hQ
      exact hQ
    have j6 : cnC s[i] = false → N_cache_named.j6 Q w := fun hc => by
      apply N_cache_named.j6_eq
      rw [hc, Bool.false_and, Bool.false_and] at hQ
      exact hQ
    have dig : ¬ (97 ≤ (s[i]).toNat ∧ (s[i]).toNat ≤ 122) → cond (decide (((s[i]).toNat : Int) < 48)) (N_cache_named.j6 Q w) (cond (decide (((s[i]).toNat : Int) > 57)) (N_cache_named.j6 Q w) (N_cache_named.j7 Q ⟨s.toArray⟩ (s.length : Int) (i : Int) w)) := fun hno => by
      by_cases h1 : (s[i]).toNat < 48
      · refine c_lt (by omega) (j6 ?_)
        unfold cnC
        rw [Bool.eq_false_iff]
        simp only [ne_eq, Bool.or_eq_true, Bool.and_eq_true, decide_eq_true_eq]
        omega
      · refine c_nlt (by omega) ?_
        by_cases h2 : 57 < (s[i]).toNat
        · refine c_gt (by omega) (j6 ?_)
          unfold cnC
          rw [Bool.eq_false_iff]
          simp only [ne_eq, Bool.or_eq_true, Bool.and_eq_true, decide_eq_true_eq]
          omega
        · refine c_ngt (by omega) (j7 ?_)
          unfold cnC
          simp only [Bool.or_eq_true, Bool.and_eq_true, decide_eq_true_eq]
          omega
    by_cases h1 : (s[i]).toNat < 97
    · exact c_lt (by omega) (dig (by omega))
    · refine c_nlt (by omega) ?_
      by_cases h2 : 122 < (s[i]).toNat
      · exact c_gt (by omega) (dig (by omega))
      · refine c_ngt (by omega) (j7 ?_)
        unfold cnC
        simp only [Bool.or_eq_true, Bool.and_eq_true, decide_eq_true_eq]
        omega
theorem cnamed_word {s : Str} (hl : s.length < 4611686018427387904) (hQ : Q (.bool (cnameB s)) w) : C_cache_named #[strv s] w Q := by
  refine C_cache_named_eq _ _ _ ?_
  rw [Pa.ba_size]
  exact named_loop hl s.length 0 (by omega) (Nat.zero_le _) hQ
end
end Go.Proofs.YtcigjlbpdkkflaaGreatDoor
set_option maxRecDepth 10000
namespace Go.Proofs.YtcigjlbpdkkflaaGreatDoor
open Go.Sh Go.ChangeShapes
open Go.RowKit
instance (t : Tl) : Decidable (mayT t) := by unfold mayT; infer_instance
def fileC (C : CaM) (t : Tl) : Str := C.pre ++ Pa.pathB t
def CaM.forget (C : CaM) (n : Nm) : CaM := { C with es := forgetE n C.es }
def CaM.lay (C : CaM) (n : Nm) (v : Int) : CaM := { C with es := layE n v C.es }
def tileC (t : Tl) (D : DiskA) (C : CaM) : CaM × List UInt8 × Int :=
  if ¬ mayT t then (C, [], 101)
  else match Go.Sh.look (nmT t) C.es with
    | none => (C, [], 161)
    | some width =>
      if width < t.W then (C, [], 161)
      else if readE D.toDiskM (fileC C (tlE (nmT t, width))) = 125 then (C, [], 125)
      else if readE D.toDiskM (fileC C (tlE (nmT t, width))) ≠ 0 ∨ ((readB D.toDiskM (fileC C (tlE (nmT t, width)))).length : Int) ≠ 32 * width then (C.forget (nmT t), [], 161)
      else (C.lay (nmT t) width, (readB D.toDiskM (fileC C (tlE (nmT t, width)))).take (32 * t.W).toNat, 0)
def dropC (t : Tl) (D : DiskA) (C : CaM) : (DiskA × CaM) × Int :=
  if ¬ mayT t then ((D, C), 101)
  else match Go.Sh.look (nmT t) C.es with
    | none => ((D, C), 161)
    | some width =>
      if (goneD (fileC C (tlE (nmT t, width))) D).2 ≠ 0 then (((goneD (fileC C (tlE (nmT t, width))) D).1, C), (goneD (fileC C (tlE (nmT t, width))) D).2)
      else (((goneD (fileC C (tlE (nmT t, width))) D).1, C.forget (nmT t)), 0)
theorem CaOk.forget {C : CaM} (h : CaOk C) (n : Nm) : CaOk (C.forget n) :=
  ⟨h.pre, h.room, fun e he => h.es e (List.mem_filter.1 he).1, by have := forget_len n C.es; have := h.few; show ((forgetE n C.es).length : Int) ≤ C.room; omega, h.head⟩
theorem look_in {C : CaM} (h : CaOk C) {n : Nm} {v : Int} (hl : Go.Sh.look n C.es = some v) : Pa.okT (tlE (n, v)) := h.es _ (look_mem hl)
theorem forget_lt {n : Nm} {v : Int} {es : Ents} (hl : Go.Sh.look n es = some v) : (forgetE n es).length < es.length := by
  refine Nat.lt_of_le_of_ne (forget_len n es) fun e => ?_
  have h1 : forgetE n es = es := List.Sublist.eq_of_length List.filter_sublist e
  have h2 := forget_not n es
  rw [h1] at h2
  exact h2 (List.mem_map_of_mem (f := (·.1)) (look_mem hl))
theorem CaOk.lay {C : CaM} (h : CaOk C) {n : Nm} {v : Int} (hv : Pa.okT (tlE (n, v))) (hl : ((forgetE n C.es).length : Int) < C.room) : CaOk (C.lay n v) := by
  refine ⟨h.pre, h.room, fun e he => ?_, ?_, h.head⟩
  · rcases List.mem_append.1 he with g | g
    · exact h.es e (List.mem_filter.1 g).1
    · rw [List.mem_singleton.1 g]; exact hv
  · show ((layE n v C.es).length : Int) ≤ C.room
    rw [layE, List.length_append]
    show (((forgetE n C.es).length + 1 : Nat) : Int) ≤ C.room
    omega
section
variable {Q : Value → World → Prop} {w w' w0 w2 : World} {T T' T2 : Tags} {G G' G2 : Gs} {c d : Nat} {D D' : DiskA} {C C' : CaM}
theorem Dc.cut {a : Option Addr} {n m : Nat} {l : List UInt8} {cc : Nat} (h : Own w 5 1 a n cc (bvs l)) (hm : m ≤ n) : Own w 5 1 a m m (bvs (l.take m)) := by
  have hl := h.len
  rcases h.row with ⟨e1, e2, e3⟩ | ⟨b, rest, e1, h2, h3, h4⟩
  · have hm0 : m = 0 := by omega
    subst hm0
    rw [e1]
    exact Own.nil
  · simp only [bvs_len, Nat.mul_one] at hl
    refine ⟨by rw [bvs_len, List.length_take]; omega, .inr ⟨b, bvs (l.drop m) ++ rest, e1, ?_, ?_, Nat.le_refl _⟩⟩
    · rw [← List.append_assoc, ← bvs_app, List.take_append_drop]
      exact h2
    · rw [← List.append_assoc, ← bvs_app, List.take_append_drop]
      rw [List.length_append, bvs_len]
      omega
theorem slA1 {a : Option Addr} {n cc m : Nat} {l : List Value} (h : Own w 5 1 a n cc l) : slA a 0 m 1 = a := by
  unfold slA
  split
  · rfl
  · rcases h.row with ⟨h1, _⟩ | ⟨b, rest, h1, _⟩
    · rw [h1]; rfl
    · rw [h1]; rfl
structure Ans (w w' : World) (G' : Gs) (T' : Tags) (a : Option Addr) (c : Nat) (l : List UInt8) : Prop where
  own : Own w' 5 1 a l.length c (bvs l)
  new : ∀ k, At a k → w.heap.size ≤ k ∧ G' k = .no ∧ T' k = .free
theorem Ans.nil : Ans w w' G T none 0 [] := ⟨Own.nil, fun k hk => by obtain ⟨p, hp, _⟩ := hk; cases hp⟩
theorem head_c (h : Dc w0 w T G d c D C) (hok : CaOk C) (hQ : ∀ a' c' w', Ans w w' G T a' c' C.head → Chg None w w' → Q (.slice a' C.head.length c') w') : C_p_cache_Cache_Head #[ptr c] w Q := by
  have hb := h.b
  obtain ⟨oa, oc, mr, ha, hc, hb⟩ := hb
  refine C_p_cache_Cache_Head_eq _ _ _ ?_
  rw [opnA_e]
  refine opnL_c (hb.blk.rd 5 rfl) ?_
  refine bclone_word hb.hd hok.head fun a' c' w' ho hlo k => opnL_c rfl (hQ a' c' w' ⟨ho, fun x hx => ⟨hlo x hx, h.b.free (hlo x hx), h.a.free (hlo x hx)⟩⟩ k)
theorem wrap32 {v : Int} (h0 : 0 ≤ v) (h1 : v ≤ 1048576) : IntKind.wrap .i64 (32 * v) = 32 * v := wrap_id (by omega) (by omega)
theorem tile_c {t : Tl} (h : Dc w0 w T G d c D C) (hok : CaOk C) (hf : Pa.fitsT t)
    (hQ : ∀ G' a' c' w', Dc w0 w' T G' d c D (tileC t D C).1 → CaOk (tileC t D C).1 → Nx w w' T T G G' → Ans w w' G' T a' c' (tileC t D C).2.1 → Q (.tuple #[.slice a' (tileC t D C).2.1.length c', .int .i64 (tileC t D C).2.2]) w') : C_p_cache_Cache_Tile #[ptr c, Pa.tg t] w Q := by
  refine C_p_cache_Cache_Tile_eq _ _ _ _ _ _ _ _ ?_
  refine alC_box fun p w1 hp k1 hlo1 => ld5 hp ?_
  have nil : ∀ {G1 : Gs} {e : Int} {C1 : CaM} {w9 : World}, tileC t D C = (C1, [], e) → Dc w0 w9 T G1 d c D C1 → CaOk C1 → Nx w w9 T T G G1 → Q (.tuple #[.slice none 0 0, .int .i64 e]) w9 := fun {G1 e C1 w9} he h9 o9 n9 => by
    have := hQ G1 none 0 w9
    rw [he] at this
    exact this h9 o9 n9 Ans.nil
  refine may_word hf (fun hm w9 k9 => ?_) fun hm w9 k9 => ?_
  case refine_2 =>
    have k09 := k1.none_trans k9
    refine opnB_c rfl (nil (e := 101) (C1 := C) ?_ (h.none k09) hok (Nx.none k09))
    unfold tileC
    rw [if_pos hm]
  have hp9 := hp.chg0 k9
  refine opnB_c rfl (ld5 hp9 ?_)
  refine numbersOf_word t fun w17 k17 => opnG3 ?_
  refine mk3 fun p22 w26 hp22 k26 hlo22 => ?_
  rw [drw_s, opnA_e]
  have k27 : Chg None w9 w26.drew := k17.none_trans (k26.none_trans (Chg.drew0 w26))
  have hp22' := hp22.chg0 (Chg.drew0 (D := None) w26)
  have hp27 := hp9.chg0 k27
  have k07 := k1.none_trans (k9.none_trans k27)
  generalize w26.drew = w27 at hp22' hp27 k07
  refine ld3 hp22' ?_
  rw [Addr.add_lit]
  refine value_word (h.b.chg0 k07) (nmT t) fun w33 k33 => ⟨rfl, opnI_c rfl (opnB_c rfl ?_)⟩
  have k0 := k07.none_trans k33
  have h33 := h.none k0
  have hp33 := hp27.chg0 k33
  have hq33 := hp22'.chg0 k33
  clear hp hp9 hp22 hp22' hp27 k17 k26 k27
  have htok : Pa.okT t := hm.1
  have hbW := htok.bounds.2.2.2.2.2
  cases hl : Go.Sh.look (nmT t) C.es with
  | none =>
    have e : tileC t D C = (C, [], 161) := by unfold tileC; rw [if_neg (fun g => g hm), hl]
    exact N_p_cache_Cache_Tile.j6_eq _ _ (nil e h33 hok (Nx.none k0))
  | some width =>
    rw [Option.isSome_some, Bool.not_true, cond_false, Option.getD_some]
    refine opnI_c (hp33.rd 3 rfl) ?_
    by_cases h1 : width < t.W
    · have e : tileC t D C = (C, [], 161) := by unfold tileC; rw [if_neg (fun g => g hm), hl]; exact if_pos h1
      exact c_lt h1 (N_p_cache_Cache_Tile.j6_eq _ _ (nil e h33 hok (Nx.none k0)))
    refine c_nlt (by omega) ?_
    have hwok := look_in hok hl
    have hbw := hwok.bounds.2.2.2.2.2
    have hbw2 : 1 ≤ width ∧ width ≤ 256 := hbw
    rw [drw_s, opnA_e]
    have k38 : Chg None w33 w33.drew := Chg.drew0 w33
    have h38 := h33.none k38
    have hp38 := hp33.chg0 k38
    have hq38 := hq33.chg0 k38
    have k08 := k0.none_trans k38
    generalize w33.drew = w38 at h38 hp38 hq38 k08
    clear h33 hp33 hq33 k38
    have hb38 := h38.b
    obtain ⟨oa, oc, mr, ha, hc, hb38⟩ := hb38
    refine opnP_c (hb38.blk.rd 2 rfl) (ld3 hq38 ?_)
    refine tile_word (nmT t) width fun w45 k45 => opnG5 ?_
    refine ⟨opnP_c ((hb38.chg0 k45).blk.rd 2 rfl) rfl, ?_⟩
    have h45 := h38.none k45
    refine file_word (t := tlE (nmT t, width)) h45.b hok.pre h45.std hwok fun w54 k54 => opnS_c rfl ?_
    refine ⟨opnP_c (((hb38.chg0 k45).chg0 k54).blk.rd 2 rfl) rfl, ?_⟩
    have k4 := k45.none_trans k54
    have h54 := h38.none k4
    have hlen : (C.pre ++ Pa.pathB (tlE (nmT t, width))).length < 4611686018427387904 := by
      have := Pa.path_len hwok
      have := hok.pre
      rw [List.length_append]
      omega
    refine read_d h54.a _ hlen fun a cc w58 ho hlo58 k58 => ⟨rfl, opnL_c rfl (opnI_c rfl ?_)⟩
    have h58 := h54.none k58
    have k5 := k4.none_trans k58
    have hp58 := hp38.chg0 k5
    have hq58 := hq38.chg0 k5
    have k05 := k08.none_trans k5
    generalize hfn : C.pre ++ Pa.pathB (tlE (nmT t, width)) = fn at *
    have htile : tileC t D C = if readE D.toDiskM fn = 125 then (C, [], 125) else if readE D.toDiskM fn ≠ 0 ∨ ((readB D.toDiskM fn).length : Int) ≠ 32 * width then (C.forget (nmT t), [], 161) else (C.lay (nmT t) width, (readB D.toDiskM fn).take (32 * t.W).toNat, 0) := by
      unfold tileC
      rw [if_neg (fun g => g hm), hl]
      simp only [if_neg h1]
      rw [show fileC C (tlE (nmT t, width)) = fn from hfn]
    by_cases e1 : readE D.toDiskM fn = 125
    · rw [if_pos e1] at htile
      refine c_eq e1 ?_
      rw [e1]
      exact nil htile h58 hok (Nx.none k05)
    rw [if_neg e1] at htile
    refine c_neq e1 ?_
    have bad : tileC t D C = (C.forget (nmT t), [], 161) → N_p_cache_Cache_Tile.j11 Q (some ⟨c, 0, none⟩) ⟨p22, 0, none⟩ w58 := fun e => by
      apply N_p_cache_Cache_Tile.j11_eq
      rw [drw_s, opnA_e]
      have kd : Chg None w58 w58.drew := Chg.drew0 w58
      refine ld3 (hq58.chg0 kd) ?_
      rw [Addr.add_lit]
      have h59 := h58.none kd
      refine forget_word h59.b (nmT t) fun w7 hc7 k7 => ⟨rfl, N_p_cache_Cache_Tile.j12_eq _ _ ?_⟩
      obtain ⟨g1, g2⟩ := h59.own hc7 (fun _ _ => rfl) k7
      exact nil e g1 (hok.forget _) ((Nx.none (k05.none_trans kd)).trans g2)
    by_cases e2 : readE D.toDiskM fn = 0
    case neg => exact c_ne e2 (bad (by rw [htile, if_pos (.inl e2)]))
    refine c_nne e2 ?_
    rw [wrap32 (by omega) (by omega)]
    by_cases e3 : ((readB D.toDiskM fn).length : Int) = 32 * width
    case neg => exact c_ne e3 (bad (by rw [htile, if_pos (.inr e3)]))
    refine c_nne e3 ?_
    rw [if_neg (by rintro (g | g); exact g e2; exact g e3)] at htile
    rw [drw_s, opnA_e]
    have kd : Chg None w58 w58.drew := Chg.drew0 w58
    have ho' := ho.chg0 kd
    have h62 := h58.none kd
    have hp62 := hp58.chg0 kd
    have hq62 := hq58.chg0 kd
    have k06 := k05.none_trans kd
    have hroom := hok.room
    have hfew := hok.few
    have hfl := forget_lt hl
    refine ld3 hq62 ?_
    rw [Addr.add_lit]
    refine lay_word h62.b (nmT t) width (by omega) fun G' w68 hc68 hG' k68 => ⟨rfl, ?_⟩
    obtain ⟨g1, g2⟩ := h62.own hc68 hG' k68
    have hpG : ¬ Mu G p := fun g => by
      have := h.b.free (k := p) hlo1
      rw [Mu, this] at g
      cases g
    have hp68 := hp62.chg k68 hpG
    refine opnI_c (hp68.rd 3 rfl) (opnI_c (hp68.rd 3 rfl) ?_)
    rw [wrap32 (by omega) (by omega)]
    have hcap : (readB D.toDiskM fn).length ≤ cc := ho.le
    refine ⟨by omega, by omega, by omega, by omega, ?_⟩
    rw [slA1 ho']
    have hoc := ho'.chg k68 fun x hx hm => by
      have := hlo58 x hx
      rw [Mu, h.b.free (k := x) (by have := k08.size; have := k4.size; omega)] at hm
      cases hm
    have hlen2 : ((readB D.toDiskM fn).take (32 * t.W).toNat).length = (32 * t.W).toNat := by rw [List.length_take]; omega
    have hcut := Dc.cut hoc (m := (32 * t.W).toNat) (by omega)
    have := hQ G' a (32 * t.W).toNat w68
    rw [htile] at this
    simp only [hlen2] at this
    refine this g1 (hok.lay hwok (by omega)) ((Nx.none k06).trans g2) ⟨by rw [hlen2]; exact hcut, fun x hx => ?_⟩
    have hx1 := hlo58 x hx
    have hx2 := ho'.lt hx
    have hge : w.heap.size ≤ x := by have := k08.size; have := k4.size; omega
    exact ⟨hge, by rw [hG' x hx2]; exact h.b.free hge, h.a.free hge⟩
end
end Go.Proofs.YtcigjlbpdkkflaaGreatDoor
set_option maxRecDepth 10000
namespace Go.Proofs.YtcigjlbpdkkflaaGreatDoor
open Go.Sh Go.ChangeShapes
open Go.RowKit
def putE (t : Tl) (data : List UInt8) (D : DiskA) (C : CaM) : (DiskA × CaM) × Int :=
  if (createD (fileC C t) D).2 ≠ 0 then (((createD (fileC C t) D).1, C), (createD (fileC C t) D).2)
  else if (writeD (fileC C t) 0 data (createD (fileC C t) D).1).2 ≠ 0 then (((writeD (fileC C t) 0 data (createD (fileC C t) D).1).1, C.forget (nmT t)), (writeD (fileC C t) 0 data (createD (fileC C t) D).1).2)
  else (((writeD (fileC C t) 0 data (createD (fileC C t) D).1).1, (C.forget (nmT t)).lay (nmT t) t.W), 0)
def putN (t : Tl) (data : List UInt8) (D : DiskA) (C : CaM) : (DiskA × CaM) × Int :=
  if (C.es.length : Int) ≥ C.room then
    if (dropC (tlE (C.es.headD ((0, 0, 0), 0))) D C).2 ≠ 0 then dropC (tlE (C.es.headD ((0, 0, 0), 0))) D C
    else putE t data (dropC (tlE (C.es.headD ((0, 0, 0), 0))) D C).1.1 (dropC (tlE (C.es.headD ((0, 0, 0), 0))) D C).1.2
  else putE t data D C
def putT (t : Tl) (data : List UInt8) (D : DiskA) (C : CaM) : (DiskA × CaM) × Int :=
  if ¬ mayT t then ((D, C), 101)
  else if (data.length : Int) ≠ 32 * t.W then ((D, C), 102)
  else if C.room = 0 then ((D, C), 0)
  else match Go.Sh.look (nmT t) C.es with
    | none => putN t data D C
    | some width =>
      if width > t.W then ((D, C.lay (nmT t) width), 0)
      else if width < t.W then
        if (dropC t D C).2 ≠ 0 then dropC t D C else putN t data (dropC t D C).1.1 (dropC t D C).1.2
      else putE t data D C
theorem goneD_acts (s : Str) (D : DiskA) : (goneD s D).1.acts ≤ D.acts + 1 := by
  show (removeD s D).1.acts ≤ _
  exact (actA_acts (f := onA (.remove s)) fun _ => ⟨rfl, Nat.le_succ _⟩).1
theorem dropC_acts (t : Tl) (D : DiskA) (C : CaM) : (dropC t D C).1.1.acts ≤ D.acts + 1 := by
  unfold dropC
  split
  · exact Nat.le_succ _
  · split
    · exact Nat.le_succ _
    · split
      · exact goneD_acts _ _
      · exact goneD_acts _ _
theorem dropC_ok {t : Tl} {D : DiskA} {C : CaM} (h : CaOk C) : CaOk (dropC t D C).1.2 := by
  unfold dropC
  split
  · exact h
  · split
    · exact h
    · split
      · exact h
      · exact h.forget _
theorem dropC_room {t : Tl} {D : DiskA} {C : CaM} : (dropC t D C).1.2.room = C.room ∧ (dropC t D C).1.2.pre = C.pre := by
  unfold dropC
  split
  · exact ⟨rfl, rfl⟩
  · split
    · exact ⟨rfl, rfl⟩
    · split <;> exact ⟨rfl, rfl⟩
section
variable {Q : Value → World → Prop} {w w' w0 w2 : World} {T T' T2 : Tags} {G G' G2 : Gs} {c d : Nat} {D D' : DiskA} {C C' : CaM}
theorem not_mu (h : Dc w0 w T G d c D C) {p : Nat} (hp : w.heap.size ≤ p) : ¬ DcD T G p := fun g => by
  rcases g with g | g
  · exact g (h.a.free hp)
  · rw [h.b.free hp] at g; cases g
theorem drop_c {t : Tl} (h : Dc w0 w T G d c D C) (hok : CaOk C) (hf : Pa.fitsT t) (hac : D.acts < 1099511627775)
    (hQ : ∀ T' w', Dc w0 w' T' G d c (dropC t D C).1.1 (dropC t D C).1.2 → Nx w w' T T' G G → Q (.int .i64 (dropC t D C).2) w') : C_p_cache_Cache_Drop #[ptr c, Pa.tg t] w Q := by
  refine C_p_cache_Cache_Drop_eq _ _ _ _ _ _ _ _ ?_
  refine alC_box fun p w1 hp k1 hlo1 => ld5 hp ?_
  refine may_word hf (fun hm w9 k9 => ?_) fun hm w9 k9 => ?_
  case refine_2 =>
    have k09 := k1.none_trans k9
    have e : dropC t D C = ((D, C), 101) := by unfold dropC; rw [if_pos hm]
    rw [e] at hQ
    exact opnB_c rfl (hQ T w9 (h.none k09) (Nx.none k09))
  have hp9 := hp.chg0 k9
  refine opnB_c rfl (ld5 hp9 ?_)
  refine numbersOf_word t fun w17 k17 => opnG3 ?_
  refine mk3 fun p22 w26 hp22 k26 hlo22 => ?_
  rw [drw_s, opnA_e]
  have k27 : Chg None w9 w26.drew := k17.none_trans (k26.none_trans (Chg.drew0 w26))
  have hp22' := hp22.chg0 (Chg.drew0 (D := None) w26)
  have k07 := k1.none_trans (k9.none_trans k27)
  have hlo : w.heap.size ≤ p22 := by have := (k1.none_trans (k9.none_trans k17)).size; omega
  generalize w26.drew = w27 at hp22' k07
  refine ld3 hp22' ?_
  rw [Addr.add_lit]
  refine value_word (h.b.chg0 k07) (nmT t) fun w33 k33 => ⟨rfl, opnI_c rfl (opnB_c rfl ?_)⟩
  have k0 := k07.none_trans k33
  have h33 := h.none k0
  have hq33 := hp22'.chg0 k33
  cases hl : Go.Sh.look (nmT t) C.es with
  | none =>
    have e : dropC t D C = ((D, C), 161) := by unfold dropC; rw [if_neg (fun g => g hm), hl]
    rw [e] at hQ
    exact hQ T w33 h33 (Nx.none k0)
  | some width =>
    rw [Option.isSome_some, Bool.not_true, cond_false, Option.getD_some]
    have hwok := look_in hok hl
    refine ld3 hq33 ?_
    refine tile_word (nmT t) width fun w41 k41 => opnG5 ?_
    have h41 := h33.none k41
    refine file_word (t := tlE (nmT t, width)) h41.b hok.pre h41.std hwok fun w49 k49 => opnS_c rfl ?_
    have h49 := h41.none k49
    have hq49 := (hq33.chg0 k41).chg0 k49
    have hlen : (C.pre ++ Pa.pathB (tlE (nmT t, width))).length < 4611686018427387904 := by
      have := Pa.path_len hwok
      have := hok.pre
      rw [List.length_append]
      omega
    have k09 := k0.none_trans (k41.none_trans k49)
    have e : dropC t D C = if (goneD (fileC C (tlE (nmT t, width))) D).2 ≠ 0 then (((goneD (fileC C (tlE (nmT t, width))) D).1, C), (goneD (fileC C (tlE (nmT t, width))) D).2) else (((goneD (fileC C (tlE (nmT t, width))) D).1, C.forget (nmT t)), 0) := by
      unfold dropC
      rw [if_neg (fun g => g hm), hl]
    refine remove_c h49 _ hlen hac fun T' w52 h52 n52 => opnI_c rfl ?_
    have hn := (Nx.none (T := T) (G := G) k09).trans n52
    by_cases h0 : (goneD (fileC C (tlE (nmT t, width))) D).2 = 0
    · rw [if_neg (fun g => g h0)] at e
      rw [e] at hQ
      refine c_nne h0 ?_
      rw [drw_s, opnA_e]
      have kd : Chg None w52 w52.drew := Chg.drew0 w52
      have h54 := h52.none kd
      have hq54 := (hq49.chg n52.k (not_mu h hlo)).chg0 kd
      refine ld3 hq54 ?_
      rw [Addr.add_lit]
      refine forget_word h54.b (nmT t) fun w7 hc7 k7 => ⟨rfl, ?_⟩
      obtain ⟨g1, g2⟩ := h54.own hc7 (fun _ _ => rfl) k7
      exact hQ T' w7 g1 ((hn.trans (Nx.none kd)).trans g2)
    · rw [if_pos h0] at e
      rw [e] at hQ
      exact c_ne h0 (hQ T' w52 h52 hn)
structure PutW (w : World) (T : Tags) (G : Gs) (p p7 : Nat) (t : Tl) (S : Nat → Prop) (a : Option Addr) (data : List UInt8) : Prop where
  b : Blk w p 41 (box5v t.H t.L t.N t.W t.D)
  b7 : Blk w p7 106 (nmC (nmT t))
  pf : T p = .free ∧ G p = .no ∧ T p7 = .free ∧ G p7 = .no
  l : Lies w S a (bvs data)
  s : ∀ k, S k → T k = .free ∧ G k = .no ∧ k < w.heap.size
variable {T0 : Tags} {G0 : Gs} {p p7 : Nat} {t : Tl} {S : Nat → Prop} {a : Option Addr} {data : List UInt8} {w1 : World} {ac : Nat}
theorem PutW.step (h : PutW w T G p p7 t S a data) (n : Nx w w' T T' G G') : PutW w' T' G' p p7 t S a data := by
  have no : ∀ {k}, T k = .free → G k = .no → ¬ DcD T G k := fun h1 h2 g => by
    rcases g with g | g
    · exact g h1
    · rw [h2] at g; cases g
  have hlt := h.b.lt
  have hlt7 := h.b7.lt
  have hsz := n.k.size
  refine ⟨h.b.chg n.k (no h.pf.1 h.pf.2.1), h.b7.chg n.k (no h.pf.2.2.1 h.pf.2.2.2), ?_, h.l.chg n.k fun k _ hk => no (h.s k hk).1 (h.s k hk).2.1, fun k hk => ?_⟩
  · rw [n.t p hlt, n.t p7 hlt7, n.g p hlt, n.g p7 hlt7]; exact h.pf
  · obtain ⟨s1, s2, s3⟩ := h.s k hk
    exact ⟨by rw [n.t k s3]; exact s1, by rw [n.g k s3]; exact s2, by omega⟩
theorem PutW.none (h : PutW w T G p p7 t S a data) (k : Chg None w w') : PutW w' T G p p7 t S a data := h.step (Nx.none k)
def PutQ (Q : Value → World → Prop) (w0 w : World) (T : Tags) (G : Gs) (d c : Nat) (r : (DiskA × CaM) × Int) : Prop :=
  ∀ T' G' w', Dc w0 w' T' G' d c r.1.1 r.1.2 → CaOk r.1.2 → Nx w w' T T' G G' → Q (.int .i64 r.2) w'
theorem PutQ.step {r : (DiskA × CaM) × Int} (h : PutQ Q w0 w T G d c r) (n : Nx w w' T T' G G') : PutQ Q w0 w' T' G' d c r :=
  fun T2 G2 w2 h2 o2 n2 => h T2 G2 w2 h2 o2 (n.trans n2)
theorem fileC_len (hok : CaOk C) {t : Tl} (ht : Pa.okT t) : (C.pre ++ Pa.pathB t).length < 4611686018427387904 := by
  have := Pa.path_len ht
  have := hok.pre
  rw [List.length_append]
  omega
theorem createD_acts (s : Str) (D : DiskA) : (createD s D).1.acts ≤ D.acts + 1 := by
  unfold createD
  exact (actA_acts (f := createA s) fun _ => ⟨rfl, Nat.le_refl _⟩).1
theorem put_end (h : Dc w0 w T G d c D C) (hok : CaOk C) (ht : Pa.okT t) (hD : t.D = false) (hp : PutW w T G p p7 t S a data) (hlen : ((forgetE (nmT t) C.es).length : Int) < C.room) (hdl : data.length ≤ 140737488355328) (hac : D.acts < 1099511627774)
    (hQ : PutQ Q w0 w T G d c (putE t data D C)) : N_p_cache_Cache_Put.j23 Q (some ⟨c, 0, none⟩) a data.length ac ⟨p, 0, none⟩ ⟨p7, 0, none⟩ w := by
  apply N_p_cache_Cache_Put.j23_eq
  rw [drw_s, opnA_e]
  have kd : Chg None w w.drew := Chg.drew0 w
  replace hQ := hQ.step (Nx.none kd)
  replace h := h.none kd
  replace hp := hp.none kd
  generalize w.drew = w1 at *
  clear kd
  have hb := h.b
  obtain ⟨oa, oc, mr, ha, hc, hb⟩ := hb
  refine opnP_c (hb.blk.rd 2 rfl) (ld5 hp.b ?_)
  refine file_word h.b hok.pre h.std ht fun w10 k10 => opnS_c rfl ⟨opnP_c ((hb.chg0 k10).blk.rd 2 rfl) rfl, ?_⟩
  replace hQ := hQ.step (Nx.none k10)
  replace h := h.none k10
  replace hp := hp.none k10
  clear hb k10
  have hfl := fileC_len hok ht
  refine create_d h.a _ hfl (by omega) fun T1 w14 hd14 hT14 k14 => opnI_c rfl ?_
  obtain ⟨h14, n14⟩ := h.disk hd14 hT14 k14
  replace hQ := hQ.step n14
  replace hp := hp.step n14
  apply N_p_cache_Cache_Put.j24_eq
  have ea := createD_acts (fileC C t) D
  have ep : putE t data D C = if (createD (fileC C t) D).2 ≠ 0 then (((createD (fileC C t) D).1, C), (createD (fileC C t) D).2) else if (writeD (fileC C t) 0 data (createD (fileC C t) D).1).2 ≠ 0 then (((writeD (fileC C t) 0 data (createD (fileC C t) D).1).1, C.forget (nmT t)), (writeD (fileC C t) 0 data (createD (fileC C t) D).1).2) else (((writeD (fileC C t) 0 data (createD (fileC C t) D).1).1, (C.forget (nmT t)).lay (nmT t) t.W), 0) := rfl
  rw [ep] at hQ
  by_cases h0 : (createD (fileC C t) D).2 = 0
  case neg =>
    rw [if_pos h0] at hQ
    exact c_ne h0 (N_p_cache_Cache_Put.j25_eq _ _ _ (hQ T1 G w14 h14 hok (Nx.refl _ _ _)))
  rw [if_neg (fun g => g h0)] at hQ
  refine c_nne h0 ?_
  clear ep
  apply N_p_cache_Cache_Put.j26_eq
  rw [drw_s, opnA_e]
  have kd : Chg None w14 w14.drew := Chg.drew0 w14
  replace hQ := hQ.step (Nx.none kd)
  replace h14 := h14.none kd
  replace hp := hp.none kd
  generalize w14.drew = w15 at *
  refine ld3 hp.b7 ?_
  rw [Addr.add_lit]
  refine forget_word h14.b (nmT t) fun w7 hc7 k7 => ⟨rfl, ?_⟩
  obtain ⟨h7, n7⟩ := h14.own hc7 (fun _ _ => rfl) k7
  replace hQ := hQ.step n7
  replace hp := hp.step n7
  have hok7 := hok.forget (nmT t)
  apply N_p_cache_Cache_Put.j27_eq
  rw [drw_s, opnA_e]
  have kd : Chg None w7 w7.drew := Chg.drew0 w7
  replace hQ := hQ.step (Nx.none kd)
  replace h7 := h7.none kd
  replace hp := hp.none kd
  clear kd h14 hd14 k14 n14 n7 k7 hc7
  generalize w7.drew = w8 at *
  have hb := h7.b
  obtain ⟨oa, oc, mr, ha, hc, hb⟩ := hb
  refine opnP_c (hb.blk.rd 2 rfl) (ld5 hp.b ?_)
  refine file_word h7.b hok.pre h7.std ht fun w10 k10 => opnS_c rfl ⟨opnP_c ((hb.chg0 k10).blk.rd 2 rfl) rfl, ?_⟩
  replace hQ := hQ.step (Nx.none k10)
  replace h7 := h7.none k10
  replace hp := hp.none k10
  clear hb k10
  refine write_d h7.a _ hfl 0 hp.l (fun k hk => (hp.s k hk).1) (by omega) (Nat.lt_of_le_of_lt ea (by omega)) fun T2 w14 hd14 hT14 k14 => opnI_c rfl ?_
  obtain ⟨h14, n14⟩ := h7.disk hd14 hT14 k14
  replace hQ := hQ.step n14
  replace hp := hp.step n14
  apply N_p_cache_Cache_Put.j28_eq
  show cond ((writeD (fileC C t) 0 data (createD (fileC C t) D).1).2 != 0) _ _
  by_cases h1 : (writeD (fileC C t) 0 data (createD (fileC C t) D).1).2 = 0
  case neg =>
    rw [if_pos h1] at hQ
    exact c_ne h1 (N_p_cache_Cache_Put.j29_eq _ _ _ (hQ T2 G w14 h14 hok7 (Nx.refl _ _ _)))
  rw [if_neg (fun g => g h1)] at hQ
  refine c_nne h1 ?_
  apply N_p_cache_Cache_Put.j30_eq
  rw [drw_s, opnA_e]
  have kd : Chg None w14 w14.drew := Chg.drew0 w14
  replace hQ := hQ.step (Nx.none kd)
  replace h14 := h14.none kd
  replace hp := hp.none kd
  generalize w14.drew = w15 at *
  refine ld3 hp.b7 (opnI_c (hp.b.rd 3 rfl) ?_)
  rw [Addr.add_lit]
  have hl2 : ((forgetE (nmT t) (C.forget (nmT t)).es).length : Int) < C.room := by
    have := forget_len (nmT t) (forgetE (nmT t) C.es)
    show ((forgetE (nmT t) (forgetE (nmT t) C.es)).length : Int) < _
    omega
  have hr := hok.room
  refine lay_word h14.b (nmT t) t.W (by show (forgetE (nmT t) (C.forget (nmT t)).es).length < 4096; omega) fun G' w16 hc16 hG' k16 => ⟨rfl, N_p_cache_Cache_Put.j31_eq _ _ ?_⟩
  obtain ⟨h16, n16⟩ := h14.own hc16 hG' k16
  exact hQ T2 G' w16 h16 (hok7.lay (v := t.W) (by
    have : tlE (nmT t, t.W) = t := by
      obtain ⟨a1, a2, a3, a4, a5⟩ := t
      cases hD
      rfl
    rw [this]; exact ht) hl2) n16
theorem fieldO {es : Ents} {oa : Option Addr} {n oc : Nat} (h : Own w 106 3 oa n oc (ordC es)) {e : Nm × Int} (he : es[0]? = some e) : ∃ b, oa = some ⟨b, 0, none⟩ ∧ ∀ j v, (nmC e.1)[j]? = some v → w.cell? (((⟨b, 0, none⟩ : Addr).add (Int.toNat 0 * 3)).add j) = some v := by
  match es, he with
  | x :: es, he =>
    simp only [List.getElem?_cons_zero, Option.some.injEq] at he
    subst he
    have hl := h.len
    rw [ordC_len, List.length_cons] at hl
    rcases h.row with ⟨e1, e2, e3⟩ | ⟨b, rest, e1, h2, h3, h4⟩
    · omega
    · refine ⟨b, e1, fun j v hv => ?_⟩
      have : ordC (x :: es) ++ rest = [] ++ (nmC x.1 ++ (ordC es ++ rest)) := by simp [ordC]
      rw [this] at h2
      exact fieldN (i := 0) h2 rfl hv
theorem put_new' (h : Dc w0 w T G d c D C) (hok : CaOk C) (ht : Pa.okT t) (hD : t.D = false) (hp : PutW w T G p p7 t S a data) (hr0 : C.room ≠ 0) (hdl : data.length ≤ 140737488355328) (hac : D.acts < 1099511627773)
    (hQ : PutQ Q w0 w T G d c (putN t data D C)) : N_p_cache_Cache_Put.j17 Q (some ⟨c, 0, none⟩) a data.length ac ⟨p, 0, none⟩ ⟨p7, 0, none⟩ false w := by
  apply N_p_cache_Cache_Put.j17_eq
  rw [drw_s]
  have kd : Chg None w w.drew := Chg.drew0 w
  replace hQ := hQ.step (Nx.none kd)
  replace h := h.none kd
  replace hp := hp.none kd
  generalize w.drew = w1 at *
  clear kd
  rw [Bool.not_false, cond_true, opnA_e, opnA_e, Addr.add_lit]
  have hb := h.b
  obtain ⟨oa, oc, mr, ha, hc, hb⟩ := hb
  refine opnL_c (hb.blk.rd 0 rfl) (opnI_c (hb.blk.rd 4 rfl) ?_)
  have hrm := hok.room
  unfold putN at hQ
  by_cases hfull : (C.es.length : Int) ≥ C.room
  case neg =>
    rw [if_neg hfull] at hQ
    have := forget_len (nmT t) C.es
    exact c_nge (by omega) (put_end h hok ht hD hp (by omega) hdl (by omega) hQ)
  rw [if_pos hfull] at hQ
  refine c_ge hfull ?_
  apply N_p_cache_Cache_Put.j18_eq
  rw [opnA_e, Addr.add_lit]
  have hne : C.es ≠ [] := fun e => by
    rw [e] at hfull
    have : (([] : Ents).length : Int) = 0 := rfl
    omega
  obtain ⟨e0, es, hes⟩ := List.exists_cons_of_ne_nil hne
  have he0 : C.es[0]? = some e0 := by rw [hes]; rfl
  have hhd : C.es.headD ((0, 0, 0), 0) = e0 := by rw [hes]; rfl
  rw [hhd] at hQ
  refine opnL_c (hb.blk.rd 0 rfl) ⟨by decide, by rw [hes, List.length_cons]; omega, ?_⟩
  obtain ⟨b, hoa, hcell⟩ := fieldO hb.ow he0
  rw [hoa, opnA_e]
  refine opnI_c (hcell 0 _ rfl) (opnI_c (hcell 1 _ rfl) (opnI_c (hcell 2 _ rfl) ?_))
  refine mk3 fun p11 w11 hp11 k11 hlo11 => ?_
  apply N_p_cache_Cache_Put.j19_eq
  rw [drw_s, opnA_e]
  have kd : Chg None w1 w11.drew := k11.none_trans (Chg.drew0 w11)
  have hp11' := hp11.chg0 (Chg.drew0 (D := None) w11)
  replace hQ := hQ.step (Nx.none kd)
  replace h := h.none kd
  replace hp := hp.none kd
  clear hb hcell k11 hp11
  generalize w11.drew = w2 at *
  refine ld3 hp11' ?_
  rw [Addr.add_lit]
  have hmem : e0 ∈ C.es := by rw [hes]; exact List.mem_cons_self
  have hlook : Go.Sh.look e0.1 C.es = some e0.2 := by
    have hk := h.b
    obtain ⟨_, _, _, _, _, hk⟩ := hk
    exact mem_look hk.keys hmem
  refine value_word h.b e0.1 fun w3 k3 => ⟨rfl, opnI_c rfl (opnB_c rfl ?_)⟩
  rw [hlook]
  apply N_p_cache_Cache_Put.j20_eq
  refine ld3 (hp11'.chg0 k3) ?_
  refine tile_word e0.1 e0.2 fun w4 k4 => opnG5 ?_
  have k34 := k3.none_trans k4
  replace hQ := hQ.step (Nx.none k34)
  replace h := h.none k34
  replace hp := hp.none k34
  have hok0 : Pa.okT (tlE e0) := hok.es e0 hmem
  refine drop_c (t := tlE e0) h hok (fits_of hok0) (by omega) fun T' w5 h5 n5 => opnI_c rfl ?_
  apply N_p_cache_Cache_Put.j21_eq
  replace hQ := hQ.step n5
  replace hp := hp.step n5
  have hda := dropC_acts (tlE e0) D C
  have hdo : CaOk (dropC (tlE e0) D C).1.2 := dropC_ok hok
  by_cases hz : (dropC (tlE e0) D C).2 = 0
  · rw [if_neg (fun g => g hz)] at hQ
    refine c_nne hz ?_
    have hes' : (dropC (tlE e0) D C).1.2 = C.forget e0.1 := by
      have hm : mayT (tlE e0) := ⟨hok0, rfl⟩
      have hl' : Go.Sh.look (nmT (tlE e0)) C.es = some e0.2 := hlook
      unfold dropC at hz ⊢
      rw [if_neg (fun g => g hm), hl'] at hz ⊢
      simp only at hz ⊢
      split at hz
      · rename_i g; exact absurd hz g
      · rename_i g; rw [if_neg g]; rfl
    have hrm' := (dropC_room (t := tlE e0) (D := D) (C := C)).1
    refine put_end h5 hdo ht hD hp ?_ hdl (by omega) hQ
    rw [hrm', hes']
    have h1 := forget_len (nmT t) (forgetE e0.1 C.es)
    have h2 := forget_lt hlook
    have h3 := hok.few
    show ((forgetE (nmT t) (forgetE e0.1 C.es)).length : Int) < _
    omega
  · rw [if_pos hz] at hQ
    exact c_ne hz (N_p_cache_Cache_Put.j22_eq _ _ _ (hQ T' G w5 h5 hdo (Nx.refl _ _ _)))
theorem put_c (h : Dc w0 w T G d c D C) (hok : CaOk C) (hf : Pa.fitsT t) (hl : Lies w S a (bvs data)) (hS : ∀ k, S k → T k = .free ∧ G k = .no ∧ k < w.heap.size) (hdl : data.length ≤ 140737488355328) (hac : D.acts < 1099511627770)
    (hQ : PutQ Q w0 w T G d c (putT t data D C)) : C_p_cache_Cache_Put #[ptr c, Pa.tg t, .slice a data.length ac] w Q := by
  refine C_p_cache_Cache_Put_eq _ _ _ _ _ _ _ _ _ _ _ ?_
  refine alC_box fun p w1 hp k1 hlo1 => ld5 hp ?_
  refine may_word hf (fun hm w9 k9 => ?_) fun hm w9 k9 => ?_
  case refine_2 =>
    have k09 := k1.none_trans k9
    have e : putT t data D C = ((D, C), 101) := by unfold putT; rw [if_pos hm]
    rw [e] at hQ
    exact opnB_c rfl (hQ T G w9 (h.none k09) hok (Nx.none k09))
  have k09 := k1.none_trans k9
  have ht : Pa.okT t := hm.1
  have hbW := ht.bounds.2.2.2.2.2
  have hp9 := hp.chg0 k9
  refine opnB_c rfl (opnI_c (hp9.rd 3 rfl) ?_)
  rw [wrap32 (by omega) (by omega)]
  unfold putT at hQ
  rw [if_neg (fun g => g hm)] at hQ
  by_cases h1 : (data.length : Int) = 32 * t.W
  case neg =>
    rw [if_pos h1] at hQ
    exact c_ne h1 (hQ T G w9 (h.none k09) hok (Nx.none k09))
  rw [if_neg (fun g => g h1)] at hQ
  refine c_nne h1 ?_
  rw [opnA_e]
  have hb := h.b
  obtain ⟨oa, oc, mr, ha, hc, hb⟩ := hb
  refine opnI_c ((hb.chg0 k09).blk.rd 4 rfl) ?_
  by_cases h2 : C.room = 0
  · rw [if_pos h2] at hQ
    exact c_eq h2 (hQ T G w9 (h.none k09) hok (Nx.none k09))
  rw [if_neg h2] at hQ
  refine c_neq h2 (ld5 hp9 ?_)
  refine numbersOf_word t fun w20 k20 => opnG3 ?_
  refine mk3 fun p25 w29 hp25 k29 hlo25 => ?_
  rw [drw_s, opnA_e]
  have k30 : Chg None w9 w29.drew := k20.none_trans (k29.none_trans (Chg.drew0 w29))
  have hp25' := hp25.chg0 (Chg.drew0 (D := None) w29)
  have hlo : w.heap.size ≤ p25 := by have := (k09.none_trans k20).size; omega
  have k0 := k09.none_trans k30
  have hp30 := hp9.chg0 k30
  generalize w29.drew = w30 at hp25' k0 hp30
  refine ld3 hp25' ?_
  rw [Addr.add_lit]
  refine value_word (h.b.chg0 k0) (nmT t) fun w36 k36 => ⟨rfl, opnI_c rfl (opnB_c rfl ?_)⟩
  have k06 := k0.none_trans k36
  replace hQ : PutQ Q w0 w36 T G d c _ := hQ.step (Nx.none k06)
  have h36 := h.none k06
  have hpw : PutW w36 T G p p25 t S a data := ⟨hp30.chg0 k36, hp25'.chg0 k36, ⟨h.a.free hlo1, h.b.free hlo1, h.a.free hlo, h.b.free hlo⟩, hl.chg0 k06, fun k hk => by
    obtain ⟨s1, s2, s3⟩ := hS k hk
    exact ⟨s1, s2, Nat.lt_of_lt_of_le s3 k06.size⟩⟩
  have hD := hm.2
  have hfew := hok.few
  cases hlk : Go.Sh.look (nmT t) C.es with
  | none =>
    rw [hlk] at hQ
    refine c_f rfl ?_
    apply N_p_cache_Cache_Put.j12_eq
    exact c_f rfl (put_new' h36 hok ht hD hpw h2 hdl (by omega) hQ)
  | some width =>
    rw [hlk] at hQ
    simp only at hQ
    have hwok := look_in hok hlk
    have hfl := forget_lt hlk
    refine c_t rfl (opnI_c (hpw.b.rd 3 rfl) ?_)
    rw [Option.getD_some]
    by_cases g1 : width > t.W
    · rw [if_pos g1] at hQ
      refine c_gt g1 ?_
      rw [drw_s, opnA_e]
      have kd : Chg None w36 w36.drew := Chg.drew0 w36
      have h41 := h36.none kd
      have hp41 := hpw.none kd
      refine ld3 hp41.b7 ?_
      rw [Addr.add_lit]
      have hr := hok.room
      refine lay_word h41.b (nmT t) width (by omega) fun G' w47 hc47 hG' k47 => ⟨rfl, ?_⟩
      obtain ⟨h47, n47⟩ := h41.own hc47 hG' k47
      exact hQ T G' w47 h47 (hok.lay hwok (by omega)) ((Nx.none kd).trans n47)
    rw [if_neg g1] at hQ
    refine c_ngt (by omega) ?_
    apply N_p_cache_Cache_Put.j12_eq
    refine c_t rfl (opnI_c (hpw.b.rd 3 rfl) ?_)
    by_cases g2 : width < t.W
    · rw [if_pos g2] at hQ
      refine c_lt g2 (ld5 hpw.b ?_)
      refine drop_c h36 hok hf (by omega) fun T' w8 h8 n8 => opnI_c rfl ?_
      have hQ8 := hQ.step n8
      have hp8 := hpw.step n8
      have hda := dropC_acts t D C
      have hdo : CaOk (dropC t D C).1.2 := dropC_ok hok
      by_cases hz : (dropC t D C).2 = 0
      · rw [if_neg (fun g => g hz)] at hQ8
        refine c_nne hz ?_
        exact put_new' h8 hdo ht hD hp8 (by rw [dropC_room.1]; exact h2) hdl (by omega) hQ8
      · rw [if_pos hz] at hQ8
        exact c_ne hz (hQ8 T' G w8 h8 hdo (Nx.refl _ _ _))
    · rw [if_neg g2] at hQ
      refine c_nlt (by omega) ?_
      apply N_p_cache_Cache_Put.j17_eq
      rw [drw_s]
      have kd : Chg None w36 w36.drew := Chg.drew0 w36
      exact c_f rfl (put_end (h36.none kd) hok ht hD (hpw.none kd) (by omega) hdl (by omega) (hQ.step (Nx.none kd)))
end
end Go.Proofs.YtcigjlbpdkkflaaGreatDoor
set_option maxRecDepth 10000
namespace Go.Proofs.YtcigjlbpdkkflaaGreatDoor
open Go.Sh Go.ChangeShapes
open Go.RowKit
theorem T46 : SlT PP 46 41 5 40 := ⟨Tryz.underlying46, by kernel_rfl⟩
def tlsC (l : List Tl) : List Value := l.flatMap Pa.tv
theorem tlsC_len (l : List Tl) : (tlsC l).length = l.length * 5 := flat_len _ 5 (fun _ => rfl) l
def listC (C : CaM) : List Tl := C.es.map tlE
section
variable {Q : Value → World → Prop} {w w' w0 w2 : World} {T T' T2 : Tags} {G G' G2 : Gs} {c d : Nat} {D D' : DiskA} {C C' : CaM} {oa ha : Option Addr} {oc hc : Nat} {mr : Option Nat}
theorem fieldL {es : Ents} {n : Nat} (h : Own w 106 3 oa n oc (ordC es)) {i : Nat} {e : Nm × Int} (he : es[i]? = some e) : ∃ p, oa = some p ∧ ∀ j v, (nmC e.1)[j]? = some v → w.cell? ((p.add (Int.toNat (i : Int) * 3)).add j) = some v := by
  obtain ⟨p, hp⟩ := lies_flat_some (enc := fun e : Nm × Int => nmC e.1) (sz := 3) (fun _ => rfl) (by decide) h.lies (List.getElem?_eq_some_iff.1 he).1
  refine ⟨p, hp, fun j v hv => ?_⟩
  have hl := h.lies
  rw [hp] at hl
  exact rd_fld (enc := fun e : Nm × Int => nmC e.1) (fun _ => rfl) hl (i := (i : Int)) (by rw [Int.toNat_natCast]; exact he) hv
theorem clist_loop (hc0 : CaV w0 G c d C oa oc mr ha hc) (hQ : ∀ a' c' w', Own w' 41 5 a' (listC C).length c' (tlsC (listC C)) → (∀ k, At a' k → w0.heap.size ≤ k) → Chg None w0 w' → Q (.slice a' (listC C).length c') w') :
    ∀ (n i : Nat) (a : Option Addr) (cc : Nat) (w : World), C.es.length - i = n → i ≤ C.es.length → Own w 41 5 a i cc (tlsC ((C.es.take i).map tlE)) → (∀ k, At a k → w0.heap.size ≤ k) → Chg None w0 w →
      N_p_cache_Cache_List.j3 Q (some ⟨c, 0, none⟩) a i cc oa C.es.length oc (C.es.length : Int) (i : Int) w
  | 0, i, a, cc, w, hn, hi, ho, hlo, k0 => by
    apply N_p_cache_Cache_List.j3_eq
    refine c_nlt (by omega) ?_
    have : i = C.es.length := by omega
    subst this
    rw [List.take_length] at ho
    have hl : (listC C).length = C.es.length := List.length_map _
    have := hQ a cc w (by rw [hl]; exact ho) hlo k0
    rw [hl] at this
    exact this
  | n + 1, i, a, cc, w, hn, hi, ho, hlo, k0 => by
    have hcv := hc0.chg0 k0
    have hlt : i < C.es.length := by omega
    have he : C.es[i]? = some C.es[i] := List.getElem?_eq_getElem hlt
    generalize hee : C.es[i] = e at he
    obtain ⟨p, hp, hcell⟩ := fieldL hcv.ow he
    have hfew := hcv.few
    apply N_p_cache_Cache_List.j3_eq
    refine c_lt (by omega) ⟨by omega, by omega, ?_⟩
    rw [hp, opnA_e]
    refine opnI_c (hcell 0 _ rfl) (opnI_c (hcell 1 _ rfl) (opnI_c (hcell 2 _ rfl) ?_))
    refine mk3 fun p5 w9 hp5 k9 hlo5 => ?_
    rw [drw_s, opnA_e]
    have k10 : Chg None w w9.drew := k9.none_trans (Chg.drew0 w9)
    have hp10 := hp5.chg0 (Chg.drew0 (D := None) w9)
    generalize w9.drew = w10 at k10 hp10
    refine ld3 hp10 ?_
    rw [Addr.add_lit]
    have hc10 := hcv.chg0 k10
    have hlook : Go.Sh.look e.1 C.es = some e.2 := mem_look hcv.keys (List.mem_of_getElem? he)
    refine value_word ⟨_, _, _, _, _, hc10⟩ e.1 fun w16 k16 => ⟨rfl, opnI_c rfl (opnB_c rfl ?_)⟩
    rw [hlook, Option.getD_some]
    refine ld3 (hp10.chg0 k16) ?_
    refine tile_word e.1 e.2 fun w24 k24 => opnG5 ?_
    have k4 := k10.none_trans (k16.none_trans k24)
    have hnext : IntKind.wrap .i64 ((i : Int) + 1) = ((i + 1 : Nat) : Int) := by rw [IntKind.wrap_i64]; omega
    refine push_struct T46 (w0 := w0) (ho.chg0 k4) hlo (k0.none_trans k4) (cs := #[.int .i64 (tlE (e.1, e.2)).H, .int .i64 (tlE (e.1, e.2)).L, .int .i64 (tlE (e.1, e.2)).N, .int .i64 (tlE (e.1, e.2)).W, .bool (tlE (e.1, e.2)).D]) rfl rfl (by omega) (by omega) fun a' c' w' ho' hlo' k' => ?_
    rw [hnext]
    have := clist_loop hc0 hQ n (i + 1) a' c' w' (by omega) (by omega) (by
      rw [List.take_add_one, he]
      simpa [tlsC, Pa.tv] using ho') hlo' k'
    rw [hp] at this
    exact this
theorem list_c (h : Dc w0 w T G d c D C) (hQ : ∀ a' c' w', Own w' 41 5 a' (listC C).length c' (tlsC (listC C)) → (∀ k, At a' k → w.heap.size ≤ k) → Chg None w w' → Q (.slice a' (listC C).length c') w') : C_p_cache_Cache_List #[ptr c] w Q := by
  have hb := h.b
  obtain ⟨oa, oc, mr, ha, hc, hb⟩ := hb
  have hfew := hb.few
  refine C_p_cache_Cache_List_eq _ _ _ ?_
  rw [opnA_e, Addr.add_lit]
  refine opnL_c (hb.blk.rd 0 rfl) ?_
  refine make_empty T46 (by omega) (by omega) fun b w4 ho k4 hlo => opnL_c rfl ?_
  rw [opnA_e]
  refine opnL_c ((hb.chg0 k4).blk.rd 0 rfl) ?_
  exact clist_loop (w0 := w) hb hQ C.es.length 0 (some ⟨b, 0, none⟩) C.es.length w4 (by omega) (Nat.zero_le _) ho (fun k hk => by obtain ⟨p, hp, hk⟩ := hk; cases hp; rw [← hk]; exact hlo) k4
end
def newN : Str := [46, 110, 101, 119]
def CaM.hf (C : CaM) : Str := C.pre ++ headN
def CaM.fresh (C : CaM) : Str := C.hf ++ newN
section
variable {Q : Value → World → Prop} {w w' w0 w2 : World} {T T' T2 : Tags} {G G' G2 : Gs} {c d : Nat} {D D' : DiskA} {C C' : CaM} {S : Nat → Prop} {q : Option Addr} {qc : Nat} {next : List UInt8} {p1 p3 p4 p5 : Nat}
def actsV (c d p1 p3 p4 : Nat) : List Value := [.func (.func 68) #[] #[ptr p1, ptr p4], .func (.func 69) #[] #[ptr p1, ptr p4, ptr p3], .func (.func 70) #[] #[ptr p1, ptr p4], .func (.func 72) #[] #[ptr p1, ptr p4], .func (.func 49) #[ptr d] #[]]
structure SetW (w : World) (T : Tags) (G : Gs) (c d p1 p3 p4 p5 : Nat) (fr : Str) (S : Nat → Prop) (q : Option Addr) (qc : Nat) (next : List UInt8) : Prop where
  b1 : Blk w p1 30 [ptr c]
  b3 : Blk w p3 24 [.slice q next.length qc]
  b4 : Blk w p4 9 [strv fr]
  b5 : Blk w p5 110 (actsV c d p1 p3 p4)
  f : ∀ x, x = p1 ∨ x = p3 ∨ x = p4 ∨ x = p5 → T x = .free ∧ G x = .no
  l : Lies w S q (bvs next)
  s : ∀ k, S k → T k = .free ∧ G k = .no ∧ k < w.heap.size
theorem no_dc {k : Nat} (h : T k = .free ∧ G k = .no) : ¬ DcD T G k := fun g => by
  rcases g with g | g
  · exact g h.1
  · rw [h.2] at g; cases g
theorem SetW.step {fr : Str} (h : SetW w T G c d p1 p3 p4 p5 fr S q qc next) (n : Nx w w' T T' G G') : SetW w' T' G' c d p1 p3 p4 p5 fr S q qc next := by
  have l1 := h.b1.lt
  have l3 := h.b3.lt
  have l4 := h.b4.lt
  have l5 := h.b5.lt
  refine ⟨h.b1.chg n.k (no_dc (h.f _ (.inl rfl))), h.b3.chg n.k (no_dc (h.f _ (.inr (.inl rfl)))), h.b4.chg n.k (no_dc (h.f _ (.inr (.inr (.inl rfl))))), h.b5.chg n.k (no_dc (h.f _ (.inr (.inr (.inr rfl))))), fun x hx => ?_, h.l.chg n.k fun k _ hk => no_dc ⟨(h.s k hk).1, (h.s k hk).2.1⟩, fun k hk => ?_⟩
  · have hlt : x < w.heap.size := by rcases hx with e | e | e | e <;> (rw [e]; assumption)
    rw [n.t x hlt, n.g x hlt]; exact h.f x hx
  · obtain ⟨s1, s2, s3⟩ := h.s k hk
    have := n.k.size
    exact ⟨by rw [n.t k s3]; exact s1, by rw [n.g k s3]; exact s2, by omega⟩
theorem SetW.none {fr : Str} (h : SetW w T G c d p1 p3 p4 p5 fr S q qc next) (k : Chg None w w') : SetW w' T G c d p1 p3 p4 p5 fr S q qc next := h.step (Nx.none k)
theorem head_put {w1 w10 : World} {a' : Option Addr} {c' : Nat} {K : World → Prop} (h : Dc w0 w1 T G d c D C) (ho : Own w10 5 1 a' next.length c' (bvs next)) (hlo : ∀ k, At a' k → w1.heap.size ≤ k) (k10 : Chg None w1 w10)
    (hK : ∀ G' w', Dc w0 w' T G' d c D { C with head := next } → Nx w1 w' T T G G' → K w') : stC ((⟨c, 0, none⟩ : Addr).add 5) (.slice a' next.length c') w10 K := by
  have h10 := h.none k10
  have hb := h10.b
  obtain ⟨oa, oc, mr, ha, hc, hb⟩ := hb
  refine box_set hb.blk (j := 5) (by simp) rfl fun w14 hc14 k14 => ?_
  classical
  let G' : Gs := fun x => if At a' x then .hd else G x
  have hno : ∀ x, At a' x → G x = .no := fun x hx => h.b.free (hlo x hx)
  have eG : ∀ x, ¬ At a' x → G' x = G x := fun x hx => if_neg hx
  have hlt : ∀ x, x < w1.heap.size → G' x = G x := fun x hx => eG x fun g => by have := hlo x g; omega
  have hcA : ¬ At a' c := fun g => by have := hno c g; rw [hb.tag] at this; cases this
  have keepG : ∀ x g, G x = g → g ≠ .no → G' x = g := fun x g hx hg => by rw [eG x fun ga => hg (by rw [← hx, hno x ga])]; exact hx
  have km : Chg (Mu G) w1 w14 := Chg.trans k10 k14 (fun _ _ h => h.elim) fun x _ hx => by rw [Mu, hx]; exact hb.tag
  have hca : CaAt w14 G' c d { C with head := next } := ⟨oa, oc, mr, a', c', {
    size := fun x hx => by
      by_cases g : At a' x
      · have := ho.lt g
        have := k14.size
        omega
      · rw [eG x g] at hx
        have := hb.size x hx
        have := k14.size
        omega
    tag := keepG c _ hb.tag (by simp)
    blk := hc14
    ow := hb.ow.chg k14 fun x hx e => by subst e; exact hb.ne_o hx
    owT := fun x hx => keepG x _ (hb.owT x hx) (by simp)
    mp := hb.mp.chg k14 fun r hr e => (hb.ne_m hr).1 e
    mpT := fun r hr => keepG r _ (hb.mpT r hr) (by simp)
    hd := (ho.lies.mono fun x hx => if_pos hx).chg k14 fun x _ hx e => by
      subst e
      have : G' x = G x := eG x hcA
      have hx' : G' x = .hd := hx
      rw [this, hb.tag] at hx'
      cases hx'
    keys := hb.keys
    few := hb.few }⟩
  obtain ⟨g1, g2⟩ := h.own hca hlt km
  exact hK G' w14 g1 g2
end
end Go.Proofs.YtcigjlbpdkkflaaGreatDoor
set_option maxRecDepth 10000
namespace Go.Proofs.YtcigjlbpdkkflaaGreatDoor
open Go.Sh Go.ChangeShapes
open Go.RowKit
def cacheN : Str := [99, 97, 99, 104, 101, 47]
def preC (name : Str) : Str := cacheN ++ name ++ [47]
def widStep (D : DiskA) (C : CaM) (k : Nm) (m : Int) (n : Str) : Int := match goodA D C n with
  | some t => if nmT t = k then max m t.W else m
  | none => m
def widW (D : DiskA) (C : CaM) (l : List Str) (k : Nm) : Int := l.foldl (widStep D C k) 0
def keepT (D : DiskA) (C : CaM) (n : Str) : Tl := (goodA D C n).getD Pa.tz
def openL (D0 : DiskA) (C0 : CaM) (names : List Str) : List Str → DiskA → CaM → (DiskA × CaM) × Int
  | [], D, C => ((D, C), 0)
  | n :: l, D, C =>
    if n = C0.hf then openL D0 C0 names l D C
    else if (keepT D0 C0 n).W > 0 ∧ (keepT D0 C0 n).W = widW D0 C0 names (nmT (keepT D0 C0 n)) ∧ (C.es.length : Int) < C0.room then openL D0 C0 names l D (C.lay (nmT (keepT D0 C0 n)) (keepT D0 C0 n).W)
    else if (goneD n D).2 ≠ 0 then (((goneD n D).1, C), (goneD n D).2)
    else openL D0 C0 names l (goneD n D).1 C
def openM (D : DiskA) (name : Str) (room : Int) : CaM := ⟨preC name, room, readB D.toDiskM (preC name ++ headN), []⟩
def openC (name : Str) (room : Int) (D : DiskA) : (DiskA × CaM) × Int :=
  if cnameB name = false then ((D, openM D name room), 120)
  else if room < 0 ∨ room > 4096 then ((D, openM D name room), 1)
  else if readE D.toDiskM (preC name ++ headN) = 125 then ((D, openM D name room), 125)
  else if (openL D (openM D name room) (listA D (preC name)) (listA D (preC name)) D (openM D name room)).2 ≠ 0 then openL D (openM D name room) (listA D (preC name)) (listA D (preC name)) D (openM D name room)
  else (((syncNamesD (openL D (openM D name room) (listA D (preC name)) (listA D (preC name)) D (openM D name room)).1.1).1, (openL D (openM D name room) (listA D (preC name)) (listA D (preC name)) D (openM D name room)).1.2), (syncNamesD (openL D (openM D name room) (listA D (preC name)) (listA D (preC name)) D (openM D name room)).1.1).2)
theorem openL_acts (D0 : DiskA) (C0 : CaM) (names : List Str) : ∀ (l : List Str) (D : DiskA) (C : CaM), (openL D0 C0 names l D C).1.1.acts ≤ D.acts + l.length
  | [], D, C => Nat.le_refl _
  | n :: l, D, C => by
    have h1 := goneD_acts n D
    have h2 := openL_acts D0 C0 names l (goneD n D).1 C
    have h3 := openL_acts D0 C0 names l D C
    have h4 := openL_acts D0 C0 names l D (C.lay (nmT (keepT D0 C0 n)) (keepT D0 C0 n).W)
    rw [List.length_cons]
    unfold openL
    split
    · omega
    · split
      · omega
      · split
        · show (goneD n D).1.acts ≤ _
          omega
        · omega
theorem goodA_ok {D : DiskA} {C : CaM} {n : Str} {t : Tl} (h : goodA D C n = some t) : Pa.okT t ∧ t.D = false ∧ n.drop C.pre.length = Pa.pathB t ∧ readE D.toDiskM n = 0 ∧ ((readB D.toDiskM n).length : Int) = 32 * t.W := by
  unfold goodA at h
  split at h
  · rename_i g
    cases h
    exact ⟨g.1.2.1, g.2.1, g.1.2.2.symm, g.2.2.1, g.2.2.2⟩
  · cases h
theorem tlE_of {t : Tl} (h : t.D = false) : tlE (nmT t, t.W) = t := by
  obtain ⟨a1, a2, a3, a4, a5⟩ := t
  cases h
  rfl
theorem openL_ok {D0 : DiskA} {C0 : CaM} {names : List Str} : ∀ {l : List Str} {D : DiskA} {C : CaM}, CaOk C → C.room = C0.room → CaOk (openL D0 C0 names l D C).1.2
  | [], _, _, h, _ => h
  | n :: l, D, C, h, hr => by
    unfold openL
    split
    · exact openL_ok h hr
    · split
      · rename_i g
        refine openL_ok (h.lay ?_ ?_) hr
        · cases hg : goodA D0 C0 n with
          | none =>
            have : (keepT D0 C0 n).W = 0 := by unfold keepT; rw [hg]; rfl
            omega
          | some t =>
            have hk : keepT D0 C0 n = t := by unfold keepT; rw [hg]; rfl
            obtain ⟨h1, h2, _⟩ := goodA_ok hg
            rw [hk, tlE_of h2]
            exact h1
        · have := forget_len (nmT (keepT D0 C0 n)) C.es
          rw [hr]
          omega
      · split
        · exact h
        · exact openL_ok h hr
section
variable {Q : Value → World → Prop} {w w' w0 w2 wB : World} {T T' T2 : Tags} {G G' G2 : Gs} {c d : Nat} {D D' D0 : DiskA} {C C' C0 : CaM} {names : List Str} {r1 r2 : Nat} {na : Option Addr} {nc : Nat} {km : List (Str × Value)} {wm : List (Nm × Value)} {room : Int}
theorem E41 : EqT PP 41 [(3, 0), (3, 1), (2, 2), (3, 3), (4, 4)] := ⟨by kernel_rfl, by kernel_rfl, by kernel_rfl, by kernel_rfl⟩
theorem M102 : PP.underlying 102 = some (.map 9 41) := Tryz.underlying102
theorem Z41 : (PP.info? 41).bind (·.zero) = some (Pa.tg Pa.tz) := by kernel_rfl
structure OpW (w : World) (T : Tags) (G : Gs) (names : List Str) (na : Option Addr) (nc r1 r2 : Nat) (km : List (Str × Value)) (wm : List (Nm × Value)) : Prop where
  n : Own w 9 1 na names.length nc (names.map strv)
  nf : ∀ k, At na k → T k = .free ∧ G k = .no
  h1 : HMap w strv r1 km
  h2 : HMap w nmV r2 wm
  f1 : T r1 = .free ∧ G r1 = .no
  f2 : T r2 = .free ∧ G r2 = .no
theorem OpW.step (h : OpW w T G names na nc r1 r2 km wm) (n : Nx w w' T T' G G') : OpW w' T' G' names na nc r1 r2 km wm := by
  refine ⟨h.n.chg n.k fun x hx => no_dc (h.nf x hx), fun k hk => ?_, h.h1.chg n.k (no_dc h.f1), h.h2.chg n.k (no_dc h.f2), ?_, ?_⟩
  · have := h.n.lt hk
    rw [n.t k this, n.g k this]; exact h.nf k hk
  · rw [n.t r1 h.h1.lt, n.g r1 h.h1.lt]; exact h.f1
  · rw [n.t r2 h.h2.lt, n.g r2 h.h2.lt]; exact h.f2
structure OpM (D : DiskA) (C : CaM) (l : List Str) (km : List (Str × Value)) (wm : List (Nm × Value)) : Prop where
  k : ∀ n, Go.Sh.look n km = if n ∈ l then (goodA D C n).map Pa.tg else none
  w : ∀ k, (Go.Sh.look k wm).getD (.int .i64 0) = .int .i64 (widW D C l k)
theorem OpM.keep {l : List Str} (h : OpM D C l km wm) {n : Str} (hn : n ∈ l) : (Go.Sh.look n km).getD (Pa.tg Pa.tz) = Pa.tg (keepT D C n) := by
  rw [h.k n, if_pos hn]
  unfold keepT
  cases goodA D C n <;> rfl
theorem widW_snoc (D : DiskA) (C : CaM) (l : List Str) (n : Str) (k : Nm) : widW D C (l ++ [n]) k = widStep D C k (widW D C l k) n := by
  unfold widW
  rw [List.foldl_append]; rfl
theorem open_loop1 (hnd : names.Nodup) (hnl : ∀ n ∈ names, n.length < 4611686018427387904 ∧ C.pre.length ≤ n.length) (hB : wB.heap.size ≤ r1 ∧ wB.heap.size ≤ r2) (hne : r1 ≠ r2) (hdc : Dc w0 wB T G d c D C)
    (hn0 : Own wB 9 1 na names.length nc (names.map strv)) (hfew : names.length < 1099511627776)
    (hQ : ∀ w' km wm, HMap w' strv r1 km → HMap w' nmV r2 wm → OpM D C names km wm → Chg None wB w' → N_cache_Open.j22 Q (some ⟨d, 0, none⟩) room ⟨c, 0, none⟩ (some r1) (some r2) na names.length nc (names.length : Int) 0 w') :
    ∀ (n i : Nat) (w : World) (km : List (Str × Value)) (wm : List (Nm × Value)), names.length - i = n → i ≤ names.length → HMap w strv r1 km → HMap w nmV r2 wm → OpM D C (names.take i) km wm → Chg None wB w →
      N_cache_Open.j14 Q (some ⟨d, 0, none⟩) room ⟨c, 0, none⟩ na names.length nc (some r1) (some r2) na names.length nc (names.length : Int) (i : Int) w
  | 0, i, w, km, wm, hn, hi, h1, h2, hm, k0 => by
    apply N_cache_Open.j14_eq
    have : i = names.length := by omega
    subst this
    rw [List.take_length] at hm
    exact c_nlt (by omega) (hQ w km wm h1 h2 hm k0)
  | n + 1, i, w, km, wm, hn, hi, h1, h2, hm, k0 => by
    have hlt : i < names.length := by omega
    have he : names[i]? = some names[i] := List.getElem?_eq_getElem hlt
    have hmem : names[i] ∈ names := List.getElem_mem hlt
    have hnotin : names[i] ∉ names.take i := fun g => by
      obtain ⟨j, hj, hje⟩ := List.getElem_of_mem g
      rw [List.length_take] at hj
      rw [List.getElem_take] at hje
      have := (List.getElem_inj hnd).1 hje
      omega
    generalize names[i] = s at he hmem hnotin
    have htk : names.take (i + 1) = names.take i ++ [s] := by rw [List.take_add_one, he]; rfl
    have hnext : IntKind.wrap .i64 ((i : Int) + 1) = ((i + 1 : Nat) : Int) := by rw [IntKind.wrap_i64]; omega
    have hdw := hdc.none k0
    obtain ⟨hs1, hs2⟩ := hnl s hmem
    apply N_cache_Open.j14_eq
    refine c_lt (by omega) ⟨by omega, by omega, rd_str (hn0.chg0 k0) (i := (i : Int)) (by rw [Int.toNat_natCast]; exact he) ?_⟩
    refine good_c hdw s hs1 hs2 fun t w4 k4 ht => ⟨rfl, opnG5 (opnB_c rfl ?_)⟩
    refine mk5 fun p13 w19 hp13 k19 hlo13 => ?_
    have k0' := k0.none_trans (k4.none_trans k19)
    have h1' := h1.chg0 (k4.none_trans k19)
    have h2' := h2.chg0 (k4.none_trans k19)
    have cont : ∀ w' km' wm', HMap w' strv r1 km' → HMap w' nmV r2 wm' → OpM D C (names.take (i + 1)) km' wm' → Chg None wB w' → N_cache_Open.j20 Q (some ⟨d, 0, none⟩) room ⟨c, 0, none⟩ na names.length nc (some r1) (some r2) na names.length nc (names.length : Int) (i : Int) w' := fun w' km' wm' g1 g2 g3 g4 => by
      apply N_cache_Open.j20_eq
      rw [hnext]
      exact open_loop1 hnd hnl hB hne hdc hn0 hfew hQ n (i + 1) w' km' wm' (by omega) (by omega) g1 g2 g3 g4
    cases hg : goodA D C s with
    | none =>
      refine c_f (by rfl) (cont w19 km wm h1' h2' ⟨fun x => ?_, fun k => ?_⟩ k0')
      · rw [hm.k x, htk]
        by_cases hx : x = s
        · subst hx
          rw [if_neg hnotin, if_pos (by simp), hg]; rfl
        · have : x ∈ names.take i ++ [s] ↔ x ∈ names.take i := by
            rw [List.mem_append, List.mem_singleton]
            exact ⟨fun h => h.resolve_right hx, .inl⟩
          by_cases hin : x ∈ names.take i
          · rw [if_pos hin, if_pos (this.2 hin)]
          · rw [if_neg hin, if_neg fun g => hin (this.1 g)]
      · rw [hm.w k, htk, widW_snoc]
        unfold widStep
        rw [hg]
    | some u =>
      have htu := ht u hg
      subst htu
      refine c_t (by rfl) (ld5 hp13 ?_)
      refine map_update M102 K9 h1' s (Pa.tg t) fun w25 h25 k25 => ?_
      have hlo1 : p13 ≠ r1 := fun e => by have := h1.lt; have := k4.size; omega
      have hp25 := hp13.chg k25 hlo1
      have h225 := h2'.chg k25 (Ne.symm hne)
      have k025 : Chg None wB w25 := Chg.fresh k0' k25 fun x hx => by rw [hx]; exact hB.1
      rw [drw_s]
      have kd : Chg None w25 w25.drew := Chg.drew0 w25
      have hp26 := hp25.chg0 kd
      have h126 := h25.chg0 kd
      have h226 := h225.chg0 kd
      have k026 := k025.none_trans kd
      generalize w25.drew = w26 at *
      refine ld5 hp26 (ld5 hp26 (opnI_c (hp26.rd 3 rfl) ?_))
      refine numbersOf_word t fun w39 k39 => opnG3 ?_
      have hp39 := hp26.chg0 k39
      refine ⟨opnI_c (hp39.rd 3 rfl) rfl, ld5 hp39 rfl, ?_⟩
      refine numbersOf_word t fun w51 k51 => opnG3 ?_
      refine ⟨opnI_c ((hp39.chg0 k51).rd 3 rfl) rfl, ?_⟩
      have k3951 := k39.none_trans k51
      refine map_lookup M93 K106 Zi3 (h226.chg0 k3951) (nmT t) ?_
      rw [hm.w (nmT t)]
      refine opnI_c rfl ?_
      refine map_update M93 K106 (h226.chg0 k3951) (nmT t) _ fun w59 h59 k59 => ?_
      refine cont w59 _ _ ((h126.chg0 k3951).chg k59 hne) h59 ⟨fun x => ?_, fun k => ?_⟩ (Chg.fresh (k026.none_trans k3951) k59 fun x hx => by rw [hx]; exact hB.2)
      · rw [look_put, hm.k x, htk]
        by_cases hx : x = s
        · subst hx
          rw [if_pos rfl, if_pos (by simp), hg]; rfl
        · rw [if_neg hx]
          have : x ∈ names.take i ++ [s] ↔ x ∈ names.take i := by
            rw [List.mem_append, List.mem_singleton]
            exact ⟨fun h => h.resolve_right hx, .inl⟩
          by_cases hin : x ∈ names.take i
          · rw [if_pos hin, if_pos (this.2 hin)]
          · rw [if_neg hin, if_neg fun g => hin (this.1 g)]
      · rw [look_put, htk, widW_snoc]
        unfold widStep
        rw [hg]
        by_cases hk : k = nmT t
        · subst hk
          simp only [if_true, Option.getD_some]
          congr 1
          split <;> omega
        · rw [if_neg hk]
          simp only [if_neg (Ne.symm hk)]
          exact hm.w k
theorem open_loop2 (hpre : C0.pre.length ≤ 40) (hnl : ∀ n ∈ names, n.length < 4611686018427387904) (hfew : names.length < 1099511627776) (hM : OpM D0 C0 names km wm) (hac0 : D0.acts + names.length < 1099511627770)
    (hbad : ∀ T' G' w' r, openL D0 C0 names names D0 C0 = r → r.2 ≠ 0 → Dc w0 w' T' G' d c r.1.1 r.1.2 → Nx wB w' T T' G G' → Q (.tuple #[.pointer none, .int .i64 r.2]) w')
    (hend : ∀ T' G' w' D C, openL D0 C0 names names D0 C0 = ((D, C), 0) → Dc w0 w' T' G' d c D C → Nx wB w' T T' G G' → N_cache_Open.j22 Q (some ⟨d, 0, none⟩) C0.room ⟨c, 0, none⟩ (some r1) (some r2) na names.length nc (names.length : Int) (names.length : Int) w') :
    ∀ (l pre : List Str) (w : World) (T1 : Tags) (G1 : Gs) (D : DiskA) (C : CaM), names = pre ++ l → C.pre = C0.pre → C.room = C0.room → CaOk C → Dc w0 w T1 G1 d c D C → OpW w T1 G1 names na nc r1 r2 km wm → Nx wB w T T1 G G1 → D.acts + l.length < 1099511627770 → openL D0 C0 names names D0 C0 = openL D0 C0 names l D C →
      N_cache_Open.j22 Q (some ⟨d, 0, none⟩) C0.room ⟨c, 0, none⟩ (some r1) (some r2) na names.length nc (names.length : Int) (pre.length : Int) w
  | [], pre, w, T1, G1, D, C, hsp, hp, hr, hok, hd, ho, hn, hac, heq => by
    rw [List.append_nil] at hsp
    rw [← hsp]
    exact hend T1 G1 w D C heq hd hn
  | s :: l, pre, w, T1, G1, D, C, hsp, hp, hr, hok, hd, ho, hn, hac, heq => by
    have hlen : names.length = pre.length + (l.length + 1) := by rw [hsp, List.length_append, List.length_cons]
    have hmem : s ∈ names := by rw [hsp]; simp
    have he : names[pre.length]? = some s := by rw [hsp, List.getElem?_append_right (Nat.le_refl _), Nat.sub_self]; rfl
    have hnext : IntKind.wrap .i64 ((pre.length : Int) + 1) = ((pre ++ [s]).length : Int) := by
      rw [IntKind.wrap_i64, List.length_append, List.length_singleton]; omega
    have hsp' : names = (pre ++ [s]) ++ l := by rw [hsp]; simp
    rw [List.length_cons] at hac
    have cont : ∀ w' T2 G2 D' C', C'.pre = C0.pre → C'.room = C0.room → CaOk C' → Dc w0 w' T2 G2 d c D' C' → Nx w w' T1 T2 G1 G2 → D'.acts + l.length < 1099511627770 → openL D0 C0 names names D0 C0 = openL D0 C0 names l D' C' → N_cache_Open.j31 Q (some ⟨d, 0, none⟩) C0.room ⟨c, 0, none⟩ (some r1) (some r2) na names.length nc (names.length : Int) (pre.length : Int) w' := fun w' T2 G2 D' C' g1 g2 g3 g4 g5 g6 g7 => by
      apply N_cache_Open.j31_eq
      rw [hnext]
      exact open_loop2 hpre hnl hfew hM hac0 hbad hend l (pre ++ [s]) w' T2 G2 D' C' hsp' g1 g2 g3 g4 (ho.step g5) (hn.trans g5) g6 g7
    have hstep : openL D0 C0 names (s :: l) D C = if s = C0.hf then openL D0 C0 names l D C
        else if (keepT D0 C0 s).W > 0 ∧ (keepT D0 C0 s).W = widW D0 C0 names (nmT (keepT D0 C0 s)) ∧ (C.es.length : Int) < C0.room then openL D0 C0 names l D (C.lay (nmT (keepT D0 C0 s)) (keepT D0 C0 s).W)
        else if (goneD s D).2 ≠ 0 then (((goneD s D).1, C), (goneD s D).2) else openL D0 C0 names l (goneD s D).1 C := rfl
    rw [hstep] at heq
    apply N_cache_Open.j22_eq
    refine c_lt (by omega) ⟨by omega, by omega, rd_str ho.n (i := (pre.length : Int)) (by rw [Int.toNat_natCast]; exact he) ?_⟩
    refine headFile_word hd.b (by rw [hp]; exact hpre) (opnS_c rfl ?_)
    have ehf : (⟨(C.pre ++ headN).toArray⟩ : ByteArray).toList = C0.hf := by rw [Lib.toList_data, hp]; rfl
    rw [ehf, Lib.toList_data]
    show cond (s == C0.hf) _ _
    by_cases g1 : s = C0.hf
    · rw [if_pos g1] at heq
      rw [beq_iff_eq.2 g1]
      exact cont w T1 G1 D C hp hr hok hd (Nx.refl _ _ _) (by omega) heq
    rw [if_neg g1] at heq
    rw [beq_eq_false_iff_ne.2 g1, cond_false]
    refine map_lookup M102 K9 Z41 ho.h1 s ?_
    rw [hM.keep hmem]
    generalize hkt : keepT D0 C0 s = t at heq
    refine opnG5 (mk5 fun p13 w19 hp13 k19 hlo13 => ?_)
    rw [drw_s]
    have k20 : Chg None w w19.drew := k19.none_trans (Chg.drew0 w19)
    have hp20 := hp13.chg0 (Chg.drew0 (D := None) w19)
    have hd20 := hd.none k20
    have ho20 := ho.step (Nx.none k20)
    generalize w19.drew = w20 at *
    have j28 : ∀ w3, Chg None w20 w3 → ¬ (t.W > 0 ∧ t.W = widW D0 C0 names (nmT t) ∧ (C.es.length : Int) < C0.room) → N_cache_Open.j28 Q (some ⟨d, 0, none⟩) C0.room ⟨c, 0, none⟩ (some r1) (some r2) ⟨s.toArray⟩ na names.length nc (names.length : Int) (pre.length : Int) w3 := fun w3 k3 hno => by
      rw [if_neg hno] at heq
      apply N_cache_Open.j28_eq
      refine remove_c (hd20.none k3) s (hnl s hmem) (by omega) fun T' w2 h2 n2 => opnI_c rfl ?_
      apply N_cache_Open.j29_eq
      have nn : Nx w w2 T1 T' G1 G1 := (Nx.none (k20.none_trans k3)).trans n2
      have hga := goneD_acts s D
      by_cases hz : (goneD s D).2 = 0
      · rw [if_neg (fun g => g hz)] at heq
        exact c_nne hz (cont w2 T' G1 _ C hp hr hok h2 nn (by omega) heq)
      · rw [if_pos hz] at heq
        refine c_ne hz ?_
        apply N_cache_Open.j30_eq
        have := hbad T' G1 w2 (((goneD s D).1, C), (goneD s D).2) heq hz h2 (hn.trans nn)
        exact this
    refine opnI_c (hp20.rd 3 rfl) ?_
    by_cases g2 : t.W > 0
    case neg => exact c_ngt (by omega) (j28 w20 (Chg.refl _ _) fun g => g2 g.1)
    refine c_gt g2 (opnI_c (hp20.rd 3 rfl) (ld5 hp20 ?_))
    refine numbersOf_word t fun w29 k29 => opnG3 ?_
    have hp29 := hp20.chg0 k29
    have ho29 := ho20.step (Nx.none k29)
    refine ⟨opnI_c (hp29.rd 3 rfl) rfl, ?_⟩
    refine map_lookup M93 K106 Zi3 ho29.h2 (nmT t) ?_
    rw [hM.w (nmT t)]
    refine opnI_c rfl ?_
    by_cases g3 : t.W = widW D0 C0 names (nmT t)
    case neg => exact c_neq g3 (j28 w29 k29 fun g => g3 g.2.1)
    refine c_eq g3 ?_
    have hd29 := hd20.none k29
    have hb := hd29.b
    obtain ⟨oa, oc, mr, ha, hc, hb⟩ := hb
    rw [Addr.add_lit, Addr.add_lit]
    refine opnL_c (hb.blk.cell 0) ?_
    by_cases g4 : (C.es.length : Int) < C0.room
    case neg => exact c_nlt (by omega) (j28 w29 k29 fun g => g4 g.2.2)
    rw [if_pos ⟨g2, g3, g4⟩] at heq
    refine c_lt g4 ?_
    rw [drw_s]
    have kd : Chg None w29 w29.drew := Chg.drew0 w29
    have hp38 := hp29.chg0 kd
    refine ld5 hp38 (opnI_c (hp38.rd 3 rfl) ?_)
    refine numbersOf_word t fun w46 k46 => opnG3 ?_
    refine ⟨opnI_c ((hp38.chg0 k46).rd 3 rfl) rfl, ?_⟩
    have k4 := kd.none_trans k46
    have hd46 := hd29.none k4
    have hrm := hok.room
    have hfl := forget_len (nmT t) C.es
    rw [Nat.zero_add]
    refine lay_word hd46.b (nmT t) t.W (by omega) fun G' w53 hc53 hG' k53 => ⟨rfl, ?_⟩
    obtain ⟨h53, n53⟩ := hd46.own hc53 hG' k53
    have nn : Nx w w53 T1 T1 G1 G' := (Nx.none (k20.none_trans (k29.none_trans k4))).trans n53
    have htok : Pa.okT (tlE (nmT t, t.W)) := by
      cases hg : goodA D0 C0 s with
      | none =>
        have : keepT D0 C0 s = Pa.tz := by unfold keepT; rw [hg]; rfl
        rw [hkt] at this
        rw [this] at g2
        exact absurd g2 (by decide)
      | some u =>
        have : keepT D0 C0 s = u := by unfold keepT; rw [hg]; rfl
        rw [hkt] at this
        subst this
        obtain ⟨e1, e2, _⟩ := goodA_ok hg
        rw [tlE_of e2]
        exact e1
    exact cont w53 T1 G' D (C.lay (nmT t) t.W) hp hr (hok.lay htok (by omega)) h53 nn (by omega) heq
theorem DiskD.read_le (h : DiskD w T d D) (s : Str) : (readB D.toDiskM s).length ≤ 1099511627776 := by
  obtain ⟨ok, σ, M, hm, hr, hf⟩ := h
  rw [← hr.readB ok]
  obtain ⟨nb, lb, ad, ac, xs, hv⟩ := hm
  unfold readB
  split
  · exact Nat.zero_le _
  · split
    · cases hl : Go.Sh.look s M.names with
      | none => exact Nat.zero_le _
      | some f => exact hv.ok.now f (hv.nmF _ (look_mem hl))
    · exact Nat.zero_le _
theorem mem_listA {p n : Str} : n ∈ listA D p → n ∈ D.names.map (·.1) ∧ preB p n = true := fun h => by
  unfold listA at h
  split at h
  · cases h
  · have := List.mem_mergeSort.1 h
    exact ⟨(List.mem_filter.1 this).1, (List.mem_filter.1 this).2⟩
theorem listA_nodup (ok : DOk D) (p : Str) : (listA D p).Nodup := by
  unfold listA
  split
  · exact .nil
  · exact (List.mergeSort_perm _ _).nodup_iff.2 (ok.keysN.filter _)
theorem listA_len (D : DiskA) (p : Str) : (listA D p).length ≤ D.names.length := by
  unfold listA
  split
  · exact Nat.zero_le _
  · rw [List.length_mergeSort]
    exact Nat.le_trans (List.length_filter_le _ _) (by rw [List.length_map]; exact Nat.le_refl _)
theorem preB_len {p n : Str} (h : preB p n = true) : p.length ≤ n.length := by
  unfold preB Go.Lib.hasPrefix at h
  exact (List.isPrefixOf_iff_prefix.1 h).length_le
theorem open_c {name : Str} (hd : DiskD w T d D) (st : Pa.Std w0) (k0 : Chg None w0 w) (low : ∀ k, k < w0.heap.size → T k = .free) (hn : name.length < 4611686018427387904) (hnm : D.names.length ≤ 1000000000) (hac : D.acts < 1099511627770 - 1000000001)
    (hbad : ∀ T' w', (openC name room D).2 ≠ 0 → DiskD w' T' d (openC name room D).1.1 → Chg None w0 w' → (∀ k, k < w.heap.size → T' k = T k) → Chg (Ownd T) w w' → Q (.tuple #[.pointer none, .int .i64 (openC name room D).2]) w')
    (hgood : ∀ T' G' c w', (openC name room D).2 = 0 → Dc w0 w' T' G' d c (openC name room D).1.1 (openC name room D).1.2 → CaOk (openC name room D).1.2 → (∀ k, k < w.heap.size → T' k = T k) → (∀ k, k < w.heap.size → G' k = .no) → Chg (Ownd T) w w' → Q (.tuple #[ptr c, .int .i64 0]) w') :
    C_cache_Open #[ptr d, strv name, .int .i64 room] w Q := by
  refine C_cache_Open_eq _ _ _ _ _ ?_
  refine cnamed_word hn (opnB_c rfl ?_)
  have nothing : ∀ e w', openC name room D = ((D, openM D name room), e) → e ≠ 0 → Chg None w w' → Q (.tuple #[.pointer none, .int .i64 e]) w' := fun e w' he h0 k => by
    have := hbad T w'
    rw [he] at this
    exact this h0 (hd.chg0 k) (k0.none_trans k) (fun _ _ => rfl) (k.mono fun _ _ h => h.elim)
  cases h1 : cnameB name with
  | false => exact nothing 120 w (by unfold openC; rw [if_pos h1]) (by decide) (Chg.refl _ _)
  | true =>
  rw [Bool.not_true, cond_false]
  have o1 : openC name room D = if room < 0 ∨ room > 4096 then ((D, openM D name room), 1)
      else if readE D.toDiskM (preC name ++ headN) = 125 then ((D, openM D name room), 125)
      else if (openL D (openM D name room) (listA D (preC name)) (listA D (preC name)) D (openM D name room)).2 ≠ 0 then openL D (openM D name room) (listA D (preC name)) (listA D (preC name)) D (openM D name room)
      else (((syncNamesD (openL D (openM D name room) (listA D (preC name)) (listA D (preC name)) D (openM D name room)).1.1).1, (openL D (openM D name room) (listA D (preC name)) (listA D (preC name)) D (openM D name room)).1.2), (syncNamesD (openL D (openM D name room) (listA D (preC name)) (listA D (preC name)) D (openM D name room)).1.1).2) := by
    unfold openC
    rw [if_neg (by rw [h1]; simp)]
  by_cases h2 : room < 0
  · refine c_lt h2 (N_cache_Open.j4_eq _ _ (nothing 1 w ?_ (by decide) (Chg.refl _ _)))
    rw [o1, if_pos (.inl h2)]
  refine c_nlt (by omega) ?_
  by_cases h3 : room > 4096
  · refine c_gt h3 (N_cache_Open.j4_eq _ _ (nothing 1 w ?_ (by decide) (Chg.refl _ _)))
    rw [o1, if_pos (.inr h3)]
  refine c_ngt (by omega) ?_
  rw [if_neg (by rintro (g | g) <;> omega)] at o1
  have hnl : name.length ≤ 30 := by
    unfold cnameB at h1
    simp only [Bool.and_eq_true, decide_eq_true_eq] at h1
    exact h1.2.2
  have hpl : (preC name).length ≤ 37 := by
    unfold preC
    simp only [List.length_append]
    show 6 + name.length + 1 ≤ 37
    omega
  have epre : ((⟨#[99, 97, 99, 104, 101, 47]⟩ : ByteArray) ++ (⟨name.toArray⟩ : ByteArray)) ++ (⟨#[47]⟩ : ByteArray) = ⟨(preC name).toArray⟩ := by
    rw [show (⟨#[99, 97, 99, 104, 101, 47]⟩ : ByteArray) ++ (⟨name.toArray⟩ : ByteArray) = ⟨(cacheN ++ name).toArray⟩ from Pa.ba_app cacheN name]
    exact Pa.ba_app (cacheN ++ name) [47]
  have esz : (⟨#[99, 97, 99, 104, 101, 47]⟩ : ByteArray).size = 6 := rfl
  refine ⟨by rw [esz, Pa.ba_size]; omega, ?_, ?_⟩
  · rw [show (⟨#[99, 97, 99, 104, 101, 47]⟩ : ByteArray) ++ (⟨name.toArray⟩ : ByteArray) = ⟨(cacheN ++ name).toArray⟩ from Pa.ba_app cacheN name, Pa.ba_size, List.length_append]
    show 6 + name.length + 1 ≤ _
    omega
  rw [epre]
  refine alC_box fun c w5 hc5 k5 hlo5 => ?_
  let G0 : Gs := fun x => if x = c then .mu else .no
  have g0c : G0 c = .mu := if_pos rfl
  have g0n : ∀ x, x ≠ c → G0 x = .no := fun x hx => if_neg hx
  have hca5 : CaAt w5 G0 c d ⟨preC name, room, [], []⟩ := ⟨none, 0, none, none, 0, {
    size := fun x hx => by
      by_cases g : x = c
      · rw [g]; exact hc5.lt
      · rw [g0n x g] at hx; exact absurd rfl hx
    tag := g0c
    blk := hc5
    ow := Own.nil
    owT := fun x hx => by obtain ⟨p, hp, _⟩ := hx; cases hp
    mp := rfl
    mpT := fun r hr => by cases hr
    hd := Lies.nil
    keys := .nil
    few := Nat.zero_le _ }⟩
  have hk0s := k0.size
  have hdc5 : Dc w0 w5 T G0 d c D ⟨preC name, room, [], []⟩ := ⟨hd.chg0 k5, hca5, fun x hx => by
    by_cases g : x = c
    · rw [g]; exact hd.free hlo5
    · rw [g0n x g] at hx; exact absurd rfl hx, k0.none_trans k5, st, fun x hx => ⟨low x hx, g0n x (by omega)⟩⟩
  refine headFile_word hdc5.b (show (preC name).length ≤ 40 by omega) (opnS_c rfl ?_)
  show C_p_disk_Disk_Read #[ptr d, strv (preC name ++ headN)] w5 _
  have hhl : (preC name ++ headN).length ≤ 41 := by
    rw [List.length_append]
    show _ + 4 ≤ 41
    omega
  refine read_d hdc5.a (preC name ++ headN) (by omega) fun a cc w10 ho hlo10 k10 => ⟨rfl, opnL_c rfl (opnI_c rfl ?_)⟩
  by_cases h4 : readE D.toDiskM (preC name ++ headN) = 125
  · refine c_eq h4 ?_
    rw [h4]
    refine nothing 125 w10 ?_ (by decide) (k5.none_trans k10)
    rw [o1, if_pos h4]
  rw [if_neg h4] at o1
  refine c_neq h4 ?_
  refine head_put hdc5 ho hlo10 k10 fun G1 w14 h14 n14 => ?_
  have hM0 : ({ (⟨preC name, room, [], []⟩ : CaM) with head := readB D.toDiskM (preC name ++ headN) } : CaM) = openM D name room := rfl
  rw [hM0] at h14
  have hok0 : CaOk (openM D name room) := ⟨(show (preC name).length ≤ 40 by omega), ⟨by show 0 ≤ room; omega, by show room ≤ 4096; omega⟩, (fun e he => by cases he), (by show ((0 : Nat) : Int) ≤ room; omega), hd.read_le _⟩
  have hb := h14.b
  obtain ⟨oa, oc, mr, ha, hc, hb⟩ := hb
  refine opnS_c (hb.blk.rd 3 rfl) ?_
  show C_p_disk_Disk_List #[ptr d, strv (preC name)] w14 _
  refine list_d h14.a (preC name) (by omega) fun na nc w17 hn17 hlo17 k17 => opnL_c rfl ?_
  generalize hnames : listA D (preC name) = names at *
  show N_cache_Open.j14 Q (some ⟨d, 0, none⟩) room ⟨c, 0, none⟩ na names.length nc (some w17.heap.size) (some (w17.alloc (.map #[] 0)).heap.size) na names.length nc (names.length : Int) 0 ((w17.alloc (.map #[] 0)).alloc (.map #[] 0))
  have hlenN : names.length ≤ 1000000000 := by rw [← hnames]; exact Nat.le_trans (listA_len _ _) hnm
  have h17 := h14.none k17
  have hm1 : HMap (w17.alloc (.map #[] 0)) strv w17.heap.size ([] : List (Str × Value)) := map_made strv
  have ka : Chg None w17 (w17.alloc (.map #[] 0)) := chg_alloc w17 _
  have hs1 : (w17.alloc (.map #[] 0)).heap.size = w17.heap.size + 1 := by show (w17.heap.push _).size = _; simp
  generalize hr1 : w17.heap.size = r1 at hm1 hs1 ⊢
  generalize w17.alloc (.map #[] 0) = w18 at ka hm1 hs1 ⊢
  have hm2 : HMap (w18.alloc (.map #[] 0)) nmV w18.heap.size ([] : List (Nm × Value)) := map_made nmV
  have kb : Chg None w18 (w18.alloc (.map #[] 0)) := chg_alloc w18 _
  have hm1' := hm1.chg0 kb
  generalize hr2 : w18.heap.size = r2 at hm2 ⊢
  generalize w18.alloc (.map #[] 0) = w22 at kb hm2 hm1' ⊢
  have hprop : ∀ n ∈ names, n.length < 4611686018427387904 ∧ (openM D name room).pre.length ≤ n.length := fun n hn => by
    rw [← hnames] at hn
    obtain ⟨g1, g2⟩ := mem_listA hn
    obtain ⟨x, hx, rfl⟩ := List.mem_map.1 g1
    have := hd.ok.okN x hx
    unfold nameOk at this
    simp only [Bool.and_eq_true, decide_eq_true_eq] at this
    exact ⟨by omega, preB_len g2⟩
  have hnd : names.Nodup := by rw [← hnames]; exact listA_nodup hd.ok _
  have nw14 : ∀ {T' G' w'}, Nx w17 w' T T' G1 G' → (∀ k, k < w.heap.size → T' k = T k) ∧ (∀ k, k < w.heap.size → G' k = .no) ∧ Chg (Ownd T) w w' := fun {T' G' w'} n => by
    have s5 := k5.size
    have s14 := n14.k.size
    have s17 := k17.size
    have hg1 : ∀ x, x < w.heap.size → G1 x = .no := fun x hx => by rw [n14.g x (by omega)]; exact g0n x (by omega)
    refine ⟨fun k hk => n.t k (by omega), fun k hk => by rw [n.g k (by omega)]; exact hg1 k hk, ?_⟩
    have c1 : Chg (Ownd T) w w14 := Chg.trans k5 n14.k (fun _ _ h => h.elim) fun x hx h => by
      rcases h with h | h
      · exact h
      · rw [g0n x (by omega)] at h; cases h
    refine Chg.trans (Chg.trans c1 k17 (fun _ _ h => h) fun _ _ h => h.elim) n.k (fun _ _ h => h) fun x hx h => ?_
    rcases h with h | h
    · exact h
    · rw [hg1 x hx] at h; cases h
  have hnf : ∀ k, At na k → T k = .free ∧ G1 k = .no := fun k hk => ⟨h14.a.free (hlo17 k hk), h14.b.free (hlo17 k hk)⟩
  refine open_loop1 (wB := w17) (D := D) (C := openM D name room) hnd hprop ⟨by omega, by omega⟩ (by omega) h17 hn17 (by omega) (fun w' km wm q1 q2 q3 q4 => ?_) names.length 0 w22 [] [] (by omega) (Nat.zero_le _) hm1' hm2 ⟨fun n => rfl, fun k => rfl⟩ (ka.none_trans kb)
  have hopw : OpW w' T G1 names na nc r1 r2 km wm := ⟨hn17.chg0 q4, hnf, q1, q2, ⟨h17.a.free (by omega), h17.b.free (by omega)⟩, ⟨h17.a.free (by omega), h17.b.free (by omega)⟩⟩
  refine open_loop2 (C0 := openM D name room) (D0 := D) (wB := w17) (G := G1) (T := T) (names := names) hok0.pre (fun n hn => (hprop n hn).1) (by omega) q3 (by omega) (fun T' G' w2 r hr h0 h2 n2 => ?_) (fun T' G' w2 D2 C2 hr h2 n2 => ?_) names [] w' T G1 D (openM D name room) rfl rfl rfl hok0 (h17.none q4) hopw (Nx.none q4) (by omega) rfl
  · rw [hr, if_pos h0] at o1
    obtain ⟨m1, m2, m3⟩ := nw14 n2
    have := hbad T' w2
    rw [o1] at this
    exact this h0 h2.a h2.k0 m1 m3
  · rw [hr] at o1
    rw [if_neg (by simp)] at o1
    have hok2 : CaOk C2 := by
      have := openL_ok (D0 := D) (C0 := openM D name room) (names := names) (l := names) (D := D) hok0 rfl
      rw [hr] at this
      exact this
    have hac2 : D2.acts ≤ D.acts + names.length := by
      have := openL_acts D (openM D name room) names names D (openM D name room)
      rw [hr] at this
      exact this
    apply N_cache_Open.j22_eq
    refine c_nlt (by omega) ?_
    refine syncnames_d h2.a (by omega) fun T3 w3 hd3 hT3 k3 => opnI_c rfl ?_
    obtain ⟨g1, g2⟩ := h2.disk hd3 hT3 k3
    obtain ⟨m1, m2, m3⟩ := nw14 (n2.trans g2)
    by_cases hz : (syncNamesD D2).2 = 0
    · refine c_nne hz ?_
      have := hgood T3 G' c w3
      rw [o1] at this
      exact this hz g1 hok2 m1 m2 m3
    · refine c_ne hz ?_
      have := hbad T3 w3
      rw [o1] at this
      exact this hz hd3 g1.k0 m1 m3
end
end Go.Proofs.YtcigjlbpdkkflaaGreatDoor

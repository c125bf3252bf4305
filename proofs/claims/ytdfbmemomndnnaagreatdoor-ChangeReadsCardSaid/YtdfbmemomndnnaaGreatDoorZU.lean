/-
  The library's functions that the program asks: a number's text, a text cut at a byte, a text read as a number. What they answer, out of the shelf's contracts.
-/
import Derived.Shelf.Strconv.Itoa4
import Derived.Shelf.Strings.Split
import Derived.Shelf.Strconv.ParseIntPublic10
import Derived.Test.YtdfbmemomndnnaaGreatDoorZP
namespace Go.Proofs
open Go.Shelf
def Tryz.lays173_ren : Ren := ⟨fun | 173 => 70 | 246 => 91 | 283 => 108 | 284 => 109 | 285 => 110 | 286 => 111 | 129 => 132 | 317 => 131 | 318 => 133 | 319 => 134 | 320 => 135 | 337 => 149 | 338 => 150 | n => n, fun | 2 => 2 | 3 => 3 | 9 => 9 | 4 => 4 | 171 => 143 | 0 => 0 | 53 => 137 | 37 => 36 | 5 => 5 | 173 => 146 | 212 => 168 | 51 => 169 | 20 => 20 | 213 => 170 | 46 => 100 | 232 => 192 | 233 => 193 | n => n, fun | 17 => 2 | 18 => 6 | 19 => 7 | n => n⟩
theorem Tryz.lays173 : LaysM.n173 Tryz.prog Tryz.lays173_ren := {
  mixed := by kernel_rfl
  f129 := Tryz.func132.trans (congrArg some (by kernel_rfl))
  f173 := Tryz.func70.trans (congrArg some (by kernel_rfl))
  f246 := Tryz.func91.trans (congrArg some (by kernel_rfl))
  f283 := Tryz.func108.trans (congrArg some (by kernel_rfl))
  f284 := Tryz.func109.trans (congrArg some (by kernel_rfl))
  f285 := Tryz.func110.trans (congrArg some (by kernel_rfl))
  f286 := Tryz.func111.trans (congrArg some (by kernel_rfl))
  f317 := Tryz.func131.trans (congrArg some (by kernel_rfl))
  f318 := Tryz.func133.trans (congrArg some (by kernel_rfl))
  f319 := Tryz.func134.trans (congrArg some (by kernel_rfl))
  f320 := Tryz.func135.trans (congrArg some (by kernel_rfl))
  f337 := Tryz.func149.trans (congrArg some (by kernel_rfl))
  f338 := Tryz.func150.trans (congrArg some (by kernel_rfl))
  t0 := Tryz.underlying0
  a0 := Tryz.isAgg0
  z0 := Tryz.sizeOf0
  v0 := Tryz.zeroValue0
  t2 := Tryz.underlying2
  a2 := Tryz.isAgg2
  z2 := Tryz.sizeOf2
  v2 := Tryz.zeroValue2
  t3 := Tryz.underlying3
  a3 := Tryz.isAgg3
  z3 := Tryz.sizeOf3
  v3 := Tryz.zeroValue3
  t4 := Tryz.underlying4
  a4 := Tryz.isAgg4
  z4 := Tryz.sizeOf4
  v4 := Tryz.zeroValue4
  t5 := Tryz.underlying5
  a5 := Tryz.isAgg5
  z5 := Tryz.sizeOf5
  v5 := Tryz.zeroValue5
  t9 := Tryz.underlying9
  a9 := Tryz.isAgg9
  z9 := Tryz.sizeOf9
  v9 := Tryz.zeroValue9
  t20 := Tryz.underlying20
  a20 := Tryz.isAgg20
  z20 := Tryz.sizeOf20
  v20 := Tryz.zeroValue20
  t37 := Tryz.underlying36
  a37 := Tryz.isAgg36
  z37 := Tryz.sizeOf36
  v37 := Tryz.zeroValue36
  t46 := Tryz.underlying100
  a46 := Tryz.isAgg100
  z46 := Tryz.sizeOf100
  v46 := Tryz.zeroValue100
  t51 := Tryz.underlying169
  a51 := Tryz.isAgg169
  z51 := Tryz.sizeOf169
  v51 := Tryz.zeroValue169
  t53 := Tryz.underlying137
  a53 := Tryz.isAgg137
  z53 := Tryz.sizeOf137
  v53 := Tryz.zeroValue137
  t171 := Tryz.underlying143
  a171 := Tryz.isAgg143
  z171 := Tryz.sizeOf143
  v171 := Tryz.zeroValue143
  t173 := Tryz.underlying146
  a173 := Tryz.isAgg146
  z173 := Tryz.sizeOf146
  v173 := Tryz.zeroValue146
  t212 := Tryz.underlying168
  a212 := Tryz.isAgg168
  z212 := Tryz.sizeOf168
  v212 := Tryz.zeroValue168
  t213 := Tryz.underlying170
  a213 := Tryz.isAgg170
  z213 := Tryz.sizeOf170
  t232 := Tryz.underlying192
  a232 := Tryz.isAgg192
  z232 := Tryz.sizeOf192
  v232 := Tryz.zeroValue192
  t233 := Tryz.underlying193
  a233 := Tryz.isAgg193
  z233 := Tryz.sizeOf193
  v233 := Tryz.zeroValue193
  g17 := by kernel_rfl
  g18 := by kernel_rfl
  g19 := by kernel_rfl
  i0 := by kernel_rfl
  i2 := by kernel_rfl
  i3 := by kernel_rfl
  i4 := by kernel_rfl
  i5 := by kernel_rfl
  i9 := by kernel_rfl
  i20 := by kernel_rfl
  i37 := by kernel_rfl
  i46 := by kernel_rfl
  i51 := by kernel_rfl
  i53 := by kernel_rfl
  i171 := by kernel_rfl
  i173 := by kernel_rfl
  i212 := by kernel_rfl
  i232 := by kernel_rfl
  i233 := by kernel_rfl
  m17 := by kernel_rfl
  m18 := by kernel_rfl
  m19 := by kernel_rfl }
def Tryz.lays171_ren : Ren := ⟨fun | 171 => 71 | 243 => 92 | 246 => 91 | 283 => 108 | 284 => 109 | 285 => 110 | 286 => 111 | 129 => 132 | 317 => 131 | 318 => 133 | 319 => 134 | 320 => 135 | 337 => 149 | 338 => 150 | n => n, fun | 3 => 3 | 9 => 9 | 2 => 2 | 4 => 4 | 171 => 143 | 0 => 0 | 53 => 137 | 37 => 36 | 5 => 5 | 173 => 146 | 212 => 168 | 51 => 169 | 20 => 20 | 213 => 170 | 46 => 100 | 232 => 192 | 233 => 193 | n => n, fun | 17 => 2 | 18 => 6 | 19 => 7 | n => n⟩
theorem Tryz.lays171 : LaysM.n171 Tryz.prog Tryz.lays171_ren := {
  mixed := by kernel_rfl
  f129 := Tryz.func132.trans (congrArg some (by kernel_rfl))
  f171 := Tryz.func71.trans (congrArg some (by kernel_rfl))
  f243 := Tryz.func92.trans (congrArg some (by kernel_rfl))
  f246 := Tryz.func91.trans (congrArg some (by kernel_rfl))
  f283 := Tryz.func108.trans (congrArg some (by kernel_rfl))
  f284 := Tryz.func109.trans (congrArg some (by kernel_rfl))
  f285 := Tryz.func110.trans (congrArg some (by kernel_rfl))
  f286 := Tryz.func111.trans (congrArg some (by kernel_rfl))
  f317 := Tryz.func131.trans (congrArg some (by kernel_rfl))
  f318 := Tryz.func133.trans (congrArg some (by kernel_rfl))
  f319 := Tryz.func134.trans (congrArg some (by kernel_rfl))
  f320 := Tryz.func135.trans (congrArg some (by kernel_rfl))
  f337 := Tryz.func149.trans (congrArg some (by kernel_rfl))
  f338 := Tryz.func150.trans (congrArg some (by kernel_rfl))
  t0 := Tryz.underlying0
  a0 := Tryz.isAgg0
  z0 := Tryz.sizeOf0
  v0 := Tryz.zeroValue0
  t2 := Tryz.underlying2
  a2 := Tryz.isAgg2
  z2 := Tryz.sizeOf2
  v2 := Tryz.zeroValue2
  t3 := Tryz.underlying3
  a3 := Tryz.isAgg3
  z3 := Tryz.sizeOf3
  v3 := Tryz.zeroValue3
  t4 := Tryz.underlying4
  a4 := Tryz.isAgg4
  z4 := Tryz.sizeOf4
  v4 := Tryz.zeroValue4
  t5 := Tryz.underlying5
  a5 := Tryz.isAgg5
  z5 := Tryz.sizeOf5
  v5 := Tryz.zeroValue5
  t9 := Tryz.underlying9
  a9 := Tryz.isAgg9
  z9 := Tryz.sizeOf9
  v9 := Tryz.zeroValue9
  t20 := Tryz.underlying20
  a20 := Tryz.isAgg20
  z20 := Tryz.sizeOf20
  v20 := Tryz.zeroValue20
  t37 := Tryz.underlying36
  a37 := Tryz.isAgg36
  z37 := Tryz.sizeOf36
  v37 := Tryz.zeroValue36
  t46 := Tryz.underlying100
  a46 := Tryz.isAgg100
  z46 := Tryz.sizeOf100
  v46 := Tryz.zeroValue100
  t51 := Tryz.underlying169
  a51 := Tryz.isAgg169
  z51 := Tryz.sizeOf169
  v51 := Tryz.zeroValue169
  t53 := Tryz.underlying137
  a53 := Tryz.isAgg137
  z53 := Tryz.sizeOf137
  v53 := Tryz.zeroValue137
  t171 := Tryz.underlying143
  a171 := Tryz.isAgg143
  z171 := Tryz.sizeOf143
  v171 := Tryz.zeroValue143
  t173 := Tryz.underlying146
  a173 := Tryz.isAgg146
  z173 := Tryz.sizeOf146
  v173 := Tryz.zeroValue146
  t212 := Tryz.underlying168
  a212 := Tryz.isAgg168
  z212 := Tryz.sizeOf168
  v212 := Tryz.zeroValue168
  t213 := Tryz.underlying170
  a213 := Tryz.isAgg170
  z213 := Tryz.sizeOf170
  t232 := Tryz.underlying192
  a232 := Tryz.isAgg192
  z232 := Tryz.sizeOf192
  v232 := Tryz.zeroValue192
  t233 := Tryz.underlying193
  a233 := Tryz.isAgg193
  z233 := Tryz.sizeOf193
  v233 := Tryz.zeroValue193
  g17 := by kernel_rfl
  g18 := by kernel_rfl
  g19 := by kernel_rfl
  i0 := by kernel_rfl
  i2 := by kernel_rfl
  i3 := by kernel_rfl
  i4 := by kernel_rfl
  i5 := by kernel_rfl
  i9 := by kernel_rfl
  i20 := by kernel_rfl
  i37 := by kernel_rfl
  i46 := by kernel_rfl
  i51 := by kernel_rfl
  i53 := by kernel_rfl
  i171 := by kernel_rfl
  i173 := by kernel_rfl
  i212 := by kernel_rfl
  i232 := by kernel_rfl
  i233 := by kernel_rfl
  m17 := by kernel_rfl
  m18 := by kernel_rfl
  m19 := by kernel_rfl }
def Tryz.lays146_ren : Ren := ⟨fun | 146 => 65 | 221 => 87 | 268 => 100 | 138 => 101 | 143 => 102 | 195 => 123 | 197 => 124 | 218 => 125 | 219 => 126 | 260 => 144 | 217 => 145 | 225 => 146 | 224 => 147 | 267 => 148 | 266 => 158 | 314 => 159 | n => n, fun | 9 => 9 | 31 => 42 | 3 => 3 | 4 => 4 | 0 => 0 | 105 => 159 | 21 => 21 | 5 => 5 | 46 => 100 | 119 => 186 | 139 => 189 | 138 => 188 | 146 => 190 | 51 => 169 | n => n, fun | 1 => 3 | 3 => 4 | 4 => 5 | n => n⟩
theorem Tryz.lays146 : Lays.n146 Tryz.prog Tryz.lays146_ren := {
  mixed := by kernel_rfl
  f138 := Tryz.func101.trans (congrArg some (by kernel_rfl))
  f143 := Tryz.func102.trans (congrArg some (by kernel_rfl))
  f146 := Tryz.func65.trans (congrArg some (by kernel_rfl))
  f195 := Tryz.func123.trans (congrArg some (by kernel_rfl))
  f197 := Tryz.func124.trans (congrArg some (by kernel_rfl))
  f217 := Tryz.func145.trans (congrArg some (by kernel_rfl))
  f218 := Tryz.func125.trans (congrArg some (by kernel_rfl))
  f219 := Tryz.func126.trans (congrArg some (by kernel_rfl))
  f221 := Tryz.func87.trans (congrArg some (by kernel_rfl))
  f224 := Tryz.func147.trans (congrArg some (by kernel_rfl))
  f225 := Tryz.func146.trans (congrArg some (by kernel_rfl))
  f260 := Tryz.func144.trans (congrArg some (by kernel_rfl))
  f266 := Tryz.func158.trans (congrArg some (by kernel_rfl))
  f267 := Tryz.func148.trans (congrArg some (by kernel_rfl))
  f268 := Tryz.func100.trans (congrArg some (by kernel_rfl))
  f314 := Tryz.func159.trans (congrArg some (by kernel_rfl))
  t0 := Tryz.underlying0
  a0 := Tryz.isAgg0
  z0 := Tryz.sizeOf0
  v0 := Tryz.zeroValue0
  t3 := Tryz.underlying3
  a3 := Tryz.isAgg3
  z3 := Tryz.sizeOf3
  v3 := Tryz.zeroValue3
  t4 := Tryz.underlying4
  a4 := Tryz.isAgg4
  z4 := Tryz.sizeOf4
  v4 := Tryz.zeroValue4
  t5 := Tryz.underlying5
  a5 := Tryz.isAgg5
  z5 := Tryz.sizeOf5
  v5 := Tryz.zeroValue5
  t9 := Tryz.underlying9
  a9 := Tryz.isAgg9
  z9 := Tryz.sizeOf9
  v9 := Tryz.zeroValue9
  t21 := Tryz.underlying21
  a21 := Tryz.isAgg21
  z21 := Tryz.sizeOf21
  v21 := Tryz.zeroValue21
  t31 := Tryz.underlying42
  a31 := Tryz.isAgg42
  z31 := Tryz.sizeOf42
  v31 := Tryz.zeroValue42
  t46 := Tryz.underlying100
  a46 := Tryz.isAgg100
  z46 := Tryz.sizeOf100
  v46 := Tryz.zeroValue100
  t51 := Tryz.underlying169
  a51 := Tryz.isAgg169
  z51 := Tryz.sizeOf169
  v51 := Tryz.zeroValue169
  t105 := Tryz.underlying159
  a105 := Tryz.isAgg159
  z105 := Tryz.sizeOf159
  v105 := Tryz.zeroValue159
  t119 := Tryz.underlying186
  a119 := Tryz.isAgg186
  z119 := Tryz.sizeOf186
  t138 := Tryz.underlying188
  a138 := Tryz.isAgg188
  z138 := Tryz.sizeOf188
  v138 := Tryz.zeroValue188
  t139 := Tryz.underlying189
  a139 := Tryz.isAgg189
  z139 := Tryz.sizeOf189
  v139 := Tryz.zeroValue189
  t146 := Tryz.underlying190
  a146 := Tryz.isAgg190
  z146 := Tryz.sizeOf190
  v146 := Tryz.zeroValue190
  g1 := by kernel_rfl
  g3 := by kernel_rfl
  g4 := by kernel_rfl }
def Tryz.lays174_ren : Ren := ⟨fun | 174 => 66 | 247 => 88 | 245 => 89 | 287 => 103 | 279 => 104 | 280 => 105 | 281 => 106 | 282 => 107 | 321 => 127 | 322 => 128 | 316 => 129 | 171 => 71 | 205 => 130 | 243 => 92 | 246 => 91 | 283 => 108 | 284 => 109 | 285 => 110 | 286 => 111 | 129 => 132 | 317 => 131 | 318 => 133 | 319 => 134 | 320 => 135 | 337 => 149 | 338 => 150 | n => n, fun | 9 => 9 | 3 => 3 | 2 => 2 | 75 => 104 | 85 => 105 | 4 => 4 | 167 => 136 | 5 => 5 | 53 => 137 | 175 => 138 | 46 => 100 | 168 => 140 | 37 => 36 | 0 => 0 | 210 => 164 | 21 => 21 | 127 => 177 | 145 => 180 | 143 => 178 | 171 => 143 | 173 => 146 | 212 => 168 | 51 => 169 | 20 => 20 | 213 => 170 | 232 => 192 | 233 => 193 | 80 => 195 | n => n, fun | 15 => 0 | 16 => 1 | 17 => 2 | 18 => 6 | 19 => 7 | n => n⟩
theorem Tryz.lays174 : LaysC.n174 Tryz.prog Tryz.lays174_ren := {
  mixed := by kernel_rfl
  f129 := Tryz.func132.trans (congrArg some (by kernel_rfl))
  f171 := Tryz.func71.trans (congrArg some (by kernel_rfl))
  f174 := Tryz.func66.trans (congrArg some (by kernel_rfl))
  f205 := Tryz.func130.trans (congrArg some (by kernel_rfl))
  f243 := Tryz.func92.trans (congrArg some (by kernel_rfl))
  f245 := Tryz.func89.trans (congrArg some (by kernel_rfl))
  f246 := Tryz.func91.trans (congrArg some (by kernel_rfl))
  f247 := Tryz.func88.trans (congrArg some (by kernel_rfl))
  f279 := Tryz.func104.trans (congrArg some (by kernel_rfl))
  f280 := Tryz.func105.trans (congrArg some (by kernel_rfl))
  f281 := Tryz.func106.trans (congrArg some (by kernel_rfl))
  f282 := Tryz.func107.trans (congrArg some (by kernel_rfl))
  f283 := Tryz.func108.trans (congrArg some (by kernel_rfl))
  f284 := Tryz.func109.trans (congrArg some (by kernel_rfl))
  f285 := Tryz.func110.trans (congrArg some (by kernel_rfl))
  f286 := Tryz.func111.trans (congrArg some (by kernel_rfl))
  f287 := Tryz.func103.trans (congrArg some (by kernel_rfl))
  f316 := Tryz.func129.trans (congrArg some (by kernel_rfl))
  f317 := Tryz.func131.trans (congrArg some (by kernel_rfl))
  f318 := Tryz.func133.trans (congrArg some (by kernel_rfl))
  f319 := Tryz.func134.trans (congrArg some (by kernel_rfl))
  f320 := Tryz.func135.trans (congrArg some (by kernel_rfl))
  f321 := Tryz.func127.trans (congrArg some (by kernel_rfl))
  f322 := Tryz.func128.trans (congrArg some (by kernel_rfl))
  f337 := Tryz.func149.trans (congrArg some (by kernel_rfl))
  f338 := Tryz.func150.trans (congrArg some (by kernel_rfl))
  t0 := Tryz.underlying0
  a0 := Tryz.isAgg0
  z0 := Tryz.sizeOf0
  v0 := Tryz.zeroValue0
  t2 := Tryz.underlying2
  a2 := Tryz.isAgg2
  z2 := Tryz.sizeOf2
  v2 := Tryz.zeroValue2
  t3 := Tryz.underlying3
  a3 := Tryz.isAgg3
  z3 := Tryz.sizeOf3
  v3 := Tryz.zeroValue3
  t4 := Tryz.underlying4
  a4 := Tryz.isAgg4
  z4 := Tryz.sizeOf4
  v4 := Tryz.zeroValue4
  t5 := Tryz.underlying5
  a5 := Tryz.isAgg5
  z5 := Tryz.sizeOf5
  v5 := Tryz.zeroValue5
  t9 := Tryz.underlying9
  a9 := Tryz.isAgg9
  z9 := Tryz.sizeOf9
  v9 := Tryz.zeroValue9
  t20 := Tryz.underlying20
  a20 := Tryz.isAgg20
  z20 := Tryz.sizeOf20
  v20 := Tryz.zeroValue20
  t21 := Tryz.underlying21
  a21 := Tryz.isAgg21
  z21 := Tryz.sizeOf21
  v21 := Tryz.zeroValue21
  t37 := Tryz.underlying36
  a37 := Tryz.isAgg36
  z37 := Tryz.sizeOf36
  v37 := Tryz.zeroValue36
  t46 := Tryz.underlying100
  a46 := Tryz.isAgg100
  z46 := Tryz.sizeOf100
  v46 := Tryz.zeroValue100
  t51 := Tryz.underlying169
  a51 := Tryz.isAgg169
  z51 := Tryz.sizeOf169
  v51 := Tryz.zeroValue169
  t53 := Tryz.underlying137
  a53 := Tryz.isAgg137
  z53 := Tryz.sizeOf137
  v53 := Tryz.zeroValue137
  t75 := Tryz.underlying104
  a75 := Tryz.isAgg104
  z75 := Tryz.sizeOf104
  v75 := Tryz.zeroValue104
  t85 := Tryz.underlying105
  a85 := Tryz.isAgg105
  z85 := Tryz.sizeOf105
  v85 := Tryz.zeroValue105
  t127 := Tryz.underlying177
  a127 := Tryz.isAgg177
  z127 := Tryz.sizeOf177
  v127 := Tryz.zeroValue177
  t143 := Tryz.underlying178
  a143 := Tryz.isAgg178
  z143 := Tryz.sizeOf178
  v143 := Tryz.zeroValue178
  t145 := Tryz.underlying180
  a145 := Tryz.isAgg180
  z145 := Tryz.sizeOf180
  v145 := Tryz.zeroValue180
  t167 := Tryz.underlying136
  a167 := Tryz.isAgg136
  z167 := Tryz.sizeOf136
  v167 := Tryz.zeroValue136
  t168 := Tryz.underlying140
  a168 := Tryz.isAgg140
  z168 := Tryz.sizeOf140
  v168 := Tryz.zeroValue140
  t171 := Tryz.underlying143
  a171 := Tryz.isAgg143
  z171 := Tryz.sizeOf143
  v171 := Tryz.zeroValue143
  t173 := Tryz.underlying146
  a173 := Tryz.isAgg146
  z173 := Tryz.sizeOf146
  v173 := Tryz.zeroValue146
  t175 := Tryz.underlying138
  a175 := Tryz.isAgg138
  z175 := Tryz.sizeOf138
  v175 := Tryz.zeroValue138
  t210 := Tryz.underlying164
  a210 := Tryz.isAgg164
  z210 := Tryz.sizeOf164
  v210 := Tryz.zeroValue164
  t212 := Tryz.underlying168
  a212 := Tryz.isAgg168
  z212 := Tryz.sizeOf168
  v212 := Tryz.zeroValue168
  t213 := Tryz.underlying170
  a213 := Tryz.isAgg170
  z213 := Tryz.sizeOf170
  t232 := Tryz.underlying192
  a232 := Tryz.isAgg192
  z232 := Tryz.sizeOf192
  v232 := Tryz.zeroValue192
  t233 := Tryz.underlying193
  a233 := Tryz.isAgg193
  z233 := Tryz.sizeOf193
  v233 := Tryz.zeroValue193
  g15 := by kernel_rfl
  g16 := by kernel_rfl
  g17 := by kernel_rfl
  g18 := by kernel_rfl
  g19 := by kernel_rfl
  t80 := Tryz.underlying195
  a80 := Tryz.isAgg195
  z80 := Tryz.sizeOf195
  v80 := Tryz.zeroValue195
  i0 := by kernel_rfl
  i2 := by kernel_rfl
  i3 := by kernel_rfl
  i4 := by kernel_rfl
  i5 := by kernel_rfl
  i9 := by kernel_rfl
  i20 := by kernel_rfl
  i21 := by kernel_rfl
  i37 := by kernel_rfl
  i46 := by kernel_rfl
  i51 := by kernel_rfl
  i53 := by kernel_rfl
  i75 := by kernel_rfl
  i80 := by kernel_rfl
  i85 := by kernel_rfl
  i127 := by kernel_rfl
  i143 := by kernel_rfl
  i145 := by kernel_rfl
  i167 := by kernel_rfl
  i168 := by kernel_rfl
  i171 := by kernel_rfl
  i173 := by kernel_rfl
  i175 := by kernel_rfl
  i210 := by kernel_rfl
  i212 := by kernel_rfl
  i232 := by kernel_rfl
  i233 := by kernel_rfl
  m15 := by kernel_rfl
  m16 := by kernel_rfl
  m17 := by kernel_rfl
  m18 := by kernel_rfl
  m19 := by kernel_rfl
  c0 := by kernel_rfl
  c2 := by kernel_rfl
  c3 := by kernel_rfl
  c4 := by kernel_rfl
  c5 := by kernel_rfl
  c9 := by kernel_rfl
  c20 := by kernel_rfl
  c21 := by kernel_rfl
  c37 := by kernel_rfl
  c46 := by kernel_rfl
  c51 := by kernel_rfl
  c53 := by kernel_rfl
  c75 := by kernel_rfl
  c80 := by kernel_rfl
  c85 := by kernel_rfl
  c127 := by kernel_rfl
  c143 := by kernel_rfl
  c145 := by kernel_rfl
  c167 := by kernel_rfl
  c168 := by kernel_rfl
  c171 := by kernel_rfl
  c173 := by kernel_rfl
  c175 := by kernel_rfl
  c210 := by kernel_rfl
  c212 := by kernel_rfl
  c213 := by kernel_rfl
  c232 := by kernel_rfl
  c233 := by kernel_rfl }
end Go.Proofs
namespace Go.Ev
open Go.Proofs Go.Shelf Go.RowKit Go.Sort
/-- What must lie at the library's global variables. -/
structure TabOk (T : Tab) : Prop where
  pow : ∃ ty sp, T 2 (.cells (Lib.pow10Tab.map fun z => Value.int .u64 z).toArray ty sp)
  mx : ∃ m cs ty sp, T 3 (.cells cs ty sp) ∧ cs[0]? = some (.int .i64 m)
  syn : ∃ ev cs ty sp, T 0 (.cells cs ty sp) ∧ cs[0]? = some ev ∧ (ev = .nilIface ∨ ∃ te pe, ev = .iface te pe)
  rng : ∃ ev cs ty sp, T 1 (.cells cs ty sp) ∧ cs[0]? = some ev ∧ (ev = .nilIface ∨ ∃ te pe, ev = .iface te pe)
theorem prim {T : Tab} {f : FuncId} {fn : Func} (hf : Tryz.prog.funcs[f]? = some fn) (hb : fn.body.isSome = true) {args : List V} {r : V} (hd : dataR r = true)
    (h : ∀ (om : Nat → Nat) (S : Prot) (w : World) (vals : List Value), All2 (RD (argCx om) S w) vals args → (∀ g o, S g o → g < w.heap.size) → (∀ g b, T g b → S g 0 ∧ w.heap[g]? = some b) →
      Calls Tryz.prog f vals.toArray w fun e w' => ∃ v, e = .returned v ∧ Below w.heap.size w w' ∧ ∃ S' : Prot, (∀ g o, S g o → S' g o) ∧ (∀ g o, S' g o → g < w.heap.size → S g o) ∧ (∀ g o, S' g o → g < w'.heap.size) ∧ RD (argCx om) S' w' v r) :
    Answers Tryz.prog T f args [] r [] := by
  intro om S w vals hargs _ _ _ _ hlt htb
  have hnm : (fn.name == "runtime.NumGoroutine") = false := by have := List.all_eq_true.1 namesOk fn (Array.mem_toList_iff.2 (Array.mem_of_getElem? hf)); simpa using this
  obtain ⟨code, hb⟩ := Option.isSome_iff_exists.1 hb
  have hrun : (callFunc f vals.toArray).run Tryz.prog w = .ok (.enter f vals.toArray) w := by
    simp only [callFunc, Sem.run_bind, run_program, Result.andThen_ok, hf, hnm, hb]
    rfl
  refine .inr ⟨hrun, (h om S w vals hargs hlt htb).mono ?_⟩
  rintro e w' ⟨v, rfl, hbl, S', h1, h2, h3, h4⟩
  exact ⟨S', h1, h2, h3, ⟨fun g hg _ => hbl.block g hg, hbl.size, hbl.os, hbl.tape, hbl.output⟩, rfl, (fun j cs hj => by simp at hj), (fun cs hc => by cases hc), h4, hd⟩
theorem tab_pow {T : Tab} (ht : TabOk T) {S : Prot} {w : World} (htb : ∀ g b, T g b → S g 0 ∧ w.heap[g]? = some b) : Lib.TabIs Tryz.prog w "internal/strconv.uint64pow10" .u64 Lib.pow10Tab := by
  obtain ⟨ty, sp, hT⟩ := ht.pow
  have hg : Tryz.prog.globalNamed "internal/strconv.uint64pow10" = some 2 := by kernel_rfl
  unfold Lib.TabIs World.var?
  rw [hg, Option.bind_some, (htb _ _ hT).2]
theorem grow_below (w : World) (k : Nat) (os : Array Obj) : Below w.heap.size w (grow (w.drewN k) os) := ⟨rfl, rfl, rfl, by simp [grow, World.drewN], fun g hg => by simp [grow, World.drewN, Array.getElem?_append_left hg]⟩
theorem heap_new (w : World) (o : Obj) : (w.alloc o).heap[w.heap.size]? = some o := by
  show (w.heap.push o)[w.heap.size]? = some o
  simp
theorem isI64_of {n : Int} (h : Sp.isI64 n = true) : -9223372036854775808 ≤ n ∧ n ≤ 9223372036854775807 := by
  unfold Sp.isI64 at h; simpa using h
theorem f70_at : Tryz.prog.funcs[70]? = some Tryz.f70 := by kernel_rfl
theorem f71_at : Tryz.prog.funcs[71]? = some Tryz.f71 := by kernel_rfl
theorem f65_at : Tryz.prog.funcs[65]? = some Tryz.f65 := by kernel_rfl
theorem f66_at : Tryz.prog.funcs[66]? = some Tryz.f66 := by kernel_rfl
theorem ok70 {T : Tab} (ht : TabOk T) : SpecOk T 70 sp70 := by
  intro args outs r outs' h
  unfold sp70 at h
  split at h
  · rename_i n
    simp only [Option.some.injEq, Prod.mk.injEq] at h
    obtain ⟨hn, rfl, rfl⟩ := h
    refine prim f70_at (by kernel_rfl) rfl fun om S w vals hv hlt htb => ?_
    match vals, hv with
    | [a, b], hv =>
      obtain rfl : a = .int .i64 n := RD_iff.1 hv.1
      obtain rfl : b = .int .i64 10 := RD_iff.1 hv.2.1
      refine (Any.strconv_FormatInt_10 Tryz.lays173 n (isI64_of hn).1 (isI64_of hn).2 w (tab_pow ht htb)).mono ?_
      rintro e w' ⟨rfl, k, os, rfl⟩
      exact ⟨_, rfl, grow_below w k os, S, fun _ _ h => h, fun _ _ h _ => h, fun g o h => Nat.lt_of_lt_of_le (hlt g o h) (grow_below w k os).size, RD_iff.2 rfl⟩
  · cases h
theorem ok71 {T : Tab} (ht : TabOk T) : SpecOk T 71 sp71 := by
  intro args outs r outs' h
  unfold sp71 at h
  split at h
  · rename_i n
    simp only [Option.some.injEq, Prod.mk.injEq] at h
    obtain ⟨hn, rfl, rfl⟩ := h
    refine prim f71_at (by kernel_rfl) rfl fun om S w vals hv hlt htb => ?_
    match vals, hv with
    | [a], hv =>
      obtain rfl : a = .int .i64 n := RD_iff.1 hv.1
      refine (Any.strconv_Itoa Tryz.lays171 n (isI64_of hn).1 (isI64_of hn).2 w (tab_pow ht htb)).mono ?_
      rintro e w' ⟨rfl, k, os, rfl⟩
      exact ⟨_, rfl, grow_below w k os, S, fun _ _ h => h, fun _ _ h _ => h, fun g o h => Nat.lt_of_lt_of_le (hlt g o h) (grow_below w k os).size, RD_iff.2 rfl⟩
  · cases h
/-- A text cut at a dot. -/
def sp65 : Spec | [.str s, .str [46]], [] => some (Nat.blt s.length 4294967281, .sl .str (Lib.split s [46]), []) | _, _ => none
/-- A text read as a number: the number, and whether it is one. -/
def Sp.numN (s : Str) : Int := match Lib.parseIntB 64 s with
  | .ok n => n
  | .range => Lib.intSat 64 s
  | _ => 0
def Sp.numK (s : Str) : Bool := match Lib.parseIntB 64 s with
  | .ok _ => true
  | _ => false
def sp66 : Spec | [.str s, .int .i64 10, .int .i64 64], [] => some (Nat.ble s.length 281474976710656, .tup [.int .i64 (Sp.numN s), .errq (Sp.numK s)], []) | _, _ => none
theorem size_str (s : Str) : (⟨s.toArray⟩ : ByteArray).size = s.length := by simp [ByteArray.size]
theorem ok65 {T : Tab} (ht : TabOk T) : SpecOk T 65 sp65 := by
  intro args outs r outs' h
  unfold sp65 at h
  split at h
  · rename_i s
    simp only [Option.some.injEq, Prod.mk.injEq] at h
    obtain ⟨hn, rfl, rfl⟩ := h
    have hn := Nat.le_of_ble_eq_true hn
    refine prim f65_at (by kernel_rfl) rfl fun om S w vals hv hlt htb => ?_
    match vals, hv with
    | [a, b], hv =>
      obtain rfl : a = .string ⟨s.toArray⟩ := RD_iff.1 hv.1
      obtain rfl : b = .string ⟨[46].toArray⟩ := RD_iff.1 hv.2.1
      obtain ⟨m, cs, ty, sp, hT, hm⟩ := ht.mx
      have hcell : w.cell? ⟨(Tryz.lays146_ren.g 1), 0, none⟩ = some (.int .i64 m) := by
        show w.cell? ⟨3, 0, none⟩ = _
        simp [World.cell?, (htb _ _ hT).2, hm]
      refine (Any.strings_Split Tryz.lays146 (by kernel_rfl) ⟨s.toArray⟩ ⟨[46].toArray⟩ m w (by rw [size_str]; omega) hcell (by decide)).mono ?_
      rintro e w' ⟨rfl, rfl⟩
      have hd := Lib.splitB_data ⟨[46].toArray⟩ 0 (Lib.countB ⟨s.toArray⟩ ⟨[46].toArray⟩) ⟨s.toArray⟩
      have hlen := Lib.splitB_all ⟨[46].toArray⟩ (by decide) 0 _ ⟨s.toArray⟩ rfl
      generalize hc : Lib.splitB ⟨[46].toArray⟩ 0 (Lib.countB ⟨s.toArray⟩ ⟨[46].toArray⟩) ⟨s.toArray⟩ = bs at hd hlen
      have hl : Lib.split s [46] = bs.map (·.data.toList) := hd.symm
      have hll : (Lib.split s [46]).length = Lib.countB ⟨s.toArray⟩ ⟨[46].toArray⟩ + 1 := by rw [hl, List.length_map]; omega
      refine ⟨_, rfl, ⟨rfl, rfl, rfl, by rw [World.size_alloc]; omega, fun g hg => Below.heap_alloc w _ g hg⟩, fun g o => S g o ∨ g = w.heap.size, fun _ _ h => .inl h, fun g o h hg => h.resolve_right (Nat.ne_of_lt hg), ?_, ?_⟩
      · rintro g o (h | rfl)
        · exact Nat.lt_of_lt_of_le (hlt g o h) (by rw [World.size_alloc]; omega)
        · rw [World.size_alloc]; omega
      · refine RD_iff.2 ⟨some ⟨w.heap.size, 0, none⟩, Lib.countB ⟨s.toArray⟩ ⟨[46].toArray⟩ + 1, congrArg (fun q => Value.slice (some ⟨w.heap.size, 0, none⟩) q (Lib.countB ⟨s.toArray⟩ ⟨[46].toArray⟩ + 1)) hll.symm, Nat.le_of_eq hll, fun i x hx => ?_⟩
        have hx : (bs.map (·.data.toList))[i]? = some x := hl ▸ hx
        rw [List.getElem?_map] at hx
        obtain ⟨b, hb, rfl⟩ := Option.map_eq_some_iff.1 hx
        refine ⟨w.heap.size, 0, [.string b], rfl, ⟨RD_iff.2 rfl, trivial⟩, fun j y hj => ⟨.inr rfl, ?_⟩⟩
        cases j with
        | succ j => simp at hj
        | zero =>
          simp only [List.getElem?_cons_zero, Option.some.injEq] at hj
          subst hj
          have h1 := heap_new w (.cells ((bs.map Value.string).toArray) (Tryz.lays146_ren.t 9) (0, 0))
          simp only [World.cell?]
          rw [h1]
          simp [K.size, hb]
  · cases h
theorem ok66 {T : Tab} (ht : TabOk T) : SpecOk T 66 sp66 := by
  intro args outs r outs' h
  unfold sp66 at h
  split at h
  · rename_i s
    simp only [Option.some.injEq, Prod.mk.injEq] at h
    obtain ⟨hn, rfl, rfl⟩ := h
    have hn := Nat.le_of_ble_eq_true hn
    refine prim f66_at (by kernel_rfl) rfl fun om S w vals hv hlt htb => ?_
    match vals, hv with
    | [a, b, c], hv =>
      obtain rfl : a = .string ⟨s.toArray⟩ := RD_iff.1 hv.1
      obtain rfl : b = .int .i64 10 := RD_iff.1 hv.2.1
      obtain rfl : c = .int .i64 64 := RD_iff.1 hv.2.2.1
      have hs := size_str s
      rcases hp : Lib.parseIntB 64 s with n | _ | _
      · have e1 : Sp.numN s = n := by unfold Sp.numN; rw [hp]
        have e2 : Sp.numK s = true := by unfold Sp.numK; rw [hp]
        rw [e1, e2]
        refine (Any.strconv_ParseInt_10_at64_ok Tryz.lays174 ⟨s.toArray⟩ (by omega) n hp w).mono ?_
        rintro e w' ⟨rfl, hw⟩
        have hb : Below w.heap.size w w' := by
          rcases hw with rfl | ⟨t, rfl⟩
          · exact Below.refl _ _
          · exact Lib.bytesWorld_below _ _ _
        exact ⟨_, rfl, hb, S, fun _ _ h => h, fun _ _ h _ => h, fun g o h => Nat.lt_of_lt_of_le (hlt g o h) hb.size, RD_iff.2 ⟨[_, _], rfl, RD_iff.2 rfl, RD_iff.2 rfl, trivial⟩⟩
      · have e1 : Sp.numN s = 0 := by unfold Sp.numN; rw [hp]
        have e2 : Sp.numK s = false := by unfold Sp.numK; rw [hp]
        rw [e1, e2]
        obtain ⟨ev, cs, ty, sp, hT, hm, hev⟩ := ht.syn
        have hcell : w.cell? ⟨(Tryz.lays174_ren.g 15), 0, none⟩ = some ev := by
          show w.cell? ⟨0, 0, none⟩ = _
          simp [World.cell?, (htb _ _ hT).2, hm]
        refine (Any.strconv_ParseInt_10_at64_syntax Tryz.lays174 ⟨s.toArray⟩ (by omega) hp ev w hcell hev).mono ?_
        rintro e w' ⟨N, rfl, _, _, hb⟩
        exact ⟨_, rfl, hb, S, fun _ _ h => h, fun _ _ h _ => h, fun g o h => Nat.lt_of_lt_of_le (hlt g o h) hb.size, RD_iff.2 ⟨[_, _], rfl, RD_iff.2 rfl, RD_iff.2 ⟨_, _, rfl⟩, trivial⟩⟩
      · have e1 : Sp.numN s = Lib.intSat 64 s := by unfold Sp.numN; rw [hp]
        have e2 : Sp.numK s = false := by unfold Sp.numK; rw [hp]
        rw [e1, e2]
        obtain ⟨ev, cs, ty, sp, hT, hm, hev⟩ := ht.rng
        have hcell : w.cell? ⟨(Tryz.lays174_ren.g 16), 0, none⟩ = some ev := by
          show w.cell? ⟨1, 0, none⟩ = _
          simp [World.cell?, (htb _ _ hT).2, hm]
        refine (Any.strconv_ParseInt_10_at64_range Tryz.lays174 ⟨s.toArray⟩ (by omega) hp ev w hcell hev).mono ?_
        rintro e w' ⟨N, rfl, _, _, hb⟩
        exact ⟨_, rfl, hb, S, fun _ _ h => h, fun _ _ h _ => h, fun g o h => Nat.lt_of_lt_of_le (hlt g o h) hb.size, RD_iff.2 ⟨[_, _], rfl, RD_iff.2 rfl, RD_iff.2 ⟨_, _, rfl⟩, trivial⟩⟩
  · cases h
end Go.Ev
/-
  What the readers of the program compute, and the statements' own functions: definitions; their tables of answers.
-/
namespace Go.Ev
open Go.Proofs
open Sp
def sp7 : Spec | [], [] => some (true, .bool true, []) | _, _ => none
def c3 : Orc := orc [(7, sp7), (8, sp8), (9, sp9), (10, sp10), (11, sp10), (12, sp12), (13, sp12)]
end Go.Ev

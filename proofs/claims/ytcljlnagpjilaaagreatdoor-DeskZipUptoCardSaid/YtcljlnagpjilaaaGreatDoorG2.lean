/-
  The shelf's contracts of Go's library that package desk calls, laid at this program: strco
  The words that are numbers: plain laws
  desk.must, desk.kind, desk.number: what they answer
  desk.number: what it answers
-/
import Derived.Test.YtcljlnagpjilaaaGreatDoorProg
import Derived.Shelf.LaysM
import Derived.Shelf.Strings.OnBuilder
import Derived.Shelf.Strings.SlTrimAscii
import Derived.Shelf.Strconv.Atoi
import Derived.Shelf.Strconv.Itoa3
import Derived.Shelf.Strings.Cut
import Derived.Shelf.Strings.SplitShaped
import Derived.Shelf.Strings.FieldsFuncAny
import Derived.Shelf.Slices.Turned
import Derived.Lib.SlTrimSet
import Derived.Lib.Atoi
import Derived.Test.YtcljlnagpjilaaaGreatDoorG1
import Derived.Laws.Strings
import Derived.Lib.SmallJoins

set_option linter.unusedVariables false
set_option linter.unusedSimpArgs false
set_option maxRecDepth 100000
set_option maxHeartbeats 8000000
namespace Go.Proofs.YtcljlnagpjilaaaGreatDoor
open Go.Shelf
def lItoa_ren : Go.Shelf.Ren := ⟨fun | 171 => 35 | 243 => 68 | 246 => 105 | 283 => 150 | 284 => 151 | 285 => 152 | 286 => 153 | 129 => 182 | 317 => 181 | 318 => 183 | 319 => 184 | 320 => 185 | 337 => 198 | 338 => 195 | n => n, fun | 3 => 3 | 9 => 9 | 2 => 2 | 4 => 4 | 171 => 214 | 0 => 0 | 53 => 202 | 37 => 42 | 5 => 5 | 173 => 217 | 212 => 261 | 51 => 206 | 20 => 20 | 213 => 262 | 46 => 155 | 232 => 282 | 233 => 280 | n => n, fun | 17 => 3 | 18 => 7 | 19 => 6 | n => n⟩
theorem lItoa : Go.Proofs.LaysM.n171 Tryz.prog lItoa_ren := {
 mixed := by kernel_rfl
 f129 := Tryz.func182.trans (congrArg some (by kernel_rfl))
 f171 := Tryz.func35.trans (congrArg some (by kernel_rfl))
 f243 := Tryz.func68.trans (congrArg some (by kernel_rfl))
 f246 := Tryz.func105.trans (congrArg some (by kernel_rfl))
 f283 := Tryz.func150.trans (congrArg some (by kernel_rfl))
 f284 := Tryz.func151.trans (congrArg some (by kernel_rfl))
 f285 := Tryz.func152.trans (congrArg some (by kernel_rfl))
 f286 := Tryz.func153.trans (congrArg some (by kernel_rfl))
 f317 := Tryz.func181.trans (congrArg some (by kernel_rfl))
 f318 := Tryz.func183.trans (congrArg some (by kernel_rfl))
 f319 := Tryz.func184.trans (congrArg some (by kernel_rfl))
 f320 := Tryz.func185.trans (congrArg some (by kernel_rfl))
 f337 := Tryz.func198.trans (congrArg some (by kernel_rfl))
 f338 := Tryz.func195.trans (congrArg some (by kernel_rfl))
 t0 := Tryz.underlying0
 a0 := Tryz.isAgg0
 z0 := Tryz.sizeOf0
 v0 := Tryz.zeroValue0
 t2 := Tryz.underlying2
 a2 := Tryz.isAgg2
 z2 := Tryz.sizeOf2
 v2 := Tryz.zeroValue2
 t3 := Tryz.underlying3
 a3 := Tryz.isAgg3
 z3 := Tryz.sizeOf3
 v3 := Tryz.zeroValue3
 t4 := Tryz.underlying4
 a4 := Tryz.isAgg4
 z4 := Tryz.sizeOf4
 v4 := Tryz.zeroValue4
 t5 := Tryz.underlying5
 a5 := Tryz.isAgg5
 z5 := Tryz.sizeOf5
 v5 := Tryz.zeroValue5
 t9 := Tryz.underlying9
 a9 := Tryz.isAgg9
 z9 := Tryz.sizeOf9
 v9 := Tryz.zeroValue9
 t20 := Tryz.underlying20
 a20 := Tryz.isAgg20
 z20 := Tryz.sizeOf20
 v20 := Tryz.zeroValue20
 t37 := Tryz.underlying42
 a37 := Tryz.isAgg42
 z37 := Tryz.sizeOf42
 v37 := Tryz.zeroValue42
 t46 := Tryz.underlying155
 a46 := Tryz.isAgg155
 z46 := Tryz.sizeOf155
 v46 := Tryz.zeroValue155
 t51 := Tryz.underlying206
 a51 := Tryz.isAgg206
 z51 := Tryz.sizeOf206
 v51 := Tryz.zeroValue206
 t53 := Tryz.underlying202
 a53 := Tryz.isAgg202
 z53 := Tryz.sizeOf202
 v53 := Tryz.zeroValue202
 t171 := Tryz.underlying214
 a171 := Tryz.isAgg214
 z171 := Tryz.sizeOf214
 v171 := Tryz.zeroValue214
 t173 := Tryz.underlying217
 a173 := Tryz.isAgg217
 z173 := Tryz.sizeOf217
 v173 := Tryz.zeroValue217
 t212 := Tryz.underlying261
 a212 := Tryz.isAgg261
 z212 := Tryz.sizeOf261
 v212 := Tryz.zeroValue261
 t213 := Tryz.underlying262
 a213 := Tryz.isAgg262
 z213 := Tryz.sizeOf262
 t232 := Tryz.underlying282
 a232 := Tryz.isAgg282
 z232 := Tryz.sizeOf282
 v232 := Tryz.zeroValue282
 t233 := Tryz.underlying280
 a233 := Tryz.isAgg280
 z233 := Tryz.sizeOf280
 v233 := Tryz.zeroValue280
 g17 := by kernel_rfl
 g18 := by kernel_rfl
 g19 := by kernel_rfl
 i0 := by kernel_rfl
 i2 := by kernel_rfl
 i3 := by kernel_rfl
 i4 := by kernel_rfl
 i5 := by kernel_rfl
 i9 := by kernel_rfl
 i20 := by kernel_rfl
 i37 := by kernel_rfl
 i46 := by kernel_rfl
 i51 := by kernel_rfl
 i53 := by kernel_rfl
 i171 := by kernel_rfl
 i173 := by kernel_rfl
 i212 := by kernel_rfl
 i232 := by kernel_rfl
 i233 := by kernel_rfl
 m17 := by kernel_rfl
 m18 := by kernel_rfl
 m19 := by kernel_rfl }
def lAtoi_ren : Go.Shelf.Ren := ⟨fun | 172 => 74 | 244 => 125 | 245 => 126 | 247 => 162 | 279 => 163 | 280 => 164 | 281 => 165 | 282 => 166 | 287 => 191 | 316 => 192 | 171 => 35 | 205 => 193 | 321 => 202 | 322 => 203 | 243 => 68 | 246 => 105 | 283 => 150 | 284 => 151 | 285 => 152 | 286 => 153 | 129 => 182 | 317 => 181 | 318 => 183 | 319 => 184 | 320 => 185 | 337 => 198 | 338 => 195 | n => n, fun | 9 => 9 | 3 => 3 | 75 => 46 | 76 => 47 | 4 => 4 | 5 => 5 | 167 => 230 | 37 => 42 | 0 => 0 | 85 => 231 | 2 => 2 | 168 => 233 | 53 => 202 | 175 => 268 | 46 => 155 | 210 => 271 | 127 => 77 | 145 => 279 | 143 => 277 | 21 => 21 | 171 => 214 | 173 => 217 | 212 => 261 | 51 => 206 | 20 => 20 | 213 => 262 | 232 => 282 | 233 => 280 | 80 => 50 | n => n, fun | 15 => 4 | 16 => 5 | 17 => 3 | 18 => 7 | 19 => 6 | n => n⟩
theorem lAtoi : Go.Proofs.Lays.n172 Tryz.prog lAtoi_ren := {
 mixed := by kernel_rfl
 f129 := Tryz.func182.trans (congrArg some (by kernel_rfl))
 f171 := Tryz.func35.trans (congrArg some (by kernel_rfl))
 f172 := Tryz.func74.trans (congrArg some (by kernel_rfl))
 f205 := Tryz.func193.trans (congrArg some (by kernel_rfl))
 f243 := Tryz.func68.trans (congrArg some (by kernel_rfl))
 f244 := Tryz.func125.trans (congrArg some (by kernel_rfl))
 f245 := Tryz.func126.trans (congrArg some (by kernel_rfl))
 f246 := Tryz.func105.trans (congrArg some (by kernel_rfl))
 f247 := Tryz.func162.trans (congrArg some (by kernel_rfl))
 f279 := Tryz.func163.trans (congrArg some (by kernel_rfl))
 f280 := Tryz.func164.trans (congrArg some (by kernel_rfl))
 f281 := Tryz.func165.trans (congrArg some (by kernel_rfl))
 f282 := Tryz.func166.trans (congrArg some (by kernel_rfl))
 f283 := Tryz.func150.trans (congrArg some (by kernel_rfl))
 f284 := Tryz.func151.trans (congrArg some (by kernel_rfl))
 f285 := Tryz.func152.trans (congrArg some (by kernel_rfl))
 f286 := Tryz.func153.trans (congrArg some (by kernel_rfl))
 f287 := Tryz.func191.trans (congrArg some (by kernel_rfl))
 f316 := Tryz.func192.trans (congrArg some (by kernel_rfl))
 f317 := Tryz.func181.trans (congrArg some (by kernel_rfl))
 f318 := Tryz.func183.trans (congrArg some (by kernel_rfl))
 f319 := Tryz.func184.trans (congrArg some (by kernel_rfl))
 f320 := Tryz.func185.trans (congrArg some (by kernel_rfl))
 f321 := Tryz.func202.trans (congrArg some (by kernel_rfl))
 f322 := Tryz.func203.trans (congrArg some (by kernel_rfl))
 f337 := Tryz.func198.trans (congrArg some (by kernel_rfl))
 f338 := Tryz.func195.trans (congrArg some (by kernel_rfl))
 t0 := Tryz.underlying0
 a0 := Tryz.isAgg0
 z0 := Tryz.sizeOf0
 v0 := Tryz.zeroValue0
 t2 := Tryz.underlying2
 a2 := Tryz.isAgg2
 z2 := Tryz.sizeOf2
 v2 := Tryz.zeroValue2
 t3 := Tryz.underlying3
 a3 := Tryz.isAgg3
 z3 := Tryz.sizeOf3
 v3 := Tryz.zeroValue3
 t4 := Tryz.underlying4
 a4 := Tryz.isAgg4
 z4 := Tryz.sizeOf4
 v4 := Tryz.zeroValue4
 t5 := Tryz.underlying5
 a5 := Tryz.isAgg5
 z5 := Tryz.sizeOf5
 v5 := Tryz.zeroValue5
 t9 := Tryz.underlying9
 a9 := Tryz.isAgg9
 z9 := Tryz.sizeOf9
 v9 := Tryz.zeroValue9
 t20 := Tryz.underlying20
 a20 := Tryz.isAgg20
 z20 := Tryz.sizeOf20
 v20 := Tryz.zeroValue20
 t21 := Tryz.underlying21
 a21 := Tryz.isAgg21
 z21 := Tryz.sizeOf21
 v21 := Tryz.zeroValue21
 t37 := Tryz.underlying42
 a37 := Tryz.isAgg42
 z37 := Tryz.sizeOf42
 v37 := Tryz.zeroValue42
 t46 := Tryz.underlying155
 a46 := Tryz.isAgg155
 z46 := Tryz.sizeOf155
 v46 := Tryz.zeroValue155
 t51 := Tryz.underlying206
 a51 := Tryz.isAgg206
 z51 := Tryz.sizeOf206
 v51 := Tryz.zeroValue206
 t53 := Tryz.underlying202
 a53 := Tryz.isAgg202
 z53 := Tryz.sizeOf202
 v53 := Tryz.zeroValue202
 t75 := Tryz.underlying46
 a75 := Tryz.isAgg46
 z75 := Tryz.sizeOf46
 v75 := Tryz.zeroValue46
 t76 := Tryz.underlying47
 a76 := Tryz.isAgg47
 z76 := Tryz.sizeOf47
 v76 := Tryz.zeroValue47
 t85 := Tryz.underlying231
 a85 := Tryz.isAgg231
 z85 := Tryz.sizeOf231
 v85 := Tryz.zeroValue231
 t127 := Tryz.underlying77
 a127 := Tryz.isAgg77
 z127 := Tryz.sizeOf77
 v127 := Tryz.zeroValue77
 t143 := Tryz.underlying277
 a143 := Tryz.isAgg277
 z143 := Tryz.sizeOf277
 v143 := Tryz.zeroValue277
 t145 := Tryz.underlying279
 a145 := Tryz.isAgg279
 z145 := Tryz.sizeOf279
 v145 := Tryz.zeroValue279
 t167 := Tryz.underlying230
 a167 := Tryz.isAgg230
 z167 := Tryz.sizeOf230
 v167 := Tryz.zeroValue230
 t168 := Tryz.underlying233
 a168 := Tryz.isAgg233
 z168 := Tryz.sizeOf233
 v168 := Tryz.zeroValue233
 t171 := Tryz.underlying214
 a171 := Tryz.isAgg214
 z171 := Tryz.sizeOf214
 v171 := Tryz.zeroValue214
 t173 := Tryz.underlying217
 a173 := Tryz.isAgg217
 z173 := Tryz.sizeOf217
 v173 := Tryz.zeroValue217
 t175 := Tryz.underlying268
 a175 := Tryz.isAgg268
 z175 := Tryz.sizeOf268
 v175 := Tryz.zeroValue268
 t210 := Tryz.underlying271
 a210 := Tryz.isAgg271
 z210 := Tryz.sizeOf271
 v210 := Tryz.zeroValue271
 t212 := Tryz.underlying261
 a212 := Tryz.isAgg261
 z212 := Tryz.sizeOf261
 v212 := Tryz.zeroValue261
 t213 := Tryz.underlying262
 a213 := Tryz.isAgg262
 z213 := Tryz.sizeOf262
 t232 := Tryz.underlying282
 a232 := Tryz.isAgg282
 z232 := Tryz.sizeOf282
 v232 := Tryz.zeroValue282
 t233 := Tryz.underlying280
 a233 := Tryz.isAgg280
 z233 := Tryz.sizeOf280
 v233 := Tryz.zeroValue280
 g15 := by kernel_rfl
 g16 := by kernel_rfl
 g17 := by kernel_rfl
 g18 := by kernel_rfl
 g19 := by kernel_rfl }
def lJoin_ren : Go.Shelf.Ren := ⟨fun | 156 => 54 | 165 => 64 | 166 => 19 | 169 => 21 | 240 => 33 | 241 => 103 | 276 => 67 | 277 => 149 | n => n, fun | 31 => 26 | 9 => 9 | 3 => 3 | 4 => 4 | 0 => 0 | 20 => 20 | 72 => 44 | 76 => 47 | 70 => 41 | 37 => 42 | 75 => 46 | 127 => 77 | 164 => 115 | 5 => 5 | 80 => 50 | n => n, fun | n => n⟩
theorem lJoin : Go.Proofs.Lays.n156 Tryz.prog lJoin_ren := {
 mixed := by kernel_rfl
 f156 := Tryz.func54.trans (congrArg some (by kernel_rfl))
 f165 := Tryz.func64.trans (congrArg some (by kernel_rfl))
 f166 := Tryz.func19.trans (congrArg some (by kernel_rfl))
 f169 := Tryz.func21.trans (congrArg some (by kernel_rfl))
 f240 := Tryz.func33.trans (congrArg some (by kernel_rfl))
 f241 := Tryz.func103.trans (congrArg some (by kernel_rfl))
 f276 := Tryz.func67.trans (congrArg some (by kernel_rfl))
 f277 := Tryz.func149.trans (congrArg some (by kernel_rfl))
 t0 := Tryz.underlying0
 a0 := Tryz.isAgg0
 z0 := Tryz.sizeOf0
 v0 := Tryz.zeroValue0
 t3 := Tryz.underlying3
 a3 := Tryz.isAgg3
 z3 := Tryz.sizeOf3
 v3 := Tryz.zeroValue3
 t4 := Tryz.underlying4
 a4 := Tryz.isAgg4
 z4 := Tryz.sizeOf4
 v4 := Tryz.zeroValue4
 t9 := Tryz.underlying9
 a9 := Tryz.isAgg9
 z9 := Tryz.sizeOf9
 v9 := Tryz.zeroValue9
 t20 := Tryz.underlying20
 a20 := Tryz.isAgg20
 z20 := Tryz.sizeOf20
 v20 := Tryz.zeroValue20
 t31 := Tryz.underlying26
 a31 := Tryz.isAgg26
 z31 := Tryz.sizeOf26
 v31 := Tryz.zeroValue26
 t37 := Tryz.underlying42
 a37 := Tryz.isAgg42
 z37 := Tryz.sizeOf42
 v37 := Tryz.zeroValue42
 t70 := Tryz.underlying41
 a70 := Tryz.isAgg41
 z70 := Tryz.sizeOf41
 v70 := Tryz.zeroValue41
 t72 := Tryz.underlying44
 a72 := Tryz.isAgg44
 z72 := Tryz.sizeOf44
 v72 := Tryz.zeroValue44
 t75 := Tryz.underlying46
 a75 := Tryz.isAgg46
 z75 := Tryz.sizeOf46
 v75 := Tryz.zeroValue46
 t76 := Tryz.underlying47
 a76 := Tryz.isAgg47
 z76 := Tryz.sizeOf47
 v76 := Tryz.zeroValue47
 t127 := Tryz.underlying77
 a127 := Tryz.isAgg77
 z127 := Tryz.sizeOf77
 v127 := Tryz.zeroValue77
 t164 := Tryz.underlying115
 a164 := Tryz.isAgg115
 z164 := Tryz.sizeOf115
 v164 := Tryz.zeroValue115 }
theorem lJoin_x : Builder.Extra Tryz.prog lJoin_ren := {
 sizeBuilder := by kernel_rfl
 liesBuilder := by kernel_rfl
 t5 := Tryz.underlying5
 a5 := Tryz.isAgg5
 z5 := Tryz.sizeOf5
 v5 := Tryz.zeroValue5
 infoByte := by kernel_rfl
 cellsByte := by kernel_rfl
 sizeByte := by kernel_rfl
 neB5 := by decide }
theorem lWrite : Lays.n166 Tryz.prog lJoin_ren := { lJoin with }
def lCut_ren : Go.Shelf.Ren := ⟨fun | 145 => 30 | 220 => 66 | 219 => 63 | 217 => 99 | 225 => 100 | 224 => 101 | 267 => 102 | 266 => 147 | 314 => 148 | n => n, fun | 9 => 9 | 4 => 4 | 59 => 57 | 3 => 3 | 5 => 5 | 46 => 155 | 146 => 207 | 51 => 206 | n => n, fun | 1 => 0 | n => n⟩
theorem lCut : Go.Proofs.LaysM.n145 Tryz.prog lCut_ren := {
 mixed := by kernel_rfl
 f145 := Tryz.func30.trans (congrArg some (by kernel_rfl))
 f217 := Tryz.func99.trans (congrArg some (by kernel_rfl))
 f219 := Tryz.func63.trans (congrArg some (by kernel_rfl))
 f220 := Tryz.func66.trans (congrArg some (by kernel_rfl))
 f224 := Tryz.func101.trans (congrArg some (by kernel_rfl))
 f225 := Tryz.func100.trans (congrArg some (by kernel_rfl))
 f266 := Tryz.func147.trans (congrArg some (by kernel_rfl))
 f267 := Tryz.func102.trans (congrArg some (by kernel_rfl))
 f314 := Tryz.func148.trans (congrArg some (by kernel_rfl))
 t3 := Tryz.underlying3
 a3 := Tryz.isAgg3
 z3 := Tryz.sizeOf3
 v3 := Tryz.zeroValue3
 t4 := Tryz.underlying4
 a4 := Tryz.isAgg4
 z4 := Tryz.sizeOf4
 v4 := Tryz.zeroValue4
 t5 := Tryz.underlying5
 a5 := Tryz.isAgg5
 z5 := Tryz.sizeOf5
 v5 := Tryz.zeroValue5
 t9 := Tryz.underlying9
 a9 := Tryz.isAgg9
 z9 := Tryz.sizeOf9
 v9 := Tryz.zeroValue9
 t46 := Tryz.underlying155
 a46 := Tryz.isAgg155
 z46 := Tryz.sizeOf155
 v46 := Tryz.zeroValue155
 t51 := Tryz.underlying206
 a51 := Tryz.isAgg206
 z51 := Tryz.sizeOf206
 v51 := Tryz.zeroValue206
 t59 := Tryz.underlying57
 a59 := Tryz.isAgg57
 z59 := Tryz.sizeOf57
 v59 := Tryz.zeroValue57
 t146 := Tryz.underlying207
 a146 := Tryz.isAgg207
 z146 := Tryz.sizeOf207
 v146 := Tryz.zeroValue207
 g1 := by kernel_rfl
 i3 := by kernel_rfl
 i4 := by kernel_rfl
 i5 := by kernel_rfl
 i9 := by kernel_rfl
 i46 := by kernel_rfl
 i51 := by kernel_rfl
 i59 := by kernel_rfl
 i146 := by kernel_rfl
 m1 := by kernel_rfl
 s1_3 := fun w h => Go.Proofs.cell_of_shapedOpen_int (zero := #[.int .i64 0]) (t := 3) h (of_decide_eq_true (by kernel_rfl)) (by kernel_rfl) rfl (by kernel_rfl) (by kernel_rfl) Tryz.underlying3 }
def lSplit_ren : Go.Shelf.Ren := ⟨fun | 146 => 9 | 221 => 17 | 268 => 29 | 138 => 12 | 143 => 25 | 195 => 23 | 197 => 65 | 218 => 24 | 219 => 63 | 260 => 104 | 217 => 99 | 225 => 100 | 224 => 101 | 267 => 102 | 266 => 147 | 314 => 148 | n => n, fun | 9 => 9 | 31 => 26 | 3 => 3 | 4 => 4 | 0 => 0 | 105 => 110 | 21 => 21 | 5 => 5 | 46 => 155 | 119 => 210 | 139 => 213 | 138 => 212 | 146 => 207 | 51 => 206 | n => n, fun | 1 => 0 | 3 => 1 | 4 => 2 | n => n⟩
theorem lSplit : Go.Proofs.LaysM.n146 Tryz.prog lSplit_ren := {
 mixed := by kernel_rfl
 f138 := Tryz.func12.trans (congrArg some (by kernel_rfl))
 f143 := Tryz.func25.trans (congrArg some (by kernel_rfl))
 f146 := Tryz.func9.trans (congrArg some (by kernel_rfl))
 f195 := Tryz.func23.trans (congrArg some (by kernel_rfl))
 f197 := Tryz.func65.trans (congrArg some (by kernel_rfl))
 f217 := Tryz.func99.trans (congrArg some (by kernel_rfl))
 f218 := Tryz.func24.trans (congrArg some (by kernel_rfl))
 f219 := Tryz.func63.trans (congrArg some (by kernel_rfl))
 f221 := Tryz.func17.trans (congrArg some (by kernel_rfl))
 f224 := Tryz.func101.trans (congrArg some (by kernel_rfl))
 f225 := Tryz.func100.trans (congrArg some (by kernel_rfl))
 f260 := Tryz.func104.trans (congrArg some (by kernel_rfl))
 f266 := Tryz.func147.trans (congrArg some (by kernel_rfl))
 f267 := Tryz.func102.trans (congrArg some (by kernel_rfl))
 f268 := Tryz.func29.trans (congrArg some (by kernel_rfl))
 f314 := Tryz.func148.trans (congrArg some (by kernel_rfl))
 t0 := Tryz.underlying0
 a0 := Tryz.isAgg0
 z0 := Tryz.sizeOf0
 v0 := Tryz.zeroValue0
 t3 := Tryz.underlying3
 a3 := Tryz.isAgg3
 z3 := Tryz.sizeOf3
 v3 := Tryz.zeroValue3
 t4 := Tryz.underlying4
 a4 := Tryz.isAgg4
 z4 := Tryz.sizeOf4
 v4 := Tryz.zeroValue4
 t5 := Tryz.underlying5
 a5 := Tryz.isAgg5
 z5 := Tryz.sizeOf5
 v5 := Tryz.zeroValue5
 t9 := Tryz.underlying9
 a9 := Tryz.isAgg9
 z9 := Tryz.sizeOf9
 v9 := Tryz.zeroValue9
 t21 := Tryz.underlying21
 a21 := Tryz.isAgg21
 z21 := Tryz.sizeOf21
 v21 := Tryz.zeroValue21
 t31 := Tryz.underlying26
 a31 := Tryz.isAgg26
 z31 := Tryz.sizeOf26
 v31 := Tryz.zeroValue26
 t46 := Tryz.underlying155
 a46 := Tryz.isAgg155
 z46 := Tryz.sizeOf155
 v46 := Tryz.zeroValue155
 t51 := Tryz.underlying206
 a51 := Tryz.isAgg206
 z51 := Tryz.sizeOf206
 v51 := Tryz.zeroValue206
 t105 := Tryz.underlying110
 a105 := Tryz.isAgg110
 z105 := Tryz.sizeOf110
 v105 := Tryz.zeroValue110
 t119 := Tryz.underlying210
 a119 := Tryz.isAgg210
 z119 := Tryz.sizeOf210
 t138 := Tryz.underlying212
 a138 := Tryz.isAgg212
 z138 := Tryz.sizeOf212
 v138 := Tryz.zeroValue212
 t139 := Tryz.underlying213
 a139 := Tryz.isAgg213
 z139 := Tryz.sizeOf213
 v139 := Tryz.zeroValue213
 t146 := Tryz.underlying207
 a146 := Tryz.isAgg207
 z146 := Tryz.sizeOf207
 v146 := Tryz.zeroValue207
 g1 := by kernel_rfl
 g3 := by kernel_rfl
 g4 := by kernel_rfl
 i0 := by kernel_rfl
 i3 := by kernel_rfl
 i4 := by kernel_rfl
 i5 := by kernel_rfl
 i9 := by kernel_rfl
 i21 := by kernel_rfl
 i31 := by kernel_rfl
 i46 := by kernel_rfl
 i51 := by kernel_rfl
 i105 := by kernel_rfl
 i138 := by kernel_rfl
 i139 := by kernel_rfl
 i146 := by kernel_rfl
 m1 := by kernel_rfl
 s1_3 := fun w h => Go.Proofs.cell_of_shapedOpen_int (zero := #[.int .i64 0]) (t := 3) h (of_decide_eq_true (by kernel_rfl)) (by kernel_rfl) rfl (by kernel_rfl) (by kernel_rfl) Tryz.underlying3
 m3 := by kernel_rfl
 m4 := by kernel_rfl }
def lFields_ren : Go.Shelf.Ren := ⟨fun | 229 => 31 | n => n, fun | 9 => 9 | 40 => 60 | 31 => 26 | 152 => 112 | 3 => 3 | 0 => 0 | 4 => 4 | 21 => 21 | 154 => 114 | n => n, fun | n => n⟩
theorem lFields : Go.Proofs.Lays.n229 Tryz.prog lFields_ren := {
 mixed := by kernel_rfl
 f229 := Tryz.func31.trans (congrArg some (by kernel_rfl))
 t0 := Tryz.underlying0
 a0 := Tryz.isAgg0
 z0 := Tryz.sizeOf0
 v0 := Tryz.zeroValue0
 t3 := Tryz.underlying3
 a3 := Tryz.isAgg3
 z3 := Tryz.sizeOf3
 v3 := Tryz.zeroValue3
 t4 := Tryz.underlying4
 a4 := Tryz.isAgg4
 z4 := Tryz.sizeOf4
 v4 := Tryz.zeroValue4
 t9 := Tryz.underlying9
 a9 := Tryz.isAgg9
 z9 := Tryz.sizeOf9
 v9 := Tryz.zeroValue9
 t21 := Tryz.underlying21
 a21 := Tryz.isAgg21
 z21 := Tryz.sizeOf21
 v21 := Tryz.zeroValue21
 t31 := Tryz.underlying26
 a31 := Tryz.isAgg26
 z31 := Tryz.sizeOf26
 v31 := Tryz.zeroValue26
 t40 := Tryz.underlying60
 a40 := Tryz.isAgg60
 z40 := Tryz.sizeOf60
 v40 := Tryz.zeroValue60
 t152 := Tryz.underlying112
 a152 := Tryz.isAgg112
 z152 := Tryz.sizeOf112
 v152 := Tryz.zeroValue112
 t154 := Tryz.underlying114
 a154 := Tryz.isAgg114
 z154 := Tryz.sizeOf114
 v154 := Tryz.zeroValue114 }
def lTrim_ren : Go.Shelf.Ren := ⟨fun | 160 => 73 | 232 => 119 | 231 => 118 | 227 => 120 | 234 => 122 | 233 => 121 | 236 => 124 | 235 => 123 | 228 => 159 | 271 => 161 | 151 => 160 | 197 => 65 | 120 => 190 | 152 => 189 | 260 => 104 | 137 => 200 | 119 => 201 | 224 => 101 | 225 => 100 | 217 => 99 | 266 => 147 | n => n, fun | 9 => 9 | 4 => 4 | 3 => 3 | 5 => 5 | 117 => 178 | 116 => 177 | 0 => 0 | 124 => 181 | 21 => 21 | 105 => 110 | 46 => 155 | 119 => 210 | 139 => 213 | 138 => 212 | n => n, fun | 3 => 1 | 4 => 2 | n => n⟩
theorem lTrim : Go.Proofs.Lays.n160 Tryz.prog lTrim_ren := {
 mixed := by kernel_rfl
 f119 := Tryz.func201.trans (congrArg some (by kernel_rfl))
 f120 := Tryz.func190.trans (congrArg some (by kernel_rfl))
 f137 := Tryz.func200.trans (congrArg some (by kernel_rfl))
 f151 := Tryz.func160.trans (congrArg some (by kernel_rfl))
 f152 := Tryz.func189.trans (congrArg some (by kernel_rfl))
 f160 := Tryz.func73.trans (congrArg some (by kernel_rfl))
 f197 := Tryz.func65.trans (congrArg some (by kernel_rfl))
 f217 := Tryz.func99.trans (congrArg some (by kernel_rfl))
 f224 := Tryz.func101.trans (congrArg some (by kernel_rfl))
 f225 := Tryz.func100.trans (congrArg some (by kernel_rfl))
 f227 := Tryz.func120.trans (congrArg some (by kernel_rfl))
 f228 := Tryz.func159.trans (congrArg some (by kernel_rfl))
 f231 := Tryz.func118.trans (congrArg some (by kernel_rfl))
 f232 := Tryz.func119.trans (congrArg some (by kernel_rfl))
 f233 := Tryz.func121.trans (congrArg some (by kernel_rfl))
 f234 := Tryz.func122.trans (congrArg some (by kernel_rfl))
 f235 := Tryz.func123.trans (congrArg some (by kernel_rfl))
 f236 := Tryz.func124.trans (congrArg some (by kernel_rfl))
 f260 := Tryz.func104.trans (congrArg some (by kernel_rfl))
 f266 := Tryz.func147.trans (congrArg some (by kernel_rfl))
 f271 := Tryz.func161.trans (congrArg some (by kernel_rfl))
 t0 := Tryz.underlying0
 a0 := Tryz.isAgg0
 z0 := Tryz.sizeOf0
 v0 := Tryz.zeroValue0
 t3 := Tryz.underlying3
 a3 := Tryz.isAgg3
 z3 := Tryz.sizeOf3
 v3 := Tryz.zeroValue3
 t4 := Tryz.underlying4
 a4 := Tryz.isAgg4
 z4 := Tryz.sizeOf4
 v4 := Tryz.zeroValue4
 t5 := Tryz.underlying5
 a5 := Tryz.isAgg5
 z5 := Tryz.sizeOf5
 v5 := Tryz.zeroValue5
 t9 := Tryz.underlying9
 a9 := Tryz.isAgg9
 z9 := Tryz.sizeOf9
 v9 := Tryz.zeroValue9
 t21 := Tryz.underlying21
 a21 := Tryz.isAgg21
 z21 := Tryz.sizeOf21
 v21 := Tryz.zeroValue21
 t46 := Tryz.underlying155
 a46 := Tryz.isAgg155
 z46 := Tryz.sizeOf155
 v46 := Tryz.zeroValue155
 t105 := Tryz.underlying110
 a105 := Tryz.isAgg110
 z105 := Tryz.sizeOf110
 v105 := Tryz.zeroValue110
 t116 := Tryz.underlying177
 a116 := Tryz.isAgg177
 z116 := Tryz.sizeOf177
 t117 := Tryz.underlying178
 a117 := Tryz.isAgg178
 z117 := Tryz.sizeOf178
 v117 := Tryz.zeroValue178
 t119 := Tryz.underlying210
 a119 := Tryz.isAgg210
 z119 := Tryz.sizeOf210
 t124 := Tryz.underlying181
 a124 := Tryz.isAgg181
 z124 := Tryz.sizeOf181
 v124 := Tryz.zeroValue181
 t138 := Tryz.underlying212
 a138 := Tryz.isAgg212
 z138 := Tryz.sizeOf212
 v138 := Tryz.zeroValue212
 t139 := Tryz.underlying213
 a139 := Tryz.isAgg213
 z139 := Tryz.sizeOf213
 v139 := Tryz.zeroValue213
 g3 := by kernel_rfl
 g4 := by kernel_rfl }
def lIndex_ren : Go.Shelf.Ren := ⟨fun | 109 => 46 | n => n, fun | 31 => 26 | 9 => 9 | 3 => 3 | 0 => 0 | 4 => 4 | n => n, fun | n => n⟩
theorem lIndex : Go.Proofs.Lays.n109 Tryz.prog lIndex_ren := {
 mixed := by kernel_rfl
 f109 := Tryz.func46.trans (congrArg some (by kernel_rfl))
 t0 := Tryz.underlying0
 a0 := Tryz.isAgg0
 z0 := Tryz.sizeOf0
 v0 := Tryz.zeroValue0
 t3 := Tryz.underlying3
 a3 := Tryz.isAgg3
 z3 := Tryz.sizeOf3
 v3 := Tryz.zeroValue3
 t4 := Tryz.underlying4
 a4 := Tryz.isAgg4
 z4 := Tryz.sizeOf4
 v4 := Tryz.zeroValue4
 t9 := Tryz.underlying9
 a9 := Tryz.isAgg9
 z9 := Tryz.sizeOf9
 v9 := Tryz.zeroValue9
 t31 := Tryz.underlying26
 a31 := Tryz.isAgg26
 z31 := Tryz.sizeOf26
 v31 := Tryz.zeroValue26 }
end Go.Proofs.YtcljlnagpjilaaaGreatDoor
namespace Go.Proofs.YtcljlnagpjilaaaGreatDoor
abbrev By := List UInt8
def dig (b : UInt8) : Bool := decide (48 <= b.toNat /\ b.toNat <= 57)
def digC : By := [48, 49, 50, 51, 52, 53, 54, 55, 56, 57]
theorem digC_dig (b : UInt8) : digC.contains b = dig b := by
 have h : ∀ n : Fin 256, digC.contains (UInt8.ofNat n.val) = dig (UInt8.ofNat n.val) := by decide +kernel
 have := h ⟨b.toNat, b.toNat_lt⟩
 simpa using this
theorem dw_head {p : UInt8 -> Bool} : ∀ {l : By} {b : UInt8} {r : By}, l.dropWhile p = b :: r -> p b = false
 | [], _, _, h => by simp at h
 | x :: l, b, r, h => by
  rw [List.dropWhile_cons] at h
  cases hx : p x with
  | true => rw [hx, if_pos rfl] at h; exact dw_head h
  | false =>
   rw [hx, if_neg (by simp)] at h
   injection h with h1 h2
   rw [<- h1]; exact hx
theorem dw_nil {p : UInt8 -> Bool} : ∀ {l : By}, l.dropWhile p = [] ↔ l.all p = true
 | [] => by simp
 | x :: l => by
  rw [List.dropWhile_cons, List.all_cons]
  split
  ·rw [dw_nil, ‹p x = true›, Bool.true_and]
  ·simp [*]
theorem trim_nil (l : By) : Lib.trimS l digC = [] ↔ l.all dig = true := by
 have hp : (fun b => digC.contains b) = dig := funext digC_dig
 unfold Lib.trimS Lib.trimLeftS Lib.trimRightS
 rw [hp, dw_nil]
 constructor
 ·intro h
  cases hm : l.reverse.dropWhile dig with
  | nil => rw [dw_nil, List.all_reverse] at hm; exact hm
  | cons b r =>
   have h1 := dw_head hm
   rw [hm, List.all_reverse, List.all_cons, h1] at h
   simp at h
 ·intro h
  rw [dw_nil.2 (by rw [List.all_reverse]; exact h)]
  rfl
def decV (acc : Nat) : By -> Nat
 | [] => acc
 | b :: r => decV (acc * 10 + (b.toNat - 48)) r
theorem decFrom_dig : ∀ (l : By) (acc : Nat), l.all dig = true -> Lib.decFrom acc l = some (decV acc l)
 | [], acc, _ => rfl
 | b :: r, acc, h => by
  rw [List.all_cons, Bool.and_eq_true] at h
  have hb : Lib.digitVal b = some (b.toNat - 48) := by
   have := of_decide_eq_true h.1
   unfold Lib.digitVal
   rw [if_pos this]
  unfold Lib.decFrom
  rw [hb]
  exact decFrom_dig r _ h.2
theorem atoi_dig (l : By) (h0 : l ≠ []) (h : l.all dig = true) : Lib.atoi l = some (decV 0 l : Int) := by
 cases l with
 | nil => exact absurd rfl h0
 | cons b r =>
  have h1 := decFrom_dig (b :: r) 0 h
  rw [List.all_cons, Bool.and_eq_true] at h
  have hb := of_decide_eq_true h.1
  have e1 : (b == 45) = false := by
   rw [beq_eq_false_iff_ne]; rintro rfl; simp at hb
  have e2 : (b == 43) = false := by
   rw [beq_eq_false_iff_ne]; rintro rfl; simp at hb
  unfold Lib.atoi
  dsimp only
  rw [if_neg (by rw [e1]; simp), if_neg (by rw [e2]; simp)]
  unfold Lib.decNat
  rw [if_neg (by simp), h1]
  rfl
theorem decV_lt (l : By) (h : l.all dig = true) (hl : l.length <= 7) : decV 0 l < 10000000 := by
 have h1 := Lib.decFrom_lt l 0 _ (decFrom_dig l 0 h)
 have h2 : 10 ^ l.length <= 10 ^ 7 := Nat.pow_le_pow_right (by omega) hl
 omega
def numF (l : By) : Option Int := if 1 <= l.length /\ l.length <= 7 /\ l.all dig = true then some (decV 0 l : Int) else none
theorem numF_in {l : By} {n : Int} (h : numF l = some n) : 0 <= n /\ n < 10000000 := by
 unfold numF at h
 split at h
 ·rename_i hc
  injection h with h
  have := decV_lt l hc.2.2 hc.2.1
  omega
 ·cases h
end Go.Proofs.YtcljlnagpjilaaaGreatDoor
namespace Go.Proofs.YtcljlnagpjilaaaGreatDoor
open Go.ChangeShapes Go.WideShapes Go.ChangeAt Go.RowKit
def slipE (e : Int) : Ending := .panicked [{ v := .iface 63 (.agg #[.int .i64 e]), recovered := false }]
def MuPost (k : Int) (w : World) (e : Ending) (w' : World) : Prop := (if k = 0 then e = .returned (.tuple #[]) else e = slipE k) /\ w = w'
theorem must_any (k : Int) (w : World) : Calls Tryz.prog 39 #[.int .i64 k] w (MuPost k w) := by
 by_cases h : k = 0
 ·subst h
  go_enter Tryz.func39, Tryz.ntmps39
  go_wp2
  go_end0
  exact ⟨rfl, rfl⟩
 ·have b1 : (k == 0) = false := beq_eq_false_iff_ne.2 h
  go_enter Tryz.func39, Tryz.ntmps39
  go_wp2
  exact ⟨rfl, by unfold MuPost; rw [if_neg h]; exact ⟨rfl, rfl⟩⟩
def eStr : Enc ByteArray := ⟨1, fun s => [.string s], fun _ => rfl, fun _ u h => by simp at h; subst h; rfl⟩
theorem RD.str {w : World} {A : Option Addr} {n c : Nat} {l : List ByteArray} (h : RD w eStr (.slice A n c) l) {k : Nat} (hk : k < l.length) : ∃ b o, A = some ⟨b, o, none⟩ /\ b < w.heap.size /\ w.cell? ⟨b, o + k, none⟩ = some (.string l[k]) := by
 obtain ⟨b, o, rfl, hb, hc⟩ := h.at_ hk
 exact ⟨b, o, rfl, hb, by simpa [eStr] using hc 0 (by decide)⟩
theorem RD.strs {w : World} {b o n c : Nat} {l : List ByteArray} (h : RD w eStr (.slice (some ⟨b, o, none⟩) n c) l) (j : Nat) (hj : j < l.length) : w.cell? ⟨b, o + j, none⟩ = some (.string (l.getD j ByteArray.empty)) := by
 obtain ⟨b', o', he, _, hc⟩ := h.str hj
 simp only [Option.some.injEq, Addr.mk.injEq] at he
 obtain ⟨rfl, rfl, _⟩ := he
 rw [hc, List.getD_eq_getElem?_getD, List.getElem?_eq_getElem hj]
 rfl
def kindsB : List ByteArray := [⟨#[112, 117, 116]⟩, ⟨#[103, 101, 116]⟩, ⟨#[99, 117, 116]⟩, ⟨#[110, 101, 120, 116]⟩, ⟨#[112, 114, 101, 118]⟩, ⟨#[99, 111, 117, 110, 116]⟩, ⟨#[110, 116, 104]⟩]
def kindOf (s : ByteArray) : Int := Lib.idxOfS kindsB s + 1
theorem idxS_in : ∀ (zs : List ByteArray) (x : ByteArray) (i : Nat), -1 <= Lib.idxFromS zs x i /\ Lib.idxFromS zs x i < i + zs.length
 | [], x, i => by simp [Lib.idxFromS]; omega
 | z :: zs, x, i => by
  have := idxS_in zs x (i + 1)
  unfold Lib.idxFromS
  split
  ·simp; omega
  ·simp only [List.length_cons]; omega
theorem kind_in (s : ByteArray) : 0 <= kindOf s /\ kindOf s <= 7 := by
 have := idxS_in kindsB s 0
 unfold kindOf Lib.idxOfS
 simp [kindsB] at this ⊢
 omega
def KiPost (s : ByteArray) (w : World) (e : Ending) (w' : World) : Prop := e = .returned (.tuple #[.int .i64 (kindOf s), .int .i64 (if kindOf s = 1 then 2 else 1)]) /\ Kp w w'
theorem kind_any (s : ByteArray) (w : World) : Calls Tryz.prog 36 #[.string s] w (KiPost s w) := by
 obtain ⟨k0, k1⟩ := kind_in s
 obtain ⟨k, hk⟩ : ∃ k, kindOf s = k := ⟨_, rfl⟩
 have HK := hide hk
 rw [hk] at k0 k1
 have HW : Hid (IntKind.i64.wrap (Lib.idxOfS (kindsB.take 7) s + 1) = k) := hide (by
  rw [show kindsB.take 7 = kindsB from rfl, show Lib.idxOfS kindsB s + 1 = kindOf s from rfl, hk]
  exact IntWalk.i64_in (by omega) (by omega))
 clear hk
 go_enter Tryz.func36, Tryz.ntmps36
 go_wp2_with fail
 obtain ⟨w1, hw1⟩ : ∃ w1, w1 = w.alloc (Obj.cells #[Value.string ⟨#[112, 117, 116]⟩, Value.string ⟨#[103, 101, 116]⟩, Value.string ⟨#[99, 117, 116]⟩, Value.string ⟨#[110, 101, 120, 116]⟩, Value.string ⟨#[112, 114, 101, 118]⟩, Value.string ⟨#[99, 111, 117, 110, 116]⟩, Value.string ⟨#[110, 116, 104]⟩] 9) := ⟨_, rfl⟩
 rw [<- hw1]
 have hr : RD w1 eStr (.slice (some ⟨w.heap.size, 0, none⟩) 7 7) kindsB := by rw [hw1]; exact RD.block (l := kindsB) (heap_alloc_new w _) rfl (by simp [kindsB, maxLen])
 have hkp : Kp w w1 := by rw [hw1]; exact (Kp.refl w).alloc
 have HI : Calls Tryz.prog 46 #[.slice (some ⟨w.heap.size, 0, none⟩) 7 7, .string s] w1 (fun e w' => e = .returned (.int .i64 (Lib.idxOfS (kindsB.take 7) s)) /\ w' = w1) :=
  Any.slices_Index_string lIndex w.heap.size 0 7 7 kindsB s w1 (by simp [kindsB]) (by omega) (fun j hj => hr.strs j hj)
 clear hr hw1
 with_reducible refine HI.mono ?_
 rintro e w2 ⟨rfl, hw2⟩
 rw [hw2]
 clear hw2 HI
 by_cases h1 : k = 1
 ·subst h1
  have H1 := HW.out
  go_wp2
  exact bodyPost_ret (v := .tuple #[.int .i64 1, .int .i64 2]) (by simp [results, Tryz.results36, go_sem]) rfl ⟨by rw [HK.out]; rfl, hkp⟩
 ·have H1 := HW.out
  have b1 : (k == 1) = false := beq_eq_false_iff_ne.2 h1
  go_wp2
  exact bodyPost_ret (v := .tuple #[.int .i64 k, .int .i64 1]) (by simp [results, Tryz.results36, go_sem]) rfl ⟨by rw [HK.out, if_neg h1], hkp⟩
def NuPost (s : ByteArray) (w : World) (e : Ending) (w' : World) : Prop := (match numF s.data.toList with | some n => e = .returned (.int .i64 n) | none => e = slipE 1) /\ Kp w w'
theorem Kp.bytes {w W : World} {e : TypeId} {t : ByteArray} (h : Kp w W) : Kp w (Lib.bytesWorld W e t) := by
 exact h.trans (Go.Joins.below_bytesWorld _ W e t (Nat.le_refl _))
theorem number_any (s : ByteArray) (w : World) (hs : s.size <= 9223372036854775807) : Calls Tryz.prog 41 #[.string s] w (NuPost s w) := by
 have HT : Hid (∀ W, Calls Tryz.prog 73 #[.string s, .string ⟨#[48, 49, 50, 51, 52, 53, 54, 55, 56, 57]⟩] W (fun e w' => e = .returned (.string ⟨(Lib.trimS s.data.toList digC).toArray⟩) /\ Below W.heap.size W w')) :=
  hide (fun W => Any.strings_Trim_laid lTrim (by kernel_rfl) s ⟨#[48, 49, 50, 51, 52, 53, 54, 55, 56, 57]⟩ W hs (by decide) (ascii_of_all (by decide)))
 have HSZ : Hid (s.size = s.data.toList.length) := hide (Lib.size_eq s)
 by_cases hn : s.size < 1
 ·have H1 : Hid (numF s.data.toList = none) := hide (by rw [numF, if_neg (by have := HSZ.out; omega)])
  have d1 : decide ((s.size : Int) < 1) = true := decide_eq_true (by omega)
  go_enter Tryz.func41, Tryz.ntmps41
  go_wp2_with fail
  with_reducible refine (must_any 1 _).mono ?_
  rintro e w1 ⟨he, rfl⟩
  rw [if_neg (by decide), slipE] at he
  subst he
  go_wp2
  exact ⟨rfl, by unfold NuPost; rw [H1.out]; exact ⟨rfl, Kp.refl _⟩⟩
 ·have d1 : decide ((s.size : Int) < 1) = false := decide_eq_false (by omega)
  by_cases h7 : 7 < s.size
  ·have H1 : Hid (numF s.data.toList = none) := hide (by rw [numF, if_neg (by have := HSZ.out; omega)])
   have d2 : decide ((7 : Int) < s.size) = true := decide_eq_true (by omega)
   go_enter Tryz.func41, Tryz.ntmps41
   go_wp2_with fail
   with_reducible refine (must_any 1 _).mono ?_
   rintro e w1 ⟨he, rfl⟩
   rw [if_neg (by decide), slipE] at he
   subst he
   go_wp2
   exact ⟨rfl, by unfold NuPost; rw [H1.out]; exact ⟨rfl, Kp.refl _⟩⟩
  ·have d2 : decide ((7 : Int) < s.size) = false := decide_eq_false (by omega)
   obtain ⟨tr, htr⟩ : ∃ tr, (Lib.trimS s.data.toList digC) = tr := ⟨_, rfl⟩
   rw [htr] at HT
   by_cases ha : s.data.toList.all dig = true
   ·have e0 : tr = [] := by rw [<- htr]; exact (trim_nil _).2 ha
    have hl0 : s.data.toList ≠ [] := fun h => by have := HSZ.out; rw [h] at this; change s.size = 0 at this; omega
    have c1 : 1 <= s.data.toList.length := by rw [<- HSZ.out]; omega
    have c2 : s.data.toList.length <= 7 := by rw [<- HSZ.out]; omega
    have H1 : Hid (numF s.data.toList = some (decV 0 s.data.toList : Int)) := hide (by rw [numF, if_pos ⟨c1, c2, ha⟩])
    have HA : Hid (Lib.atoi s.data.toList = some (decV 0 s.data.toList : Int)) := hide (atoi_dig _ hl0 ha)
    obtain ⟨n, hn⟩ : ∃ n : Int, (decV 0 s.data.toList : Int) = n := ⟨_, rfl⟩
    rw [hn] at H1 HA
    subst e0
    clear hn htr ha hl0 c1 c2
    go_enter Tryz.func41, Tryz.ntmps41
    go_wp2_with fail
    with_reducible refine (HT.out _).mono ?_
    rintro e w1 ⟨rfl, hb⟩
    go_wp2_with fail
    have HN : Calls Tryz.prog 74 #[.string s] w1 (fun e w' => e = .returned (.tuple #[.int .i64 n, .nilIface]) /\ ∃ t, w' = Lib.bytesWorld w1 5 t) := Any.strconv_Atoi lAtoi s n (by omega) HA.out w1
    with_reducible refine HN.mono ?_
    rintro e w2 ⟨rfl, t, hw2⟩
    clear HN
    have hkp : Kp w w2 := by rw [hw2]; exact Kp.bytes hb
    clear hw2
    go_wp2
    go_ret
    exact ⟨by rw [H1.out]; rfl, hkp⟩
   ·have e0 : tr ≠ [] := by rw [<- htr]; exact fun h => ha ((trim_nil _).1 h)
    have H1 : Hid (numF s.data.toList = none) := hide (by rw [numF, if_neg (by simp [ha])])
    have b0 : tr.isEmpty = false := by cases tr with | nil => exact absurd rfl e0 | cons x r => rfl
    clear htr ha
    go_enter Tryz.func41, Tryz.ntmps41
    go_wp2_with fail
    with_reducible refine (HT.out _).mono ?_
    rintro e w1 ⟨rfl, hb⟩
    go_wp2_with fail
    with_reducible refine (must_any 1 _).mono ?_
    rintro e w2 ⟨he, rfl⟩
    rw [if_neg (by decide), slipE] at he
    subst he
    go_wp2
    exact ⟨rfl, by unfold NuPost; rw [H1.out]; exact ⟨rfl, hb⟩⟩
end Go.Proofs.YtcljlnagpjilaaaGreatDoor

/- Part of the proof of a law of 1312: an engine that runs a function over an abstract heap, and what the functions compute; own work. -/
import Derived.Shelf.SlGeneric
import Derived.Shelf.Strings.BuilderX
import Derived.Shelf.Lays
import Derived.Shelf.SlLaysZ
import Derived.Shelf.SlLaysF0
import Derived.Ground.GgzProg
import Derived.Ground.SlsfProg
import Derived.Ground.NamesProg
import Derived.Test.YtbefcngilihcoaaGreatDoorProg
import Derived.RangeFuncNested
import Derived.RangeFuncLeaves
import Derived.RangeFuncBox
import Derived.Shelf.Abstract
import Derived.WalkKit
import Derived.OwnWalkIn
import Derived.TacticsInMore
import Derived.LoopNIn
import Derived.LoopIn
import Derived.Test.YtbefcngilihcoaaGreatDoorGC
import Derived.Test.YtbefcngilihcoaaGreatDoorGH
import Derived.Test.YtbefcngilihcoaaGreatDoorGD
import Derived.Test.YtbefcngilihcoaaGreatDoorGB
import Derived.Shelf.SlSortCmp.NoneTotal
import Derived.Test.YtbefcngilihcoaaGreatDoorGJ
import Derived.Test.YtbefcngilihcoaaGreatDoorGE
set_option linter.unusedVariables false
set_option linter.unusedSimpArgs false
set_option linter.unusedSectionVars false
namespace Go.Proofs
open Go.Shelf
def Tryz.lays169_ren : Go.Shelf.Ren := ⟨fun | 169 => 67 | n => n, fun | 70 => 133 | 9 => 9 | 0 => 0 | 72 => 135 | 37 => 54 | 127 => 195 | 3 => 3 | 5 => 5 | n => n, fun | n => n⟩
theorem Tryz.lays169 : Go.Proofs.Lays.n169 Tryz.prog Tryz.lays169_ren := {
  mixed := by kernel_rfl
  f169 := Tryz.func67.trans (congrArg some (by kernel_rfl))
  t0 := Tryz.underlying0
  a0 := Tryz.isAgg0
  z0 := Tryz.sizeOf0
  v0 := Tryz.zeroValue0
  t3 := Tryz.underlying3
  a3 := Tryz.isAgg3
  z3 := Tryz.sizeOf3
  v3 := Tryz.zeroValue3
  t9 := Tryz.underlying9
  a9 := Tryz.isAgg9
  z9 := Tryz.sizeOf9
  v9 := Tryz.zeroValue9
  t37 := Tryz.underlying54
  a37 := Tryz.isAgg54
  z37 := Tryz.sizeOf54
  v37 := Tryz.zeroValue54
  t70 := Tryz.underlying133
  a70 := Tryz.isAgg133
  z70 := Tryz.sizeOf133
  v70 := Tryz.zeroValue133
  t72 := Tryz.underlying135
  a72 := Tryz.isAgg135
  z72 := Tryz.sizeOf135
  v72 := Tryz.zeroValue135
  t127 := Tryz.underlying195
  a127 := Tryz.isAgg195
  z127 := Tryz.sizeOf195
  v127 := Tryz.zeroValue195 }
theorem Tryz.Builder_Extra_169 : Builder.Extra Tryz.prog Tryz.lays169_ren := {
  sizeBuilder := by kernel_rfl
  liesBuilder := by kernel_rfl
  t5 := Tryz.underlying5
  a5 := Tryz.isAgg5
  z5 := Tryz.sizeOf5
  v5 := Tryz.zeroValue5
  infoByte := by kernel_rfl
  cellsByte := by kernel_rfl
  sizeByte := by kernel_rfl
  neB5 := by decide }
def Tryz.lays105_ren : Go.Shelf.Ren := ⟨fun | 105 => 166 | 212 => 204 | 99 => 205 | 165 => 206 | 166 => 128 | 170 => 207 | 169 => 67 | 263 => 244 | 264 => 245 | 206 => 246 | 240 => 189 | 241 => 247 | 276 => 236 | 277 => 272 | n => n, fun | 9 => 9 | 3 => 3 | 4 => 4 | 20 => 20 | 0 => 0 | 46 => 224 | 109 => 253 | 5 => 5 | 72 => 135 | 76 => 193 | 51 => 212 | 146 => 284 | 53 => 240 | 148 => 286 | 70 => 133 | 37 => 54 | 75 => 192 | 127 => 195 | 164 => 275 | 80 => 138 | n => n, fun | n => n⟩
theorem Tryz.lays105 : Go.Proofs.Lays.n105 Tryz.prog Tryz.lays105_ren := {
  mixed := by kernel_rfl
  f99 := Tryz.func205.trans (congrArg some (by kernel_rfl))
  f105 := Tryz.func166.trans (congrArg some (by kernel_rfl))
  f165 := Tryz.func206.trans (congrArg some (by kernel_rfl))
  f166 := Tryz.func128.trans (congrArg some (by kernel_rfl))
  f169 := Tryz.func67.trans (congrArg some (by kernel_rfl))
  f170 := Tryz.func207.trans (congrArg some (by kernel_rfl))
  f206 := Tryz.func246.trans (congrArg some (by kernel_rfl))
  f212 := Tryz.func204.trans (congrArg some (by kernel_rfl))
  f240 := Tryz.func189.trans (congrArg some (by kernel_rfl))
  f241 := Tryz.func247.trans (congrArg some (by kernel_rfl))
  f263 := Tryz.func244.trans (congrArg some (by kernel_rfl))
  f264 := Tryz.func245.trans (congrArg some (by kernel_rfl))
  f276 := Tryz.func236.trans (congrArg some (by kernel_rfl))
  f277 := Tryz.func272.trans (congrArg some (by kernel_rfl))
  t0 := Tryz.underlying0
  a0 := Tryz.isAgg0
  z0 := Tryz.sizeOf0
  v0 := Tryz.zeroValue0
  t3 := Tryz.underlying3
  a3 := Tryz.isAgg3
  z3 := Tryz.sizeOf3
  v3 := Tryz.zeroValue3
  t4 := Tryz.underlying4
  a4 := Tryz.isAgg4
  z4 := Tryz.sizeOf4
  v4 := Tryz.zeroValue4
  t5 := Tryz.underlying5
  a5 := Tryz.isAgg5
  z5 := Tryz.sizeOf5
  v5 := Tryz.zeroValue5
  t9 := Tryz.underlying9
  a9 := Tryz.isAgg9
  z9 := Tryz.sizeOf9
  v9 := Tryz.zeroValue9
  t20 := Tryz.underlying20
  a20 := Tryz.isAgg20
  z20 := Tryz.sizeOf20
  v20 := Tryz.zeroValue20
  t37 := Tryz.underlying54
  a37 := Tryz.isAgg54
  z37 := Tryz.sizeOf54
  v37 := Tryz.zeroValue54
  t46 := Tryz.underlying224
  a46 := Tryz.isAgg224
  z46 := Tryz.sizeOf224
  v46 := Tryz.zeroValue224
  t51 := Tryz.underlying212
  a51 := Tryz.isAgg212
  z51 := Tryz.sizeOf212
  v51 := Tryz.zeroValue212
  t53 := Tryz.underlying240
  a53 := Tryz.isAgg240
  z53 := Tryz.sizeOf240
  v53 := Tryz.zeroValue240
  t70 := Tryz.underlying133
  a70 := Tryz.isAgg133
  z70 := Tryz.sizeOf133
  v70 := Tryz.zeroValue133
  t72 := Tryz.underlying135
  a72 := Tryz.isAgg135
  z72 := Tryz.sizeOf135
  v72 := Tryz.zeroValue135
  t75 := Tryz.underlying192
  a75 := Tryz.isAgg192
  z75 := Tryz.sizeOf192
  v75 := Tryz.zeroValue192
  t76 := Tryz.underlying193
  a76 := Tryz.isAgg193
  z76 := Tryz.sizeOf193
  v76 := Tryz.zeroValue193
  t109 := Tryz.underlying253
  a109 := Tryz.isAgg253
  z109 := Tryz.sizeOf253
  v109 := Tryz.zeroValue253
  t127 := Tryz.underlying195
  a127 := Tryz.isAgg195
  z127 := Tryz.sizeOf195
  v127 := Tryz.zeroValue195
  t146 := Tryz.underlying284
  a146 := Tryz.isAgg284
  z146 := Tryz.sizeOf284
  v146 := Tryz.zeroValue284
  t148 := Tryz.underlying286
  a148 := Tryz.isAgg286
  z148 := Tryz.sizeOf286
  v148 := Tryz.zeroValue286
  t164 := Tryz.underlying275
  a164 := Tryz.isAgg275
  z164 := Tryz.sizeOf275
  v164 := Tryz.zeroValue275 }
theorem Tryz.Builder_Extra_105 : Builder.Extra Tryz.prog Tryz.lays105_ren := {
  sizeBuilder := by kernel_rfl
  liesBuilder := by kernel_rfl
  t5 := Tryz.underlying5
  a5 := Tryz.isAgg5
  z5 := Tryz.sizeOf5
  v5 := Tryz.zeroValue5
  infoByte := by kernel_rfl
  cellsByte := by kernel_rfl
  sizeByte := by kernel_rfl
  neB5 := by decide }
def Tryz.lays156_ren : Go.Shelf.Ren := ⟨fun | 156 => 184 | 165 => 206 | 166 => 128 | 169 => 67 | 240 => 189 | 241 => 247 | 276 => 236 | 277 => 272 | n => n, fun | 31 => 36 | 9 => 9 | 3 => 3 | 4 => 4 | 0 => 0 | 20 => 20 | 72 => 135 | 76 => 193 | 70 => 133 | 37 => 54 | 75 => 192 | 127 => 195 | 164 => 275 | 5 => 5 | 80 => 138 | n => n, fun | n => n⟩
theorem Tryz.lays156 : Go.Proofs.Lays.n156 Tryz.prog Tryz.lays156_ren := {
  mixed := by kernel_rfl
  f156 := Tryz.func184.trans (congrArg some (by kernel_rfl))
  f165 := Tryz.func206.trans (congrArg some (by kernel_rfl))
  f166 := Tryz.func128.trans (congrArg some (by kernel_rfl))
  f169 := Tryz.func67.trans (congrArg some (by kernel_rfl))
  f240 := Tryz.func189.trans (congrArg some (by kernel_rfl))
  f241 := Tryz.func247.trans (congrArg some (by kernel_rfl))
  f276 := Tryz.func236.trans (congrArg some (by kernel_rfl))
  f277 := Tryz.func272.trans (congrArg some (by kernel_rfl))
  t0 := Tryz.underlying0
  a0 := Tryz.isAgg0
  z0 := Tryz.sizeOf0
  v0 := Tryz.zeroValue0
  t3 := Tryz.underlying3
  a3 := Tryz.isAgg3
  z3 := Tryz.sizeOf3
  v3 := Tryz.zeroValue3
  t4 := Tryz.underlying4
  a4 := Tryz.isAgg4
  z4 := Tryz.sizeOf4
  v4 := Tryz.zeroValue4
  t9 := Tryz.underlying9
  a9 := Tryz.isAgg9
  z9 := Tryz.sizeOf9
  v9 := Tryz.zeroValue9
  t20 := Tryz.underlying20
  a20 := Tryz.isAgg20
  z20 := Tryz.sizeOf20
  v20 := Tryz.zeroValue20
  t31 := Tryz.underlying36
  a31 := Tryz.isAgg36
  z31 := Tryz.sizeOf36
  v31 := Tryz.zeroValue36
  t37 := Tryz.underlying54
  a37 := Tryz.isAgg54
  z37 := Tryz.sizeOf54
  v37 := Tryz.zeroValue54
  t70 := Tryz.underlying133
  a70 := Tryz.isAgg133
  z70 := Tryz.sizeOf133
  v70 := Tryz.zeroValue133
  t72 := Tryz.underlying135
  a72 := Tryz.isAgg135
  z72 := Tryz.sizeOf135
  v72 := Tryz.zeroValue135
  t75 := Tryz.underlying192
  a75 := Tryz.isAgg192
  z75 := Tryz.sizeOf192
  v75 := Tryz.zeroValue192
  t76 := Tryz.underlying193
  a76 := Tryz.isAgg193
  z76 := Tryz.sizeOf193
  v76 := Tryz.zeroValue193
  t127 := Tryz.underlying195
  a127 := Tryz.isAgg195
  z127 := Tryz.sizeOf195
  v127 := Tryz.zeroValue195
  t164 := Tryz.underlying275
  a164 := Tryz.isAgg275
  z164 := Tryz.sizeOf275
  v164 := Tryz.zeroValue275 }
theorem Tryz.Builder_Extra_156 : Builder.Extra Tryz.prog Tryz.lays156_ren := {
  sizeBuilder := by kernel_rfl
  liesBuilder := by kernel_rfl
  t5 := Tryz.underlying5
  a5 := Tryz.isAgg5
  z5 := Tryz.sizeOf5
  v5 := Tryz.zeroValue5
  infoByte := by kernel_rfl
  cellsByte := by kernel_rfl
  sizeByte := by kernel_rfl
  neB5 := by decide }
def Tryz.lays160_ren : Go.Shelf.Ren := ⟨fun | 160 => 267 | 232 => 281 | 231 => 280 | 227 => 282 | 234 => 284 | 233 => 283 | 236 => 286 | 235 => 285 | 228 => 290 | 271 => 293 | 151 => 292 | 197 => 291 | 120 => 296 | 152 => 295 | 260 => 294 | 137 => 297 | 119 => 298 | 224 => 299 | 225 => 300 | 217 => 301 | 266 => 302 | n => n, fun | 9 => 9 | 4 => 4 | 3 => 3 | 5 => 5 | 117 => 320 | 116 => 319 | 0 => 0 | 124 => 323 | 21 => 21 | 105 => 326 | 46 => 224 | 119 => 332 | 139 => 335 | 138 => 334 | n => n, fun | 3 => 4 | 4 => 5 | n => n⟩
theorem Tryz.lays160 : Go.Proofs.Lays.n160 Tryz.prog Tryz.lays160_ren := {
  mixed := by kernel_rfl
  f119 := Tryz.func298.trans (congrArg some (by kernel_rfl))
  f120 := Tryz.func296.trans (congrArg some (by kernel_rfl))
  f137 := Tryz.func297.trans (congrArg some (by kernel_rfl))
  f151 := Tryz.func292.trans (congrArg some (by kernel_rfl))
  f152 := Tryz.func295.trans (congrArg some (by kernel_rfl))
  f160 := Tryz.func267.trans (congrArg some (by kernel_rfl))
  f197 := Tryz.func291.trans (congrArg some (by kernel_rfl))
  f217 := Tryz.func301.trans (congrArg some (by kernel_rfl))
  f224 := Tryz.func299.trans (congrArg some (by kernel_rfl))
  f225 := Tryz.func300.trans (congrArg some (by kernel_rfl))
  f227 := Tryz.func282.trans (congrArg some (by kernel_rfl))
  f228 := Tryz.func290.trans (congrArg some (by kernel_rfl))
  f231 := Tryz.func280.trans (congrArg some (by kernel_rfl))
  f232 := Tryz.func281.trans (congrArg some (by kernel_rfl))
  f233 := Tryz.func283.trans (congrArg some (by kernel_rfl))
  f234 := Tryz.func284.trans (congrArg some (by kernel_rfl))
  f235 := Tryz.func285.trans (congrArg some (by kernel_rfl))
  f236 := Tryz.func286.trans (congrArg some (by kernel_rfl))
  f260 := Tryz.func294.trans (congrArg some (by kernel_rfl))
  f266 := Tryz.func302.trans (congrArg some (by kernel_rfl))
  f271 := Tryz.func293.trans (congrArg some (by kernel_rfl))
  t0 := Tryz.underlying0
  a0 := Tryz.isAgg0
  z0 := Tryz.sizeOf0
  v0 := Tryz.zeroValue0
  t3 := Tryz.underlying3
  a3 := Tryz.isAgg3
  z3 := Tryz.sizeOf3
  v3 := Tryz.zeroValue3
  t4 := Tryz.underlying4
  a4 := Tryz.isAgg4
  z4 := Tryz.sizeOf4
  v4 := Tryz.zeroValue4
  t5 := Tryz.underlying5
  a5 := Tryz.isAgg5
  z5 := Tryz.sizeOf5
  v5 := Tryz.zeroValue5
  t9 := Tryz.underlying9
  a9 := Tryz.isAgg9
  z9 := Tryz.sizeOf9
  v9 := Tryz.zeroValue9
  t21 := Tryz.underlying21
  a21 := Tryz.isAgg21
  z21 := Tryz.sizeOf21
  v21 := Tryz.zeroValue21
  t46 := Tryz.underlying224
  a46 := Tryz.isAgg224
  z46 := Tryz.sizeOf224
  v46 := Tryz.zeroValue224
  t105 := Tryz.underlying326
  a105 := Tryz.isAgg326
  z105 := Tryz.sizeOf326
  v105 := Tryz.zeroValue326
  t116 := Tryz.underlying319
  a116 := Tryz.isAgg319
  z116 := Tryz.sizeOf319
  t117 := Tryz.underlying320
  a117 := Tryz.isAgg320
  z117 := Tryz.sizeOf320
  v117 := Tryz.zeroValue320
  t119 := Tryz.underlying332
  a119 := Tryz.isAgg332
  z119 := Tryz.sizeOf332
  t124 := Tryz.underlying323
  a124 := Tryz.isAgg323
  z124 := Tryz.sizeOf323
  v124 := Tryz.zeroValue323
  t138 := Tryz.underlying334
  a138 := Tryz.isAgg334
  z138 := Tryz.sizeOf334
  v138 := Tryz.zeroValue334
  t139 := Tryz.underlying335
  a139 := Tryz.isAgg335
  z139 := Tryz.sizeOf335
  v139 := Tryz.zeroValue335
  g3 := by kernel_rfl
  g4 := by kernel_rfl }
def Tryz.lays171_ren : Go.Shelf.Ren := ⟨fun | 171 => 101 | 243 => 164 | 246 => 203 | 283 => 240 | 284 => 241 | 285 => 242 | 286 => 243 | 129 => 224 | 317 => 268 | 318 => 269 | 319 => 270 | 320 => 271 | 337 => 287 | 338 => 288 | n => n, fun | 3 => 3 | 9 => 9 | 2 => 2 | 4 => 4 | 171 => 280 | 0 => 0 | 53 => 240 | 37 => 54 | 5 => 5 | 173 => 282 | 212 => 306 | 51 => 212 | 20 => 20 | 213 => 307 | 46 => 224 | 232 => 329 | 233 => 330 | n => n, fun | 17 => 0 | 18 => 2 | 19 => 3 | n => n⟩
theorem Tryz.lays171 : Go.Proofs.Lays.n171 Tryz.prog Tryz.lays171_ren := {
  mixed := by kernel_rfl
  f129 := Tryz.func224.trans (congrArg some (by kernel_rfl))
  f171 := Tryz.func101.trans (congrArg some (by kernel_rfl))
  f243 := Tryz.func164.trans (congrArg some (by kernel_rfl))
  f246 := Tryz.func203.trans (congrArg some (by kernel_rfl))
  f283 := Tryz.func240.trans (congrArg some (by kernel_rfl))
  f284 := Tryz.func241.trans (congrArg some (by kernel_rfl))
  f285 := Tryz.func242.trans (congrArg some (by kernel_rfl))
  f286 := Tryz.func243.trans (congrArg some (by kernel_rfl))
  f317 := Tryz.func268.trans (congrArg some (by kernel_rfl))
  f318 := Tryz.func269.trans (congrArg some (by kernel_rfl))
  f319 := Tryz.func270.trans (congrArg some (by kernel_rfl))
  f320 := Tryz.func271.trans (congrArg some (by kernel_rfl))
  f337 := Tryz.func287.trans (congrArg some (by kernel_rfl))
  f338 := Tryz.func288.trans (congrArg some (by kernel_rfl))
  t0 := Tryz.underlying0
  a0 := Tryz.isAgg0
  z0 := Tryz.sizeOf0
  v0 := Tryz.zeroValue0
  t2 := Tryz.underlying2
  a2 := Tryz.isAgg2
  z2 := Tryz.sizeOf2
  v2 := Tryz.zeroValue2
  t3 := Tryz.underlying3
  a3 := Tryz.isAgg3
  z3 := Tryz.sizeOf3
  v3 := Tryz.zeroValue3
  t4 := Tryz.underlying4
  a4 := Tryz.isAgg4
  z4 := Tryz.sizeOf4
  v4 := Tryz.zeroValue4
  t5 := Tryz.underlying5
  a5 := Tryz.isAgg5
  z5 := Tryz.sizeOf5
  v5 := Tryz.zeroValue5
  t9 := Tryz.underlying9
  a9 := Tryz.isAgg9
  z9 := Tryz.sizeOf9
  v9 := Tryz.zeroValue9
  t20 := Tryz.underlying20
  a20 := Tryz.isAgg20
  z20 := Tryz.sizeOf20
  v20 := Tryz.zeroValue20
  t37 := Tryz.underlying54
  a37 := Tryz.isAgg54
  z37 := Tryz.sizeOf54
  v37 := Tryz.zeroValue54
  t46 := Tryz.underlying224
  a46 := Tryz.isAgg224
  z46 := Tryz.sizeOf224
  v46 := Tryz.zeroValue224
  t51 := Tryz.underlying212
  a51 := Tryz.isAgg212
  z51 := Tryz.sizeOf212
  v51 := Tryz.zeroValue212
  t53 := Tryz.underlying240
  a53 := Tryz.isAgg240
  z53 := Tryz.sizeOf240
  v53 := Tryz.zeroValue240
  t171 := Tryz.underlying280
  a171 := Tryz.isAgg280
  z171 := Tryz.sizeOf280
  v171 := Tryz.zeroValue280
  t173 := Tryz.underlying282
  a173 := Tryz.isAgg282
  z173 := Tryz.sizeOf282
  v173 := Tryz.zeroValue282
  t212 := Tryz.underlying306
  a212 := Tryz.isAgg306
  z212 := Tryz.sizeOf306
  v212 := Tryz.zeroValue306
  t213 := Tryz.underlying307
  a213 := Tryz.isAgg307
  z213 := Tryz.sizeOf307
  t232 := Tryz.underlying329
  a232 := Tryz.isAgg329
  z232 := Tryz.sizeOf329
  v232 := Tryz.zeroValue329
  t233 := Tryz.underlying330
  a233 := Tryz.isAgg330
  z233 := Tryz.sizeOf330
  v233 := Tryz.zeroValue330
  g17 := by kernel_rfl
  g18 := by kernel_rfl
  g19 := by kernel_rfl }
def Tryz.lays189_ren : Go.Shelf.Ren := ⟨fun | 189 => 117 | 125 => 180 | 257 => 179 | 128 => 223 | 129 => 224 | 294 => 214 | 295 => 215 | 296 => 216 | 297 => 217 | 298 => 218 | 299 => 219 | 216 => 220 | 300 => 221 | 301 => 222 | 328 => 257 | 329 => 258 | 330 => 259 | 331 => 260 | 332 => 261 | 215 => 210 | 343 => 277 | n => n, fun | 28 => 153 | 3 => 3 | 46 => 224 | 0 => 0 | 51 => 212 | 53 => 240 | 4 => 4 | 183 => 262 | 182 => 261 | 131 => 266 | 5 => 5 | 9 => 9 | 218 => 294 | 222 => 298 | 228 => 312 | 229 => 313 | n => n, fun | n => n⟩
theorem Tryz.lays189 : Go.Proofs.Lays.n189 Tryz.prog Tryz.lays189_ren := {
  mixed := by kernel_rfl
  f125 := Tryz.func180.trans (congrArg some (by kernel_rfl))
  f128 := Tryz.func223.trans (congrArg some (by kernel_rfl))
  f129 := Tryz.func224.trans (congrArg some (by kernel_rfl))
  f189 := Tryz.func117.trans (congrArg some (by kernel_rfl))
  f215 := Tryz.func210.trans (congrArg some (by kernel_rfl))
  f216 := Tryz.func220.trans (congrArg some (by kernel_rfl))
  f257 := Tryz.func179.trans (congrArg some (by kernel_rfl))
  f294 := Tryz.func214.trans (congrArg some (by kernel_rfl))
  f295 := Tryz.func215.trans (congrArg some (by kernel_rfl))
  f296 := Tryz.func216.trans (congrArg some (by kernel_rfl))
  f297 := Tryz.func217.trans (congrArg some (by kernel_rfl))
  f298 := Tryz.func218.trans (congrArg some (by kernel_rfl))
  f299 := Tryz.func219.trans (congrArg some (by kernel_rfl))
  f300 := Tryz.func221.trans (congrArg some (by kernel_rfl))
  f301 := Tryz.func222.trans (congrArg some (by kernel_rfl))
  f328 := Tryz.func257.trans (congrArg some (by kernel_rfl))
  f329 := Tryz.func258.trans (congrArg some (by kernel_rfl))
  f330 := Tryz.func259.trans (congrArg some (by kernel_rfl))
  f331 := Tryz.func260.trans (congrArg some (by kernel_rfl))
  f332 := Tryz.func261.trans (congrArg some (by kernel_rfl))
  f343 := Tryz.func277.trans (congrArg some (by kernel_rfl))
  t0 := Tryz.underlying0
  a0 := Tryz.isAgg0
  z0 := Tryz.sizeOf0
  v0 := Tryz.zeroValue0
  t3 := Tryz.underlying3
  a3 := Tryz.isAgg3
  z3 := Tryz.sizeOf3
  v3 := Tryz.zeroValue3
  t4 := Tryz.underlying4
  a4 := Tryz.isAgg4
  z4 := Tryz.sizeOf4
  v4 := Tryz.zeroValue4
  t5 := Tryz.underlying5
  a5 := Tryz.isAgg5
  z5 := Tryz.sizeOf5
  v5 := Tryz.zeroValue5
  t9 := Tryz.underlying9
  a9 := Tryz.isAgg9
  z9 := Tryz.sizeOf9
  v9 := Tryz.zeroValue9
  t28 := Tryz.underlying153
  a28 := Tryz.isAgg153
  z28 := Tryz.sizeOf153
  v28 := Tryz.zeroValue153
  t46 := Tryz.underlying224
  a46 := Tryz.isAgg224
  z46 := Tryz.sizeOf224
  v46 := Tryz.zeroValue224
  t51 := Tryz.underlying212
  a51 := Tryz.isAgg212
  z51 := Tryz.sizeOf212
  v51 := Tryz.zeroValue212
  t53 := Tryz.underlying240
  a53 := Tryz.isAgg240
  z53 := Tryz.sizeOf240
  v53 := Tryz.zeroValue240
  t131 := Tryz.underlying266
  a131 := Tryz.isAgg266
  z131 := Tryz.sizeOf266
  v131 := Tryz.zeroValue266
  t182 := Tryz.underlying261
  a182 := Tryz.isAgg261
  z182 := Tryz.sizeOf261
  v182 := Tryz.zeroValue261
  t183 := Tryz.underlying262
  a183 := Tryz.isAgg262
  z183 := Tryz.sizeOf262
  v183 := Tryz.zeroValue262
  t218 := Tryz.underlying294
  a218 := Tryz.isAgg294
  z218 := Tryz.sizeOf294
  v218 := Tryz.zeroValue294
  t222 := Tryz.underlying298
  a222 := Tryz.isAgg298
  z222 := Tryz.sizeOf298
  v222 := Tryz.zeroValue298
  t228 := Tryz.underlying312
  a228 := Tryz.isAgg312
  z228 := Tryz.sizeOf312
  v228 := Tryz.zeroValue312
  t229 := Tryz.underlying313
  a229 := Tryz.isAgg313
  z229 := Tryz.sizeOf313
  v229 := Tryz.zeroValue313 }
def Tryz.lays190_ren : Go.Shelf.Ren := ⟨fun | 190 => 126 | 125 => 180 | 258 => 188 | 128 => 223 | 129 => 224 | 302 => 227 | 303 => 228 | 304 => 229 | 305 => 230 | 306 => 231 | 307 => 232 | 308 => 233 | 309 => 234 | 310 => 235 | 333 => 263 | 329 => 258 | 330 => 259 | 334 => 264 | 335 => 265 | 336 => 266 | 344 => 279 | n => n, fun | 31 => 36 | 9 => 9 | 3 => 3 | 46 => 224 | 0 => 0 | 51 => 212 | 53 => 240 | 4 => 4 | 183 => 262 | 182 => 261 | 131 => 266 | 5 => 5 | 218 => 294 | 222 => 298 | 228 => 312 | 229 => 313 | n => n, fun | n => n⟩
theorem Tryz.lays190 : Go.Proofs.Lays.n190 Tryz.prog Tryz.lays190_ren := {
  mixed := by kernel_rfl
  f125 := Tryz.func180.trans (congrArg some (by kernel_rfl))
  f128 := Tryz.func223.trans (congrArg some (by kernel_rfl))
  f129 := Tryz.func224.trans (congrArg some (by kernel_rfl))
  f190 := Tryz.func126.trans (congrArg some (by kernel_rfl))
  f258 := Tryz.func188.trans (congrArg some (by kernel_rfl))
  f302 := Tryz.func227.trans (congrArg some (by kernel_rfl))
  f303 := Tryz.func228.trans (congrArg some (by kernel_rfl))
  f304 := Tryz.func229.trans (congrArg some (by kernel_rfl))
  f305 := Tryz.func230.trans (congrArg some (by kernel_rfl))
  f306 := Tryz.func231.trans (congrArg some (by kernel_rfl))
  f307 := Tryz.func232.trans (congrArg some (by kernel_rfl))
  f308 := Tryz.func233.trans (congrArg some (by kernel_rfl))
  f309 := Tryz.func234.trans (congrArg some (by kernel_rfl))
  f310 := Tryz.func235.trans (congrArg some (by kernel_rfl))
  f329 := Tryz.func258.trans (congrArg some (by kernel_rfl))
  f330 := Tryz.func259.trans (congrArg some (by kernel_rfl))
  f333 := Tryz.func263.trans (congrArg some (by kernel_rfl))
  f334 := Tryz.func264.trans (congrArg some (by kernel_rfl))
  f335 := Tryz.func265.trans (congrArg some (by kernel_rfl))
  f336 := Tryz.func266.trans (congrArg some (by kernel_rfl))
  f344 := Tryz.func279.trans (congrArg some (by kernel_rfl))
  t0 := Tryz.underlying0
  a0 := Tryz.isAgg0
  z0 := Tryz.sizeOf0
  v0 := Tryz.zeroValue0
  t3 := Tryz.underlying3
  a3 := Tryz.isAgg3
  z3 := Tryz.sizeOf3
  v3 := Tryz.zeroValue3
  t4 := Tryz.underlying4
  a4 := Tryz.isAgg4
  z4 := Tryz.sizeOf4
  v4 := Tryz.zeroValue4
  t5 := Tryz.underlying5
  a5 := Tryz.isAgg5
  z5 := Tryz.sizeOf5
  v5 := Tryz.zeroValue5
  t9 := Tryz.underlying9
  a9 := Tryz.isAgg9
  z9 := Tryz.sizeOf9
  v9 := Tryz.zeroValue9
  t31 := Tryz.underlying36
  a31 := Tryz.isAgg36
  z31 := Tryz.sizeOf36
  v31 := Tryz.zeroValue36
  t46 := Tryz.underlying224
  a46 := Tryz.isAgg224
  z46 := Tryz.sizeOf224
  v46 := Tryz.zeroValue224
  t51 := Tryz.underlying212
  a51 := Tryz.isAgg212
  z51 := Tryz.sizeOf212
  v51 := Tryz.zeroValue212
  t53 := Tryz.underlying240
  a53 := Tryz.isAgg240
  z53 := Tryz.sizeOf240
  v53 := Tryz.zeroValue240
  t131 := Tryz.underlying266
  a131 := Tryz.isAgg266
  z131 := Tryz.sizeOf266
  v131 := Tryz.zeroValue266
  t182 := Tryz.underlying261
  a182 := Tryz.isAgg261
  z182 := Tryz.sizeOf261
  v182 := Tryz.zeroValue261
  t183 := Tryz.underlying262
  a183 := Tryz.isAgg262
  z183 := Tryz.sizeOf262
  v183 := Tryz.zeroValue262
  t218 := Tryz.underlying294
  a218 := Tryz.isAgg294
  z218 := Tryz.sizeOf294
  v218 := Tryz.zeroValue294
  t222 := Tryz.underlying298
  a222 := Tryz.isAgg298
  z222 := Tryz.sizeOf298
  v222 := Tryz.zeroValue298
  t228 := Tryz.underlying312
  a228 := Tryz.isAgg312
  z228 := Tryz.sizeOf312
  v228 := Tryz.zeroValue312
  t229 := Tryz.underlying313
  a229 := Tryz.isAgg313
  z229 := Tryz.sizeOf313
  v229 := Tryz.zeroValue313 }
def Tryz.keys_ren : Go.Shelf.Ren := ⟨fun | 7 => 65 | 10 => 127 | n => n, fun | 23 => 109 | 26 => 9 | 3 => 36 | 28 => 131 | 0 => 0 | 27 => 130 | 33 => 107 | 4 => 4 | n => n, fun | n => n⟩
theorem Tryz.keys : Go.Proofs.SlLaysZ.n7 Tryz.prog Tryz.keys_ren := {
  mixed := by kernel_rfl
  f7 := ⟨Tryz.f65.name, by decide, Tryz.func65.trans (congrArg some (by kernel_rfl))⟩
  f10 := ⟨Tryz.f127.name, by decide, Tryz.func127.trans (congrArg some (by kernel_rfl))⟩
  t0 := Tryz.underlying0
  a0 := Tryz.isAgg0
  z0 := Tryz.sizeOf0
  v0 := Tryz.zeroValue0
  t4 := Tryz.underlying4
  a4 := Tryz.isAgg4
  z4 := Tryz.sizeOf4
  v4 := Tryz.zeroValue4
  t23 := Tryz.underlying109
  a23 := Tryz.isAgg109
  z23 := Tryz.sizeOf109
  v23 := Tryz.zeroValue109
  t26 := Tryz.underlying9
  a26 := Tryz.isAgg9
  z26 := Tryz.sizeOf9
  v26 := Tryz.zeroValue9
  t27 := Tryz.underlying130
  a27 := Tryz.isAgg130
  z27 := Tryz.sizeOf130
  v27 := Tryz.zeroValue130
  t28 := Tryz.underlying131
  a28 := Tryz.isAgg131
  z28 := Tryz.sizeOf131
  v28 := Tryz.zeroValue131
  t33 := Tryz.underlying107
  a33 := Tryz.isAgg107
  z33 := Tryz.sizeOf107
  v33 := Tryz.zeroValue107 }
def Tryz.sorted_ren : Go.Shelf.Ren := ⟨fun | 6 => 64 | 8 => 125 | 9 => 126 | 11 => 187 | 13 => 180 | 12 => 188 | 23 => 223 | 24 => 224 | 14 => 227 | 15 => 228 | 16 => 229 | 17 => 230 | 18 => 231 | 19 => 232 | 20 => 233 | 21 => 234 | 22 => 235 | 25 => 263 | 26 => 258 | 27 => 259 | 28 => 264 | 29 => 265 | 30 => 266 | 31 => 279 | n => n, fun | 26 => 9 | 28 => 131 | 24 => 36 | 0 => 0 | 3 => 3 | 37 => 224 | 48 => 212 | 50 => 240 | 4 => 4 | 40 => 262 | 39 => 261 | 45 => 266 | 5 => 5 | 9 => 9 | 51 => 294 | 55 => 298 | 57 => 312 | 58 => 313 | 33 => 107 | n => n, fun | n => n⟩
theorem Tryz.sorted : Go.Proofs.SlLaysZ.n6 Tryz.prog Tryz.sorted_ren := {
  mixed := by kernel_rfl
  f6 := ⟨Tryz.f64.name, by decide, Tryz.func64.trans (congrArg some (by kernel_rfl))⟩
  f8 := ⟨Tryz.f125.name, by decide, Tryz.func125.trans (congrArg some (by kernel_rfl))⟩
  f11 := ⟨Tryz.f187.name, by decide, Tryz.func187.trans (congrArg some (by kernel_rfl))⟩
  t0 := Tryz.underlying0
  a0 := Tryz.isAgg0
  z0 := Tryz.sizeOf0
  v0 := Tryz.zeroValue0
  t24 := Tryz.underlying36
  a24 := Tryz.isAgg36
  z24 := Tryz.sizeOf36
  v24 := Tryz.zeroValue36
  t26 := Tryz.underlying9
  a26 := Tryz.isAgg9
  z26 := Tryz.sizeOf9
  v26 := Tryz.zeroValue9
  t28 := Tryz.underlying131
  a28 := Tryz.isAgg131
  z28 := Tryz.sizeOf131
  v28 := Tryz.zeroValue131
  i26 := by kernel_rfl }
def Tryz.sortEdge_ren : Go.Shelf.Ren := ⟨fun | 6 => 170 | 15 => 180 | 14 => 209 | 28 => 223 | 29 => 224 | 20 => 248 | 21 => 249 | 22 => 250 | 23 => 251 | 24 => 252 | 25 => 253 | 26 => 254 | 27 => 255 | 46 => 273 | 47 => 258 | 48 => 259 | 49 => 274 | 50 => 275 | 57 => 289 | n => n, fun | 22 => 40 | 24 => 128 | 25 => 182 | 3 => 3 | 39 => 224 | 0 => 0 | 53 => 212 | 55 => 240 | 4 => 4 | 46 => 262 | 45 => 261 | 50 => 266 | 5 => 5 | 9 => 9 | 66 => 294 | 70 => 298 | 76 => 312 | 77 => 313 | n => n, fun | n => n⟩
theorem Tryz.sortEdge : Go.Proofs.SlLaysF0.n6 Tryz.prog Tryz.sortEdge_ren := {
  mixed := by kernel_rfl
  f6 := ⟨Tryz.f170.name, by decide, Tryz.func170.trans (congrArg some (by kernel_rfl))⟩
  f14 := ⟨Tryz.f209.name, by decide, Tryz.func209.trans (congrArg some (by kernel_rfl))⟩
  f15 := Tryz.func180.trans (congrArg some (by kernel_rfl))
  f20 := ⟨Tryz.f248.name, by decide, Tryz.func248.trans (congrArg some (by kernel_rfl))⟩
  f21 := ⟨Tryz.f249.name, by decide, Tryz.func249.trans (congrArg some (by kernel_rfl))⟩
  f22 := ⟨Tryz.f250.name, by decide, Tryz.func250.trans (congrArg some (by kernel_rfl))⟩
  f23 := ⟨Tryz.f251.name, by decide, Tryz.func251.trans (congrArg some (by kernel_rfl))⟩
  f24 := ⟨Tryz.f252.name, by decide, Tryz.func252.trans (congrArg some (by kernel_rfl))⟩
  f25 := ⟨Tryz.f253.name, by decide, Tryz.func253.trans (congrArg some (by kernel_rfl))⟩
  f26 := ⟨Tryz.f254.name, by decide, Tryz.func254.trans (congrArg some (by kernel_rfl))⟩
  f27 := ⟨Tryz.f255.name, by decide, Tryz.func255.trans (congrArg some (by kernel_rfl))⟩
  f28 := Tryz.func223.trans (congrArg some (by kernel_rfl))
  f29 := Tryz.func224.trans (congrArg some (by kernel_rfl))
  f46 := ⟨Tryz.f273.name, by decide, Tryz.func273.trans (congrArg some (by kernel_rfl))⟩
  f47 := Tryz.func258.trans (congrArg some (by kernel_rfl))
  f48 := Tryz.func259.trans (congrArg some (by kernel_rfl))
  f49 := ⟨Tryz.f274.name, by decide, Tryz.func274.trans (congrArg some (by kernel_rfl))⟩
  f50 := ⟨Tryz.f275.name, by decide, Tryz.func275.trans (congrArg some (by kernel_rfl))⟩
  f57 := ⟨Tryz.f289.name, by decide, Tryz.func289.trans (congrArg some (by kernel_rfl))⟩
  t0 := Tryz.underlying0
  a0 := Tryz.isAgg0
  z0 := Tryz.sizeOf0
  v0 := Tryz.zeroValue0
  t3 := Tryz.underlying3
  a3 := Tryz.isAgg3
  z3 := Tryz.sizeOf3
  v3 := Tryz.zeroValue3
  t4 := Tryz.underlying4
  a4 := Tryz.isAgg4
  z4 := Tryz.sizeOf4
  v4 := Tryz.zeroValue4
  t5 := Tryz.underlying5
  a5 := Tryz.isAgg5
  z5 := Tryz.sizeOf5
  v5 := Tryz.zeroValue5
  t9 := Tryz.underlying9
  a9 := Tryz.isAgg9
  z9 := Tryz.sizeOf9
  v9 := Tryz.zeroValue9
  t22 := Tryz.underlying40
  a22 := Tryz.isAgg40
  z22 := Tryz.sizeOf40
  v22 := Tryz.zeroValue40
  t25 := Tryz.underlying182
  a25 := Tryz.isAgg182
  z25 := Tryz.sizeOf182
  v25 := Tryz.zeroValue182
  t39 := Tryz.underlying224
  a39 := Tryz.isAgg224
  z39 := Tryz.sizeOf224
  v39 := Tryz.zeroValue224
  t45 := Tryz.underlying261
  a45 := Tryz.isAgg261
  z45 := Tryz.sizeOf261
  v45 := Tryz.zeroValue261
  t46 := Tryz.underlying262
  a46 := Tryz.isAgg262
  z46 := Tryz.sizeOf262
  v46 := Tryz.zeroValue262
  t50 := Tryz.underlying266
  a50 := Tryz.isAgg266
  z50 := Tryz.sizeOf266
  v50 := Tryz.zeroValue266
  t53 := Tryz.underlying212
  a53 := Tryz.isAgg212
  z53 := Tryz.sizeOf212
  v53 := Tryz.zeroValue212
  t55 := Tryz.underlying240
  a55 := Tryz.isAgg240
  z55 := Tryz.sizeOf240
  v55 := Tryz.zeroValue240
  t66 := Tryz.underlying294
  a66 := Tryz.isAgg294
  z66 := Tryz.sizeOf294
  v66 := Tryz.zeroValue294
  t70 := Tryz.underlying298
  a70 := Tryz.isAgg298
  z70 := Tryz.sizeOf298
  v70 := Tryz.zeroValue298
  t76 := Tryz.underlying312
  a76 := Tryz.isAgg312
  z76 := Tryz.sizeOf312
  v76 := Tryz.zeroValue312
  t77 := Tryz.underlying313
  a77 := Tryz.isAgg313
  z77 := Tryz.sizeOf313
  v77 := Tryz.zeroValue313 }
end Go.Proofs
namespace Go.Cz.S
open Go Go.RowKit Go.Shelf Go.Proofs
set_option linter.unusedSimpArgs false
set_option linter.unusedVariables false
attribute [local go_sem] Oper.semAt_some
def gapL (next : Int) : List Int → List Int
  | [] => []
  | x :: r => (x - next) :: gapL (x + 1) r
theorem gapsL_flat : ∀ (l : List Int) (a : Int), gapsL a l = (gapL a l).flatMap fun g => putN g.toNat
  | [], a => rfl
  | x :: r, a => by simp only [gapsL, gapL, List.flatMap_cons]; rw [gapsL_flat r]
theorem gapL_len : ∀ (l : List Int) (a : Int), (gapL a l).length = l.length
  | [], a => rfl
  | x :: r, a => by simp [gapL, gapL_len r]
def nxL (l : List Int) (k : Nat) : Int := if k = 0 then 0 else l[k - 1]! + 1
def gpL (l : List Int) (k : Nat) : Int := l[k]! - nxL l k
def uptoG {α : Type} (f : Nat → α) (k : Nat) : List α := (List.range k).map f
theorem uptoG_succ {α : Type} (f : Nat → α) (k : Nat) : uptoG f (k + 1) = uptoG f k ++ [f k] := by simp [uptoG, List.range_succ]
theorem uptoG_length {α : Type} (f : Nat → α) (k : Nat) : (uptoG f k).length = k := by simp [uptoG]
theorem gapL_get : ∀ (l : List Int) (a : Int) (k : Nat), k < l.length → (gapL a l)[k]? = some (l[k]! - if k = 0 then a else l[k - 1]! + 1)
  | x :: r, a, 0, h => by simp [gapL]
  | x :: r, a, k + 1, h => by
    have h' : k < r.length := by simpa using h
    simp only [gapL, List.getElem?_cons_succ]
    rw [gapL_get r (x + 1) k h']
    cases k with
    | zero => simp
    | succ k => simp
theorem uptoG_all (l : List Int) : uptoG (gpL l) l.length = gapL 0 l := by
  apply List.ext_getElem?
  intro i
  unfold uptoG
  by_cases hi : i < l.length
  · rw [List.getElem?_map, List.getElem?_range hi, Option.map_some, gapL_get l 0 i hi]
    rfl
  · rw [List.getElem?_eq_none (by simp; omega), List.getElem?_eq_none (by rw [gapL_len]; omega)]
theorem rises_get : ∀ (l : List Int) (a : Int), rises a l = true → ∀ k, k < l.length → a < l[k]! ∧ (0 < k → l[k - 1]! < l[k]!)
  | x :: r, a, h, 0, _ => by
    simp only [rises, Bool.and_eq_true, decide_eq_true_eq] at h
    simpa using h.1
  | x :: r, a, h, k + 1, hk => by
    simp only [rises, Bool.and_eq_true, decide_eq_true_eq] at h
    have h' : k < r.length := by simpa using hk
    have ih := rises_get r x h.2 k h'
    refine ⟨?_, fun _ => ?_⟩
    · have := ih.1; simp at this ⊢; omega
    · cases k with
      | zero => simpa using ih.1
      | succ k => simpa using ih.2 (by omega)
abbrev GN : Type := { n : Nat // n ≤ 9223372036854775807 }
def gpN (l : List Int) (k : Nat) : GN := ⟨(gpL l k).toNat % 9223372036854775808, by have := Nat.mod_lt (gpL l k).toNat (show 0 < 9223372036854775808 by decide); omega⟩
theorem gp_bd {l : List Int} (hr : rises (-1) l = true) (hm : ∀ x ∈ l, x ≤ 9223372036854775806) {k : Nat} (hk : k < l.length) : 0 ≤ gpL l k ∧ gpL l k ≤ 9223372036854775806 ∧ 0 ≤ l[k]! ∧ l[k]! ≤ 9223372036854775806 := by
  have h1 := rises_get l (-1) hr k hk
  have h2 : l[k]! ≤ 9223372036854775806 := hm _ (by rw [getElem!_pos l k hk]; exact List.getElem_mem hk)
  refine ⟨?_, ?_, by omega, h2⟩
  · unfold gpL nxL; split
    · omega
    · have := h1.2 (by omega); omega
  · unfold gpL nxL; split
    · omega
    · have h4 := rises_get l (-1) hr (k - 1) (by omega)
      omega
theorem gpN_eq {l : List Int} (hr : rises (-1) l = true) (hm : ∀ x ∈ l, x ≤ 9223372036854775806) {k : Nat} (hk : k < l.length) : ((gpN l k).1 : Int) = gpL l k := by
  have := gp_bd hr hm hk
  show (((gpL l k).toNat % 9223372036854775808 : Nat) : Int) = _
  rw [Nat.mod_eq_of_lt (by omega)]; omega
theorem gpN_flat {l : List Int} (hr : rises (-1) l = true) (hm : ∀ x ∈ l, x ≤ 9223372036854775806) : (uptoG (gpN l) l.length).flatMap (fun g => putN g.1) = gapsL 0 l := by
  rw [gapsL_flat, ← uptoG_all]
  unfold uptoG
  rw [List.flatMap_map, List.flatMap_map]
  have : ∀ k ∈ List.range l.length, putN (gpN l k).1 = putN (gpL l k).toNat := fun k hk => by
    have hk := List.mem_range.1 hk
    have := gpN_eq hr hm hk
    congr 1; omega
  rw [List.flatMap_def, List.flatMap_def]
  exact congrArg List.flatten (List.map_congr_left this)
set_option maxRecDepth 100000 in
set_option maxHeartbeats 2000000 in
theorem between1_in (F : Fence) (n : Nat) (h7 : F.fn 225) (hro : F.round = none) (hn : 1 ≤ n) (l : Nat) (Bx : Addr) (n₀ b off len cap : Nat) (f nx : Nat → Int) (g : Nat → GN) (hnx : nx 0 = 0) (hg : ∀ k, k < len → IntKind.i64.wrap (f k - nx k) = ((g k).1 : Int) ∧ IntKind.i64.wrap (f k + 1) = nx (k + 1)) (hreach : len * 8 ≤ 140737488351232) (hb : b < n₀) (J Jx : List GN → World → Prop)
    (hY : ∀ pre x W, J pre W → pre.length < len → YieldAt F (n - 1) Tryz.prog l #[.int .i64 (x.1 : Int)] W fun e W' =>
      (e = .returned (.bool true) ∧ J (pre ++ [x]) W' ∧ Below n₀ W W') ∨ (e = .returned (.bool false) ∧ Jx (pre ++ [x]) W'))
    (W : World) (hn₀ : n₀ ≤ W.heap.size)
    (hBs : W.cell? Bx = some (.slice (some ⟨b, off, none⟩) len cap)) (hc : ∀ j, j < len → W.cell? ⟨b, off + j, none⟩ = some (.int .i64 (f j))) (h0 : J [] W) :
    CallsIn F n Tryz.prog 225 #[.func (.yield l) #[] #[], .pointer (some Bx)] W fun e W' => (∃ v, e = .returned v) ∧
      ((∃ ys, ys = uptoG g len ∧ J ys W') ∨ (∃ pre, (∃ k, k ≤ len ∧ pre = uptoG g k) ∧ Jx pre W')) := by
  refine callsIn_of_wp Tryz.func225 rfl h7 ?_ hro
  simp only [Tryz.ntmps225, List.size_toArray, List.length_cons, List.length_nil, Nat.reduceAdd, Nat.reduceSub, Array.replicate_succ, Array.replicate_zero, List.push_toArray, List.append_toArray, List.nil_append, List.cons_append]
  gi_wp2
  gi_loopw [3, 8] (fun vn vi wr => ∃ k : Nat, k ≤ len ∧ vn = .int .i64 (nx k) ∧ vi = .int .i64 k ∧ J (uptoG g k) wr ∧ Below n₀ W wr)
    (fun _ vi _ => len - (Go.RowKit.intOf vi).toNat)
  case atStart => exact ⟨0, Nat.zero_le _, by rw [hnx], rfl, h0, Below.refl _ _⟩
  case round =>
    obtain ⟨k, hk, rfl, rfl, hJs, hbl⟩ := hrel
    have hcx : k < len → wr.cell? ⟨b, off + k, none⟩ = some (.int .i64 (f k)) := fun h => (hbl.cell (p := ⟨b, _, none⟩) hb).trans (hc k h)
    by_cases hlt : k < len
    · have hc1 := hcx hlt
      obtain ⟨hg1, hg2⟩ := hg k hlt
      obtain ⟨fn, tmps, assign, body, hy, hR⟩ := hY _ (g k) wr hJs (by rw [uptoG_length]; exact hlt)
      gi_wp2
      refine hR.mono ?_
      rintro e W3 (⟨rfl, hJ3, hk3⟩ | ⟨rfl, hJx3⟩)
      · gi_wp2
        go_roundw
        case rel => exact ⟨k + 1, by omega, by rw [← hg2], by simp, by rw [uptoG_succ]; exact hJ3, hbl.trans hk3⟩
        case measure => simp [Go.RowKit.intOf]; omega
      · gi_wp2
        refine bodyPost_ret (results_none rfl _ _ _) rfl ?_
        exact ⟨⟨_, rfl⟩, .inr ⟨_, ⟨k + 1, by omega, (uptoG_succ _ _).symm⟩, hJx3⟩⟩
    · obtain rfl : k = len := by omega
      gi_wp2
      go_end0
      exact ⟨⟨_, rfl⟩, .inl ⟨_, rfl, hJs⟩⟩
set_option maxRecDepth 100000 in
set_option maxHeartbeats 1000000 in
theorem between1_nil_in (F : Fence) (n : Nat) (h7 : F.fn 225) (hro : F.round = none) (l : Nat) (Bx : Addr) (a : Option Addr) (cap : Nat) (J : List GN → World → Prop) (W : World) (hBs : W.cell? Bx = some (.slice a 0 cap)) (h0 : J [] W) :
    CallsIn F n Tryz.prog 225 #[.func (.yield l) #[] #[], .pointer (some Bx)] W fun e W' => (∃ v, e = .returned v) ∧ J [] W' := by
  refine callsIn_of_wp Tryz.func225 rfl h7 ?_ hro
  simp only [Tryz.ntmps225, List.size_toArray, List.length_cons, List.length_nil, Nat.reduceAdd, Nat.reduceSub, Array.replicate_succ, Array.replicate_zero, List.push_toArray, List.append_toArray, List.nil_append, List.cons_append]
  gi_wp2
  gi_loopw [3, 8] (fun vn i wr => vn = .int .i64 0 ∧ i = .int .i64 0 ∧ J [] wr) (fun _ _ _ => 0)
  case atStart => exact ⟨rfl, rfl, h0⟩
  case round =>
    obtain ⟨rfl, rfl, hJs⟩ := hrel
    gi_wp2
    go_end0
    exact ⟨⟨_, rfl⟩, hJs⟩
structure AtG (w : World) (n₀ : Nat) (Bx : Addr) (a : Option Addr) (cap : Nat) (l : List Int) : Prop where
  box : w.cell? Bx = some (.slice a l.length cap)
  old : Bx.block < w.heap.size
  le : n₀ ≤ w.heap.size
  cells : l ≠ [] → ∃ b off, a = some ⟨b, off, none⟩ ∧ b < n₀ ∧ ∀ j, j < l.length → w.cell? ⟨b, off + j, none⟩ = some (.int .i64 l[j]!)
theorem between_stops (F : Fence) (n : Nat) (h7 : F.fn 225) (hro : F.round = none) (hn : 1 ≤ n) (n₀ : Nat) (Bx : Addr) (a : Option Addr) (cap : Nat) (l : List Int) (hr : rises (-1) l = true) (hm : ∀ x ∈ l, x ≤ 9223372036854775806) (hreach : l.length * 8 ≤ 140737488351232) (w : World) (A : AtG w n₀ Bx a cap l) :
    SeqStopsK F n Tryz.prog 225 #[.pointer (some Bx)] (fun x : GN => #[.int .i64 (x.1 : Int)]) (Below n₀) (fun ys => ys = uptoG (gpN l) l.length) (fun _ => True) l.length w := fun k J Jx W hW hJ _ hY h0 => by
  have hc' := (hW.cell (p := Bx) A.old).trans A.box
  by_cases e : l = []
  · subst e
    exact (between1_nil_in F n h7 hro k Bx a cap J W hc' h0).mono fun e W' ⟨he, hj⟩ => ⟨he, .inl ⟨_, rfl, hj⟩⟩
  · obtain ⟨b, off, rfl, hb, hcs⟩ := A.cells e
    have hle := A.le
    have hw : ∀ x : Int, -9223372036854775808 ≤ x → x ≤ 9223372036854775807 → IntKind.i64.wrap x = x := fun x h1 h2 => wrap64 h1 h2
    refine (between1_in F n h7 hro hn k Bx n₀ b off l.length cap (fun i => l[i]!) (nxL l) (gpN l) rfl (fun k hk => ?_) hreach hb J Jx hY W (Nat.le_trans hle hW.size) hc' (fun j hj => (hW.cell (p := ⟨b, _, none⟩) (Nat.lt_of_lt_of_le hb hle)).trans (hcs j hj)) h0).mono ?_
    · have hb := gp_bd hr hm hk
      refine ⟨?_, ?_⟩
      · rw [gpN_eq hr hm hk]
        exact hw _ (by show _ ≤ gpL l k; omega) (by show gpL l k ≤ _; omega)
      · have h3 : nxL l (k + 1) = l[k]! + 1 := by simp [nxL]
        rw [h3]; exact hw _ (by omega) (by omega)
    · rintro e W' ⟨he, ⟨ys, rfl, hj⟩ | ⟨pre, _, hj⟩⟩
      · exact ⟨he, .inl ⟨_, rfl, hj⟩⟩
      · exact ⟨he, .inr ⟨_, trivial, hj⟩⟩
end Go.Cz.S
namespace Go.Cz.S
open Go Go.RowKit Go.Shelf Go.Proofs Go.Cz.Crc
set_option linter.unusedSimpArgs false
set_option linter.unusedVariables false
attribute [local go_sem] Oper.semAt_some
def WBd (W : World) (n₀ b : Nat) (t : List UInt8) : Prop := ∃ (q : Option Addr) (v : Sl), n₀ ≤ b ∧ W.heap[b]? = some (.cells #[.pointer q, .slice v.a v.len v.cap] 135 (0, 0)) ∧ (q = none ∨ q = some ⟨b, 0, none⟩) ∧ v.len = t.length ∧
  ((v.a = none ∧ v.cap = 0 ∧ t = []) ∨ ∃ g rest, v.a = some ⟨g, 0, none⟩ ∧ g ≠ b ∧ n₀ ≤ g ∧ W.heap[g]? = some (.cells (u8s t ++ rest).toArray 5 (0, 0)) ∧ v.cap = t.length + rest.length)
theorem cells_at {W W' : World} {row : Option Nat} {B : Nat} {c : Array Value} {T : TypeId} {fz : Nat × Nat} (h : W.heap[B]? = some (.cells c T fz)) (hg : W.grownBy W' row) (hr : ∀ r, row = some r → ∃ o, W.heap[r]? = some o ∧ o.isCells = false) : W'.heap[B]? = some (.cells c T fz) := by
  refine (hg.block B (Array.getElem?_eq_some_iff.1 h).1 (fun e => ?_)).trans h
  obtain ⟨o, ho, hc⟩ := hr B e.symm
  rw [h] at ho; cases ho; cases hc
theorem WBd.grown {W W' : World} {row : Option Nat} {n₀ b : Nat} {t : List UInt8} (B : WBd W n₀ b t) (hg : W.grownBy W' row) (hr : ∀ r, row = some r → ∃ o, W.heap[r]? = some o ∧ o.isCells = false) : WBd W' n₀ b t := by
  obtain ⟨q, v, h0, h1, h2, h3, h4⟩ := B
  refine ⟨q, v, h0, cells_at h1 hg hr, h2, h3, ?_⟩
  rcases h4 with h | ⟨g, rest, e1, e2, e3, e4, e5⟩
  · exact .inl h
  · exact .inr ⟨g, rest, e1, e2, e3, cells_at e4 hg hr, e5⟩
theorem WBd.same {W W' : World} {n₀ b : Nat} {t : List UInt8} (B : WBd W n₀ b t) (h : ∀ k, k < W.heap.size → W'.heap[k]? = W.heap[k]?) : WBd W' n₀ b t := by
  obtain ⟨q, v, h0, h1, h2, h3, h4⟩ := B
  have hk : ∀ {k : Nat} {o : Go.Obj}, W.heap[k]? = some o → W'.heap[k]? = some o := fun e => (h _ (Array.getElem?_eq_some_iff.1 e).1).trans e
  refine ⟨q, v, h0, hk h1, h2, h3, ?_⟩
  rcases h4 with h | ⟨g, rest, e1, e2, e3, e4, e5⟩
  · exact .inl h
  · exact .inr ⟨g, rest, e1, e2, e3, hk e4, e5⟩
theorem wbd_write {W : World} {n₀ b : Nat} {t : List UInt8} (B : WBd W n₀ b t) (hn : n₀ ≤ W.heap.size) (s : ByteArray) (hbd : t.length + s.size ≤ 140737488355328) :
    Calls Tryz.prog 128 #[.pointer (some ⟨b, 0, none⟩), .string s] W fun e W' => (∃ v, e = .returned v) ∧ WBd W' n₀ b (t ++ s.data.toList) ∧ Below n₀ W W' ∧ KeepsOthers W W' := by
  obtain ⟨q, v, h0, h1, h2, h3, h4⟩ := B
  have hsl : s.data.toList.length = s.size := size_data s
  have hw := Go.Cz.bld_write (P := Tryz.prog) (ρ := Tryz.lays105_ren) { Tryz.lays105 with } Tryz.Builder_Extra_105 (t := t) h1 h2 h3 (by
    rcases h4 with h | ⟨g, rest, e1, e2, e3, e4, e5⟩
    · exact .inl h
    · exact .inr ⟨g, rest, e1, e2, e4, e5⟩) s hbd
  refine hw.mono ?_
  rintro e w' ⟨rfl, w1, w2, v', q1, q2, q3, q4, q5, hG, r1, r2, r3, r4, r5, r6⟩
  have hblt : b < W.heap.size := (Array.getElem?_eq_some_iff.1 h1).1
  have hcell : ∀ {k : Nat} {o : Go.Obj} {c : Array Value} {T : TypeId} {fz : Nat × Nat}, W.heap[k]? = some o → o.isCells = false → W.heap[k]? ≠ some (.cells c T fz) := fun h1 h2 h3 => by rw [h1] at h3; cases h3; cases h2
  rcases hG with ⟨rfl, rfl, hs0, hva⟩ | ⟨gb, rest, hva, hg1, hle, rfl, hg2, hsame, hsz, o1, o2, o3⟩ | ⟨rest, rfl, hpush, o1, o2, o3⟩
  · have hk : ∀ k, k ≠ b → w'.heap[k]? = W.heap[k]? := fun k hk => (r2 k hk).trans (q1 k hk)
    refine ⟨⟨_, rfl⟩, ⟨_, _, h0, r1, .inr rfl, by rw [hs0, List.append_nil]; exact h3, ?_⟩, ⟨r4.trans q3, r5.trans q4, r6.trans q5, by omega, fun k hkn => hk k (by omega)⟩, ⟨by omega, fun k o ho hc => ?_⟩⟩
    · rcases h4 with ⟨e1, e2, e3⟩ | ⟨g', rest, e1, _⟩
      · exact .inl ⟨e1, e2, by rw [e3, hs0]; rfl⟩
      · rw [hva] at e1; cases e1
    · rw [hk k (fun e => by subst e; exact hcell ho hc h1), ho]
  · have hgb : gb ≠ b ∧ n₀ ≤ gb := by
      rcases h4 with ⟨e1, _⟩ | ⟨g', rest', e1, e2, e3, _⟩
      · rw [hva] at e1; cases e1
      · rw [hva] at e1; cases e1; exact ⟨e2, e3⟩
    have hcap : v.cap = t.length + rest.length := by
      rcases h4 with ⟨e1, _⟩ | ⟨g', rest', e1, e2, e3, e4, e5⟩
      · rw [hva] at e1; cases e1
      · rw [hva] at e1; cases e1
        have e6 := (q1 gb hgb.1).symm.trans hg1
        rw [e4] at e6
        simp only [Option.some.injEq, Go.Obj.cells.injEq] at e6
        have e7 := congrArg (fun a : Array Value => a.toList.length) e6.1
        simp [u8s_length] at e7
        omega
    have hgw : W.heap[gb]? = some (.cells (u8s t ++ rest).toArray 5 (0, 0)) := (q1 gb hgb.1).symm.trans hg1
    have hk : ∀ k, k ≠ b → k ≠ gb → w'.heap[k]? = W.heap[k]? := fun k hk hk2 => (r2 k hk).trans ((hsame k hk2).trans (q1 k hk))
    refine ⟨⟨_, rfl⟩, ⟨_, _, h0, r1, .inr rfl, by simp [h3], .inr ⟨gb, rest.drop s.data.toList.length, hva, hgb.1, hgb.2, (r2 gb hgb.1).trans hg2, ?_⟩⟩, ⟨r4.trans (o1.trans q3), r5.trans (o2.trans q4), r6.trans (o3.trans q5), by omega, fun k hkn => hk k (by omega) (by omega)⟩, ⟨by omega, fun k o ho hc => ?_⟩⟩
    · show v.cap = _
      simp; omega
    · rw [hk k (fun e => by subst e; exact hcell ho hc h1) (fun e => by subst e; exact hcell ho hc hgw), ho]
  · have hk : ∀ k, k ≠ b → k < W.heap.size → w'.heap[k]? = W.heap[k]? := fun k hk hk2 => by
      rw [r2 k hk, hpush, Array.getElem?_push, if_neg (by omega), q1 k hk]
    refine ⟨⟨_, rfl⟩, ⟨_, _, h0, r1, .inr rfl, by simp [h3], .inr ⟨w1.heap.size, rest, rfl, by omega, by omega, ?_, by simp [h3]⟩⟩, ⟨r4.trans (o1.trans q3), r5.trans (o2.trans q4), r6.trans (o3.trans q5), by rw [r3, hpush]; simp; omega, fun k hkn => hk k (by omega) (by omega)⟩, ⟨by rw [r3, hpush]; simp; omega, fun k o ho hc => ?_⟩⟩
    · rw [r2 _ (by omega), hpush, Array.getElem?_push, if_pos rfl]
      rfl
    · have hlt := (Array.getElem?_eq_some_iff.1 ho).1
      rw [hk k (fun e => by subst e; exact hcell ho hc h1) hlt, ho]
theorem put_calls {FP : Int → (ByteArray → HProp) → HProp} (hP : Linked Tryz.prog ⟨123, [.leaf (.o (.i .i64))], [.leaf (.o .s)], FP⟩) (sP : ∀ n : Nat, n ≤ 9223372036854775807 → ∀ (Q : ByteArray → HProp) h, (∀ h', Ext h h' → Q (mkB (putN n)) h') → FP (n : Int) Q h)
    (n : Nat) (hn : n ≤ 9223372036854775807) (W : World) :
    Calls Tryz.prog 123 #[.int .i64 n] W fun e W' => e = .returned (.string (mkB (putN n))) ∧ Below W.heap.size W W' := by
  have h := hP.2 (n : Int) [.int .i64 n] (fun r _ => r = mkB (putN n)) (fun _ => none) W (by simp [tysOf, Sh.tys, unpackL, shape, SV.of, SV.of0, relL, rel]) ⟨fun b c h => by cases h⟩ (sP n hn _ _ fun h' _ => rfl)
  refine h.mono ?_
  rintro e w' ⟨r, v, h', rfl, hr, rfl, _, k⟩
  simp only [retSV, shape, tysOf, Sh.tys, unpackL, SV.of, SV.of0, rel] at hr
  subst hr
  exact ⟨rfl, k.os, k.tape, k.output, k.size, fun b hb => (k.old b hb (fun c e => by cases e)).2⟩
end Go.Cz.S
namespace Go.Cz.S
open Go Go.RowKit Go.Shelf Go.Proofs Go.Cz.Crc
set_option linter.unusedSimpArgs false
set_option linter.unusedVariables false
attribute [local go_sem] Oper.semAt_some
set_option maxRecDepth 100000 in
set_option maxHeartbeats 1000000 in
theorem between_in (F : Fence) (n : Nat) (h7 : F.fn 183) (hro : F.round = none) (a : Option Addr) (len cap : Nat) (w : World) :
    CallsIn F n Tryz.prog 183 #[.slice a len cap] w fun e w' => e = .returned (.func (.func 225) #[] #[.pointer (some ⟨w.heap.size, 0, none⟩)]) ∧ w' = w.alloc (.cells #[.slice a len cap] 153) := by
  refine callsIn_of_wp Tryz.func183 rfl h7 ?_ hro
  simp only [Tryz.ntmps183, List.size_toArray, List.length_cons, List.length_nil, Nat.reduceAdd, Nat.reduceSub, Array.replicate_succ, Array.replicate_zero, List.push_toArray, List.append_toArray, List.nil_append, List.cons_append]
  gi_wp2
  go_ret
  exact ⟨rfl, rfl⟩
structure LstG (w : World) (n₀ : Nat) (a : Option Addr) (xs : List Int) : Prop where
  le : n₀ ≤ w.heap.size
  cells : xs ≠ [] → ∃ b off, a = some ⟨b, off, none⟩ ∧ b < n₀ ∧ ∀ j, j < xs.length → w.cell? ⟨b, off + j, none⟩ = some (.int .i64 xs[j]!)
theorem LstG.below {w w' : World} {n₀ : Nat} {a : Option Addr} {xs : List Int} (L : LstG w n₀ a xs) (b : Below n₀ w w') : LstG w' n₀ a xs :=
  ⟨Nat.le_trans L.le b.size, fun h => by
    obtain ⟨k, off, e, hb, hc⟩ := L.cells h
    exact ⟨k, off, e, hb, fun j hj => (b.cell (p := ⟨k, _, none⟩) hb).trans (hc j hj)⟩⟩
theorem below_mono {n m : Nat} {A B : World} (b : Below m A B) (h : n ≤ m) : Below n A B := ⟨b.os, b.tape, b.output, b.size, fun k hk => b.block k (Nat.lt_of_lt_of_le hk h)⟩
theorem wbd_new (w : World) {n₀ : Nat} (h : n₀ ≤ w.heap.size) : WBd (w.alloc (.cells #[.pointer none, .slice none 0 0] 135)) n₀ w.heap.size [] :=
  ⟨none, ⟨none, 0, 0⟩, h, World.alloc_heap_new w _, .inl rfl, rfl, .inl ⟨rfl, rfl, rfl⟩⟩
theorem puts_len (pre : List GN) : (pre.flatMap fun g => putN g.1).length ≤ 11 * pre.length := by
  induction pre with
  | nil => simp
  | cons x r ih =>
    have := (putN_len x.1).1
    rw [List.flatMap_cons, List.length_append, List.length_cons]; omega
set_option maxRecDepth 100000 in
set_option maxHeartbeats 4000000 in
theorem encode_ok (a : Option Addr) (cap : Nat) (xs : List Int) (hr : rises (-1) xs = true) (hm : ∀ x ∈ xs, x ≤ 9223372036854775806) (hlen : xs.length ≤ 1000000) (w : World) (L : LstG w w.heap.size a xs)
    (hC : Calls Tryz.prog 182 #[.slice a xs.length cap] w fun e W' => e = .returned (.int .i64 0) ∧ Below w.heap.size w W')
    (hP : ∀ (n : Nat) (hn : n ≤ 9223372036854775807) (W : World), Calls Tryz.prog 123 #[.int .i64 n] W fun e W' => e = .returned (.string (mkB (putN n))) ∧ Below W.heap.size W W') :
    CallsIn Fence.wide 5 Tryz.prog 120 #[.slice a xs.length cap] w fun e w' => e = .returned (.tuple #[.string (mkB (listB xs)), .int .i64 0]) ∧ Below w.heap.size w w' := by
  refine callsIn_of_wp_marks Tryz.func120 rfl trivial ?_ rfl
  simp only [Tryz.ntmps120, List.size_toArray, List.length_cons, List.length_nil, Nat.reduceAdd, Nat.reduceSub, Array.replicate_succ, Array.replicate_zero, List.push_toArray, List.append_toArray, List.nil_append, List.cons_append]
  gi_wp2_with (refine ⟨trivial, ?_⟩; gi_at_call 182; refine (callsIn_wide.2 hC).mono ?_; rintro e w1 ⟨rfl, hB1⟩; clear hC)
  gi_wp2_with (refine ⟨trivial, ?_⟩; gi_at_call 123; refine (callsIn_wide.2 (hP xs.length (by omega) _)).mono ?_; rintro e w2 ⟨rfl, hB2⟩)
  have hW2 := (wbd_new w1 hB1.size).same (fun k hk => hB2.block k hk)
  have hBB2 : Below w.heap.size w w2 := (hB1.trans ((Below.refl _ w1).alloc hB1.size _)).trans (below_mono hB2 (by have := hB1.size; simp; omega))
  have hpl := putN_len xs.length
  gi_wp2_with (refine ⟨trivial, ?_⟩; gi_at_call 128; refine (callsIn_wide.2 (wbd_write hW2 hBB2.size _ (by rw [mkB_size]; simp; omega))).mono ?_; rintro e w3 ⟨⟨v3, rfl⟩, hW3, hB3, _⟩)
  have hBB3 : Below w.heap.size w w3 := hBB2.trans hB3
  rw [mkB_data, List.nil_append] at hW3
  gi_wp2_with (refine ⟨trivial, ?_⟩; gi_at_call 183; refine (between_in Fence.wide 4 trivial rfl a xs.length cap w3).mono ?_; rintro e w4 ⟨rfl, rfl⟩)
  have hB4 : Below w.heap.size w (w3.alloc (.cells #[.slice a xs.length cap] 153)) := hBB3.trans ((Below.refl _ w3).alloc hBB3.size _)
  have hA : AtG (w3.alloc (.cells #[.slice a xs.length cap] 153)) w.heap.size ⟨w3.heap.size, 0, none⟩ a cap xs :=
    ⟨by unfold World.cell?; simp only []; rw [World.alloc_heap_new w3 _]; rfl, by show w3.heap.size < _; simp, hB4.size, (L.below hB4).cells⟩
  have hW4 := hW3.same (W' := w3.alloc (.cells #[.slice a xs.length cap] 153)) (fun k hk => ((Below.refl w3.heap.size w3).alloc (Nat.le_refl _) _).block k hk)
  obtain ⟨W4, hW4e⟩ : ∃ W4, w3.alloc (.cells #[.slice a xs.length cap] 153) = W4 := ⟨_, rfl⟩
  rw [hW4e] at hB4 hA hW4 ⊢
  clear hW4e
  refine wpIn_rangeFunc_ownF rfl (by decide) (gf := 225) (lb := #[.pointer (some ⟨w3.heap.size, 0, none⟩)]) rfl trivial (enters_of Tryz.func225 (by kernel_rfl) rfl)
    (between_stops Fence.wide 4 trivial rfl (by decide) w.heap.size ⟨w3.heap.size, 0, none⟩ a cap xs hr hm (by omega) W4 hA) belowK_t (belowK_b hB4.size) (Below.refl _ _) (fun _ => rfl)
    (fun pre W => WBd W w.heap.size w1.heap.size (putN xs.length ++ pre.flatMap fun g : GN => putN g.1) ∧ Below w.heap.size w W)
    (fun _ _ _ => False)
    (OwnFrom.and (fun s W W' row hs hg hr => hs.grown hg fun r e => (hr r e).2) (ownFrom_below (Nat.le_refl _) hB4.size))
    (fun _ _ _ _ _ hs _ _ => hs)
    ⟨by simpa using hW4, hB4⟩
    (fun x => { tmps := #[.slice a xs.length cap, undef, .string { data := #[] }, .int .i64 0, .int .i64 0, .pointer (some ⟨w1.heap.size, 0, none⟩), .int .i64 (x.1 : Int), .slice a xs.length cap, .int .i64 0, .int .i64 0, .bool false, undef, .slice a xs.length cap, .int .i64 xs.length, .string (mkB (putN xs.length)), v3, .slice a xs.length cap, .func (.func 225) #[] #[.pointer (some ⟨w3.heap.size, 0, none⟩)], .int .i64 (x.1 : Int), undef, undef, undef, undef], defers := [] })
    ?assign ?body ?done ?stop
  case assign =>
    intro l x W K hK
    gi_wp2
    exact hK
  case body =>
    rintro l pre x W ⟨hW, hB⟩ hlt
    have hx := x.2
    have hpl2 := puts_len pre
    have hpx := putN_len x.1
    gi_wp2_with (refine ⟨trivial, ?_⟩; gi_at_call 123; refine (CallsIn.inRound l (callsIn_wide.2 (hP x.1 x.2 _))).mono ?_; rintro e w5 ⟨rfl, hB5⟩)
    have hW5 := hW.same (fun k hk => hB5.block k hk)
    have hBB5 : Below w.heap.size w w5 := hB.trans (below_mono hB5 hB.size)
    gi_wp2_with (refine ⟨trivial, ?_⟩; gi_at_call 128; refine (CallsIn.inRound l (callsIn_wide.2 (wbd_write hW5 hBB5.size _ (by rw [mkB_size]; simp only [List.length_append]; omega)))).mono ?_; rintro e w6 ⟨⟨v6, rfl⟩, hW6, hB6, hK6⟩)
    refine ⟨KeepsOthers.trans ⟨hB5.size, fun k o ho _ => (hB5.block k (Array.getElem?_eq_some_iff.1 ho).1).trans ho⟩ hK6, (below_mono hB5 hB.size).trans hB6, ?_, hBB5.trans hB6⟩
    rw [mkB_data] at hW6
    rw [List.flatMap_append, ← List.append_assoc]
    simpa using hW6
  case done =>
    rintro D ys W hD rfl ⟨hW, hB⟩ hK
    obtain ⟨q, v, h0, hb, h2, h3, h4⟩ := hW
    have hll := puts_len (uptoG (gpN xs) xs.length)
    rw [uptoG_length] at hll
    have htx : putN xs.length ++ (uptoG (gpN xs) xs.length).flatMap (fun g : GN => putN g.1) = listB xs := by rw [gpN_flat hr hm]; rfl
    have hne : listB xs ≠ [] := fun e => by rw [e] at htx; have := congrArg List.length htx; simp only [List.length_append, List.length_nil] at this; omega
    have hl2 : (listB xs).length ≤ 140737488355328 := by rw [← htx, List.length_append]; omega
    rw [htx] at h3 h4
    rcases h4 with ⟨_, _, e⟩ | ⟨g, rest, e1, e2, e3, e4, e5⟩
    · exact absurd e hne
    rw [e1, h3] at hb
    have hS := Go.Cz.bld_text (P := Tryz.prog) (ρ := Tryz.lays169_ren) Tryz.lays169 Tryz.Builder_Extra_169 hb e4 (by omega) hne hl2
    gi_wp2_with (refine ⟨trivial, ?_⟩; gi_at_call 67; refine (callsIn_wide.2 hS).mono ?_; rintro e w7 ⟨rfl, rfl⟩)
    obtain ⟨f1, f2, f3, f4, f5, f6⟩ := heap_freeze (w := W.drew) (g := g) (n := (listB xs).length) e4 (by simpa using hne)
    have hgD : D ≠ g := by rintro rfl; rw [hK] at e4; cases e4
    have hK' := (f2 D hgD).trans hK
    refine ⟨by simp, .inl ⟨_, _, rfl, run_takeDeferred hK', ?_⟩⟩
    refine ⟨_, results_tmp2 (fn := Tryz.f120) (t := 2) (u := 3) rfl _ _ _, rfl, ?_⟩
    have hBf : Below w.heap.size W (W.drew.freeze ⟨g, 0, none⟩ (listB xs).length) := ⟨f4, f5, f6, Nat.le_of_eq f3.symm, fun k hk => f2 k (by omega)⟩
    exact (hB.trans hBf).trans (belowK_b (w := w) (Nat.le_refl _) _ D _ _ (Nat.le_trans hB4.size hD) hK' rfl rfl)
  case stop =>
    rintro D c pre W _ _ h _
    exact h.elim
set_option maxRecDepth 100000 in
set_option maxHeartbeats 4000000 in
theorem encode_no (a : Option Addr) (len cap : Nat) (w : World)
    (hC : Calls Tryz.prog 182 #[.slice a len cap] w fun e W' => e = .returned (.int .i64 2) ∧ Below w.heap.size w W') :
    CallsIn Fence.wide 5 Tryz.prog 120 #[.slice a len cap] w fun e w' => e = .returned (.tuple #[.string ⟨#[]⟩, .int .i64 2]) ∧ Below w.heap.size w w' := by
  refine callsIn_of_wp Tryz.func120 rfl trivial ?_ rfl
  simp only [Tryz.ntmps120, List.size_toArray, List.length_cons, List.length_nil, Nat.reduceAdd, Nat.reduceSub, Array.replicate_succ, Array.replicate_zero, List.push_toArray, List.append_toArray, List.nil_append, List.cons_append]
  gi_wp2_with (refine ⟨trivial, ?_⟩; gi_at_call 182; refine (callsIn_wide.2 hC).mono ?_; rintro e w1 ⟨rfl, hB1⟩; clear hC)
  refine bodyPost_ret (results_tmp2 (fn := Tryz.f120) (t := 2) (u := 3) rfl _ _ _) rfl ?_
  exact ⟨rfl, hB1⟩
theorem read_only {w : World} {h : H} (g : Hpart Tryz.prog w h) {l : Sl} {xs : List Int} (hlen : xs.length = l.len) (hle : l.len ≤ l.cap) (hnil : l.a = none → l.cap = 0) (hrow : h.row? l.a l.len = some (xs.map (Value.int .i64))) :
    ∃ hr : H, Hpart Tryz.prog w hr ∧ Arr hr l (eI .i64) xs ∧ (∀ b c, hr b = some c → ∃ cs, c = .cells cs false) ∧ LstG w w.heap.size l.a xs := by
  obtain ⟨k1, k3, k4⟩ := row_cells g hrow
  by_cases e : xs = []
  · subst e
    refine ⟨fun _ => none, ⟨fun b c hb => (by cases hb)⟩, ⟨hlen.symm, hle, hnil, fun a _ h => absurd rfl h⟩, (fun b c hb => by cases hb), ⟨Nat.le_refl _, fun h => absurd rfl h⟩⟩
  · have hpos := List.length_pos_iff.2 e
    obtain ⟨x, hx⟩ := k4 (by omega)
    have hrow' := hrow
    unfold H.row? at hrow'
    rw [if_neg (by omega), hx] at hrow'
    simp only [] at hrow'
    split at hrow'
    · rename_i c wr hb
      split at hrow'
      · cases hrow'
      · rename_i hsp
        have hsp : x.spot = none := by cases hs : x.spot <;> simp_all
        split at hrow'
        case isFalse => cases hrow'
        rename_i hbd
        have htk := Option.some.inj hrow'
        refine ⟨fun k => if k = x.block then some (.cells c false) else none, ⟨fun b o hbo => ?_⟩, ⟨hlen.symm, hle, hnil, fun a ha _ => ?_⟩, fun b o hbo => ?_, ⟨Nat.le_refl _, fun _ => ⟨x.block, x.off, by rw [hx]; cases x; simp at hsp; simp [hsp], g.lt hb, fun j hj => ?_⟩⟩⟩
        · try dsimp only at hbo
          split at hbo
          · rename_i e2; subst e2; cases hbo
            obtain ⟨T, fz, q1, q2⟩ := g.cells _ _ _ hb
            exact ⟨T, fz, q1, fun h => by cases h⟩
          · cases hbo
        · rw [hx] at ha; cases ha
          refine ⟨hsp, c, false, by simp, ?_, ?_⟩
          · show x.off + xs.length * 1 ≤ _; omega
          · show (c.drop x.off).take (xs.length * 1) = _
            rw [Nat.mul_one, hlen, htk, eI_all]
        · try dsimp only at hbo
          split at hbo
          · cases hbo; exact ⟨_, rfl⟩
          · cases hbo
        · have e1 := k3 x hx j (.int .i64 xs[j]!) (by rw [List.getElem?_map, List.getElem?_eq_getElem hj, getElem!_pos xs j hj]; rfl)
          rw [add_eq hsp] at e1
          exact e1
    · cases hrow'
theorem gaps_hand {FC : Sl → (Int → HProp) → HProp} {FP : Int → (ByteArray → HProp) → HProp} (hC : Linked Tryz.prog ⟨182, [.leaf (.o .sl)], [.leaf (.o (.i .i64))], FC⟩) (hP : Linked Tryz.prog ⟨123, [.leaf (.o (.i .i64))], [.leaf (.o .s)], FP⟩)
    (sC : ∀ (v : Sl) (xs : List Int) (Q : Int → HProp) h, Arr h v (eI .i64) xs → xs.length ≤ 1000000 → Q (if rises (-1) xs then 0 else 2) h → FC v Q h)
    (sP : ∀ n : Nat, n ≤ 9223372036854775807 → ∀ (Q : ByteArray → HProp) h, (∀ h', Ext h h' → Q (mkB (putN n)) h') → FP (n : Int) Q h) :
    Linked Tryz.prog ⟨120, [.leaf (.o .sl)], [.leaf (.o .s), .leaf (.o (.i .i64))], fun (t : Sl) (Q : ByteArray × Int → HProp) => gapsEncW t Q⟩ := by
  refine ⟨⟨_, _, Tryz.func120, rfl, by decide⟩, ?_⟩
  intro l args Q h w hr g hF
  change Sl at l
  simp only [tysOf, Sh.tys, unpackL, shape, SV.of, SV.of0, List.cons_append, List.nil_append] at hr
  obtain ⟨x1, us, rfl, hx1, hr⟩ := relL_cons.1 hr
  rw [relL_nil] at hr
  subst hr
  simp only [rel] at hx1
  subst hx1
  obtain ⟨xs, hlen, hle, hnil, hmax, hb, hrow, hQ⟩ : gapsEncW l Q h := hF
  obtain ⟨hro, gro, A, hcalm, L⟩ := read_only g hlen hle hnil hrow
  have C := hC.2 l [.slice l.a l.len l.cap] (fun (r : Int) _ => r = if rises (-1) xs then 0 else 2) hro w (by simp [tysOf, Sh.tys, unpackL, shape, SV.of, SV.of0, relL, rel]) gro (sC l xs _ hro A hmax rfl)
  have C : Calls Tryz.prog 182 #[.slice l.a l.len l.cap] w fun e W' => e = .returned (.int .i64 (if rises (-1) xs then 0 else 2)) ∧ Below w.heap.size w W' := by
    refine C.mono ?_
    rintro e w' ⟨r, v, h', rfl, hv, rfl, _, k⟩
    simp only [retSV, shape, tysOf, Sh.tys, unpackL, SV.of, SV.of0, rel] at hv
    subst hv
    exact ⟨rfl, k.os, k.tape, k.output, k.size, fun b hb => (k.old b hb fun c e => by obtain ⟨cs, rfl⟩ := hcalm b c e; exact ⟨cs, rfl⟩).2⟩
  rw [← hlen] at C ⊢
  cases hrs : rises (-1) xs with
  | false =>
    rw [hrs] at C hQ
    refine (callsIn_wide.1 (encode_no l.a xs.length l.cap w C)).mono ?_
    rintro e w' ⟨rfl, hB⟩
    obtain ⟨g', k'⟩ := keeps_below g hB
    exact ⟨((⟨#[]⟩, 2) : ByteArray × Int), _, h, rfl, by simp [retSV, shape, tysOf, Sh.tys, unpackL, SV.of, SV.of0, rel, relL], hQ, g', k'⟩
  | true =>
    rw [hrs] at C hQ
    refine (callsIn_wide.1 (encode_ok l.a l.cap xs hrs (fun x hx => (hb x hx).2) hmax w L C (fun n hn W => put_calls hP sP n hn W))).mono ?_
    rintro e w' ⟨rfl, hB⟩
    obtain ⟨g', k'⟩ := keeps_below g hB
    exact ⟨((mkB (listB xs), 0) : ByteArray × Int), _, h, rfl, by simp [retSV, shape, tysOf, Sh.tys, unpackL, SV.of, SV.of0, rel, relL], hQ, g', k'⟩
end Go.Cz.S
namespace Go.Cz.S
set_option maxRecDepth 100000
set_option linter.unusedVariables false
def cf1 (a b : Int) : Int := if a < b then -1 else if b < a then 1 else 0
theorem cf1_neg {a b : Int} : cf1 a b < 0 ↔ a < b := by unfold cf1; split <;> (try split) <;> simp_all
theorem cf1_zero {a b : Int} : cf1 a b = 0 ↔ a = b := by unfold cf1; split <;> (try split) <;> simp_all <;> omega
theorem cmp_spec {a b : Int} {Q : Int → HProp} {h : H} (hQ : Q (cf1 a b) h) : cmp_Compare_int (a, b) Q h := by
  unfold cmp_Compare_int cmp_Compare_int_F cmp_isNaN_int
  simp only [ltI_eq, eqI_eq, decide_true, Bool.not_true]
  refine ite_f rfl (ite_f rfl (ite_i (fun h1 => ?_) fun h1 => ite_i (fun h2 => ?_) fun h2 => ?_))
  · have : cf1 a b = -1 := by simp at h1; simp [cf1, h1]
    rw [this] at hQ; exact hQ
  · have : cf1 a b = 1 := by simp at h1 h2; simp [cf1, Int.not_lt.2 h1, h2]
    rw [this] at hQ; exact hQ
  · have : cf1 a b = 0 := by simp at h1 h2; simp [cf1, Int.not_lt.2 h1, Int.not_lt.2 h2]
    rw [this] at hQ; exact hQ
theorem or_spec {b : Nat} {x y : Int} {Q : Int → HProp} {h : H} (o : Obj h b [.int .i64 x, .int .i64 y]) (hQ : Q (if x ≠ 0 then x else y) h) : cmp_Or_int (Sl.mk (some (Addr.mk b 0 none)) 2 2) Q h := by
  unfold cmp_Or_int
  refine loop_i (fun s h' => h' = h ∧ (s = 0 ∨ s = 1 ∧ x = 0 ∨ s = 2 ∧ x = 0 ∧ y = 0)) (fun s => (2 - s).toNat) ⟨rfl, .inl rfl⟩ ?_
  rintro s h' ⟨rfl, hs⟩
  simp only [ltI_eq, eqI_eq]
  intro k hk
  refine ite_i (fun h1 => ?_) fun h1 => ?_
  · simp only [decide_eq_true_eq] at h1
    refine index_i (by omega) (by simpa using h1) (by simp) ?_
    rintro a ⟨b', hb', rfl⟩
    cases hb'
    rcases hs with rfl | ⟨rfl, rfl⟩ | ⟨rfl, rfl, rfl⟩
    · refine loadI_i (o.ld (j := 0) rfl) (ite_i (fun h2 => ?_) fun h2 => ?_)
      · rw [if_pos (by simpa using h2)] at hQ; exact hQ
      · have : x = 0 := by simpa using h2
        rw [show add .i64 0 1 = 1 by rw [add_i64 (by decide) (by decide)]; rfl]
        exact hk _ _ ⟨rfl, .inr (.inl ⟨rfl, this⟩)⟩ (by decide)
    · refine loadI_i (o.ld (j := 1) rfl) (ite_i (fun h2 => ?_) fun h2 => ?_)
      · rw [if_neg (by simp)] at hQ; exact hQ
      · have : y = 0 := by simpa using h2
        rw [show add .i64 1 1 = 2 by rw [add_i64 (by decide) (by decide)]; rfl]
        exact hk _ _ ⟨rfl, .inr (.inr ⟨rfl, rfl, this⟩)⟩ (by decide)
    · simp at h1
  · have h1 : ¬ (s < 2) := by simpa using h1
    rcases hs with rfl | ⟨rfl, rfl⟩ | ⟨rfl, rfl, rfl⟩
    · omega
    · omega
    · rw [if_neg (by simp)] at hQ; exact hQ
end Go.Cz.S
namespace Go.Cz.S
open Go.Proofs
set_option maxRecDepth 100000
set_option linter.unusedVariables false
abbrev drawnYes : Inhabited DrawnP := ⟨⟨True⟩⟩
theorem cmp_Or_int_linkedT : @Linked drawnYes Tryz.prog ⟨172, [.leaf (.o (.sl))], [.leaf (.o (.i .i64))], cmp_Or_int⟩ := letI := drawnYes; linked_of (fn := Tryz.f172) Tryz.func172 rfl (by kernel_rfl) [] [] [] [] [] [] [(8, ⟨[(8, .leaf (.o (.i .i64)))], []⟩)] allNil (by kernel_rfl) (by kernel_rfl) (by kernel_rfl) (fun t Q => by kernel_rfl)
theorem cmp_isNaN_int_linkedT : @Linked drawnYes Tryz.prog ⟨210, [.leaf (.o (.i .i64))], [.leaf (.o (.b))], cmp_isNaN_int⟩ := letI := drawnYes; linked_of (fn := Tryz.f210) Tryz.func210 rfl (by kernel_rfl) [] [] [] [] [] [] [] allNil (by kernel_rfl) (by kernel_rfl) (by kernel_rfl) (fun t Q => by kernel_rfl)
theorem cmp_Compare_int_eqT (cmp_isNaN_int : (Int) → ((Bool) → HProp) → HProp) : (fun (t : Int × Int) (Q : (Int) → HProp) => interpF ⟨Tryz.prog, [⟨210, [.leaf (.o (.i .i64))], [.leaf (.o (.b))], cmp_isNaN_int⟩], [], [], [], [], []⟩ Tryz.f173 [] [.leaf (.o (.i .i64)), .leaf (.o (.i .i64))] [.leaf (.o (.i .i64))] t Q : (Int × Int) → ((Int) → HProp) → HProp) =
fun (t : Int × Int) (Q : Int → HProp) =>
  cmp_isNaN_int t.fst fun (r : Bool) =>
    cmp_isNaN_int t.snd fun (r_1 : Bool) =>
      iteW r (iteW r_1 (Q 0) (Q (-1)))
        (iteW r_1 (Q 1) (iteW (ltI t.fst t.snd) (Q (-1)) (iteW (ltI t.snd t.fst) (Q 1) (Q 0))))
  := by kernel_rfl
theorem cmp_Compare_int_linkedT : @Linked drawnYes Tryz.prog ⟨173, [.leaf (.o (.i .i64)), .leaf (.o (.i .i64))], [.leaf (.o (.i .i64))], cmp_Compare_int⟩ := letI := drawnYes; linked_of (fn := Tryz.f173) Tryz.func173 rfl (by kernel_rfl) [⟨210, [.leaf (.o (.i .i64))], [.leaf (.o (.b))], cmp_isNaN_int⟩] [] [] [] [] [] [] (allCons cmp_isNaN_int_linkedT allNil) (by kernel_rfl) (by kernel_rfl) (by kernel_rfl) (fun t Q => congrFun (congrFun (cmp_Compare_int_eqT cmp_isNaN_int) t) Q)
theorem edges_by_eqT (cmp_Or_int : (Sl) → ((Int) → HProp) → HProp) (cmp_Compare_int : (Int × Int) → ((Int) → HProp) → HProp) : (fun (t : Int × Int × Int × Int) (Q : (Int) → HProp) => interpF ⟨Tryz.prog, [⟨172, [.leaf (.o (.sl))], [.leaf (.o (.i .i64))], cmp_Or_int⟩, ⟨173, [.leaf (.o (.i .i64)), .leaf (.o (.i .i64))], [.leaf (.o (.i .i64))], cmp_Compare_int⟩], [15], [], [], [], []⟩ Tryz.f114 [] [.agg [.o (.i .i64), .o (.i .i64)], .agg [.o (.i .i64), .o (.i .i64)]] [.leaf (.o (.i .i64))] t Q : (Int × Int × Int × Int) → ((Int) → HProp) → HProp) =
fun (t : Int × Int × Int × Int) (Q : Int → HProp) =>
  cmp_Compare_int (t.fst, t.snd.snd.fst) fun (r : Int) =>
    cmp_Compare_int (t.snd.fst, t.snd.snd.snd) fun (r_1 : Int) =>
      newW [Value.int IntKind.i64 r, Value.int IntKind.i64 r_1] fun (b : Nat) =>
        cmp_Or_int (Sl.mk (some (Addr.mk b 0 none)) 2 2) Q
  := by kernel_rfl
theorem edges_by_linkedT : @Linked drawnYes Tryz.prog ⟨114, [.agg [.o (.i .i64), .o (.i .i64)], .agg [.o (.i .i64), .o (.i .i64)]], [.leaf (.o (.i .i64))], edges_by⟩ := letI := drawnYes; linked_of (fn := Tryz.f114) Tryz.func114 rfl (by kernel_rfl) [⟨172, [.leaf (.o (.sl))], [.leaf (.o (.i .i64))], cmp_Or_int⟩, ⟨173, [.leaf (.o (.i .i64)), .leaf (.o (.i .i64))], [.leaf (.o (.i .i64))], cmp_Compare_int⟩] [15] [] [] [] [] [] (allCons cmp_Or_int_linkedT (allCons cmp_Compare_int_linkedT allNil)) (by kernel_rfl) (by kernel_rfl) (by kernel_rfl) (fun t Q => congrFun (congrFun (edges_by_eqT cmp_Or_int cmp_Compare_int) t) Q)
open Go.Lib Go.Sort Go.Shelf
def enP (x : Int × Int) : List Value := [.int .i64 x.1, .int .i64 x.2]
def cfP (x y : Int × Int) : Int := if cf1 x.1 y.1 ≠ 0 then cf1 x.1 y.1 else cf1 x.2 y.2
theorem ltOf_cfP (x y : Int × Int) : ltOf cfP x y = ltP x y := by
  unfold ltOf ltP cfP
  have h1 := @cf1_neg x.1 y.1
  have h2 := @cf1_zero x.1 y.1
  have h3 := @cf1_neg x.2 y.2
  congr 1
  apply propext
  split
  · rename_i h; rw [h1]; constructor
    · exact Or.inl
    · rintro (h' | ⟨h', _⟩)
      · exact h'
      · exact absurd (h2.2 h') h
  · rename_i h
    have h : cf1 x.1 y.1 = 0 := by simpa using h
    have h' := h2.1 h
    rw [h3]; constructor
    · exact fun g => .inr ⟨h', g⟩
    · rintro (g | ⟨_, g⟩)
      · omega
      · exact g
theorem ltP_iff {x y : Int × Int} : ltP x y = true ↔ (x.1 < y.1 ∨ x.1 = y.1 ∧ x.2 < y.2) := by simp [ltP]
theorem ltP_false {x y : Int × Int} : ltP x y = false ↔ ¬ (x.1 < y.1 ∨ x.1 = y.1 ∧ x.2 < y.2) := by rw [← ltP_iff]; simp
theorem swoP : SWO (ltOf cfP) where
  irrefl x := by rw [ltOf_cfP, ltP_false]; omega
  trans x y z h1 h2 := by rw [ltOf_cfP, ltP_iff] at *; omega
  ntrans x y z h1 h2 := by rw [ltOf_cfP, ltP_false] at *; omega
theorem totP (x y : Int × Int) (h1 : ltOf cfP x y = false) (h2 : ltOf cfP y x = false) : x = y := by
  rw [ltOf_cfP, ltP_false] at *
  obtain ⟨a, b⟩ := x; obtain ⟨c, d⟩ := y
  simp only [Prod.mk.injEq]; simp only [] at h1 h2; omega
theorem by_spec {x y : Int × Int} {Q : Int → HProp} {h : H} (hQ : ∀ h', Q (cfP x y) h') : edges_by (x.1, x.2, y.1, y.2) Q h := by
  unfold edges_by edges_by_F
  refine cmp_spec (cmp_spec (Obj.new fun b h' o _ _ => or_spec o (hQ h')))
theorem keeps_none {W w' : World} {h' : H} (k : @Keeps drawnYes W (fun _ => none) w' h') : ∃ q os, w' = grow (W.drewN q) os := by
  letI := drawnYes
  refine ⟨w'.drawn - W.drawn, w'.heap.extract W.heap.size w'.heap.size, ?_⟩
  have e : w'.heap = W.heap ++ w'.heap.extract W.heap.size w'.heap.size := by
    apply Array.ext_getElem?
    intro i
    rw [Array.getElem?_append]
    by_cases hi : i < W.heap.size
    · rw [if_pos hi]; exact (k.old i hi (fun c e => by cases e)).2
    · rw [if_neg hi]
      rw [Array.getElem?_extract]
      have := k.size
      by_cases h2 : i < w'.heap.size
      · rw [if_pos (by omega)]; congr 1; omega
      · rw [if_neg (by omega)]; exact Array.getElem?_eq_none (by omega)
  have e1 := k.os; have e2 := k.tape; have e3 := k.output; have e4 := k.drawn trivial
  simp only [grow, World.drewN]
  obtain ⟨hp, tp, dr, os, ou⟩ := w'
  obtain ⟨hp', tp', dr', os', ou'⟩ := W
  simp only at e e1 e2 e3 e4
  subst e1; subst e2; subst e3
  simp only [World.mk.injEq, and_true, true_and]
  exact ⟨e, by omega⟩
theorem hpart_none {P : Program} {w : World} : Hpart P w (fun _ => none) := ⟨fun b c h => by cases h⟩
abbrev byE : Entry := ⟨114, [.agg [.o (.i .i64), .o (.i .i64)], .agg [.o (.i .i64), .o (.i .i64)]], [.leaf (.o (.i .i64))], edges_by⟩
theorem by_calls (x y : Int × Int) (W : World) :
    Calls Tryz.prog 114 #[.agg (enP x).toArray, .agg (enP y).toArray] W fun e w' => e = .returned (.int .i64 (cfP x y)) ∧ ∃ q os', w' = grow (W.drewN q) os' := by
  letI := drawnYes
  have h := edges_by_linkedT.2 (x.1, x.2, y.1, y.2) [.agg (enP x).toArray, .agg (enP y).toArray] (fun r _ => r = cfP x y) (fun _ => none) W
    (by simp [byE, tysOf, Sh.tys, unpackL, shape, SV.of, SV.of0, relL, rel, enP]; exact ⟨_, _, ⟨rfl, rfl⟩, ⟨_, rfl, rfl⟩, _, rfl, _, rfl, rfl⟩) hpart_none (by_spec fun _ => rfl)
  refine h.mono ?_
  rintro e w' ⟨r, v, h', rfl, hr, rfl, _, k⟩
  simp [byE, tysOf, Sh.tys, unpackL, shape, SV.of, SV.of0, retSV, rel] at hr
  subst hr
  exact ⟨rfl, keeps_none k⟩
end Go.Cz.S
namespace Go.Cz.S
open Go.Proofs Go.Shelf
set_option maxRecDepth 100000
open Go.Lib Go.Sort
theorem flat2_len : ∀ l : List (Int × Int), (flat2 l).length = l.length * 2
  | [] => rfl
  | x :: r => by simp [flat2, flat2_len r]; omega
theorem flat2_get : ∀ (l : List (Int × Int)) (t : Nat), (flat2 l)[t]? = (l[t / 2]?).bind fun x => (enP x)[t % 2]?
  | [], t => by simp [flat2]
  | x :: r, 0 => by simp [flat2, enP]
  | x :: r, 1 => by simp [flat2, enP]
  | x :: r, t + 2 => by
    have e1 : (t + 2) / 2 = t / 2 + 1 := by omega
    have e2 : (t + 2) % 2 = t % 2 := by omega
    rw [e1, e2]
    simp only [flat2, List.getElem?_cons_succ]
    exact flat2_get r t
theorem flatK_flat2 (l : List (Int × Int)) : (Go.Sort.flatK enP 2 l.toArray) = (flat2 l).toArray := by
  apply Array.ext_getElem?
  intro t
  simp only [List.getElem?_toArray]
  by_cases ht : t < l.length * 2
  · have h1 : t / 2 < l.length := by omega
    have h2 : t % 2 < 2 := Nat.mod_lt _ (by decide)
    rw [flat2_get, List.getElem?_eq_getElem h1]
    unfold Go.Sort.flatK
    rw [Array.getElem?_map, Array.getElem?_range, if_pos (by simpa using ht)]
    simp only [Option.map_some, Option.bind_some]
    rw [getElem!_pos l.toArray (t / 2) (by simpa using h1)]
    simp only [List.getElem_toArray]
    rw [List.getElem?_eq_getElem (by simpa [enP] using h2), getElem!_pos _ _ (by simpa [enP] using h2)]
  · rw [Array.getElem?_eq_none (by simp; omega), List.getElem?_eq_none (by rw [flat2_len]; omega)]
theorem mergeSort_ne {l : List (Int × Int)} : (l.mergeSort leP).length = l.length := (List.mergeSort_perm l leP).length_eq
theorem sortWorld_heap {w : World} {blk off n : Nat} {l : List (Int × Int)} {os : Array Go.Obj} {c : List Value} {T : TypeId} {fz : Nat × Nat} (hb : w.heap[blk]? = some (.cells c.toArray T fz)) (hl : off + (flat2 l).length ≤ c.length) :
    (sortWorldK enP 2 w blk off n l.toArray os).heap[blk]? = some (.cells (c.take off ++ flat2 l ++ c.drop (off + (flat2 l).length)).toArray T fz) ∧
    (∀ b, b < w.heap.size → b ≠ blk → (sortWorldK enP 2 w blk off n l.toArray os).heap[b]? = w.heap[b]?) ∧ w.heap.size ≤ (sortWorldK enP 2 w blk off n l.toArray os).heap.size := by
  have hlt := (Array.getElem?_eq_some_iff.1 hb).1
  have hh : (sortWorldK enP 2 w blk off n l.toArray os).heap = w.heap.modify blk (onCells (putCells id off (flat2 l).toArray)) ++ os := by
    unfold sortWorldK putRowK
    rw [flatK_flat2]; rfl
  have hget : ∀ b, b < w.heap.size → (sortWorldK enP 2 w blk off n l.toArray os).heap[b]? = (w.heap.modify blk (onCells (putCells id off (flat2 l).toArray)))[b]? := fun b hb => by
    rw [hh, Array.getElem?_append, if_pos (by simpa using hb)]
  refine ⟨?_, ?_, ?_⟩
  · rw [hget _ hlt, Array.getElem?_modify, if_pos rfl, hb]
    simp only [Option.map_some, onCells]
    congr 2
    apply Array.ext_getElem?
    intro t
    simp only [putCells, Array.getElem?_mapIdx, List.getElem?_toArray, List.size_toArray, id_eq]
    have hgl : ∀ u, u < (flat2 l).length → (flat2 l).toArray[u]! = (flat2 l)[u]! := fun u hu => by simp [hu]
    rw [List.append_assoc, List.getElem?_append, List.length_take, Nat.min_eq_left (by omega)]
    by_cases h1 : t < off
    · rw [if_pos h1, List.getElem?_take, if_pos h1]
      cases c[t]? with
      | none => rfl
      | some y => simp only [Option.map_some]; rw [if_neg (by omega)]
    · rw [if_neg h1, List.getElem?_append]
      by_cases h2 : t - off < (flat2 l).length
      · rw [if_pos h2, List.getElem?_eq_getElem h2, List.getElem?_eq_getElem (show t < c.length by omega)]
        simp only [Option.map_some]
        rw [if_pos (by omega)]
        exact congrArg some (by rw [hgl _ h2, getElem!_pos (flat2 l) (t - off) h2])
      · rw [if_neg h2, List.getElem?_drop, show off + (flat2 l).length + (t - off - (flat2 l).length) = t by omega]
        cases c[t]? with
        | none => rfl
        | some y => simp only [Option.map_some]; rw [if_neg (by omega)]
  · intro b hbl hne
    rw [hget _ hbl, Array.getElem?_modify, if_neg (fun e => hne e.symm)]
  · rw [hh]; simp
theorem ltOf_eq : ltOf cfP = ltP := by funext x y; exact ltOf_cfP x y
theorem sort_core {v : Sl} {K : HProp} {h : H} {w : World} (g : Hpart Tryz.prog w h) (hF : sortPW v K h) :
    Calls Tryz.prog 170 #[.slice v.a v.len v.cap, .func (.func 114) #[] #[]] w fun e w' => ∃ h', e = .returned (.tuple #[]) ∧ K h' ∧ Hpart Tryz.prog w' h' ∧ Keeps w h w' h' := by
  unfold sortPW at hF
  obtain ⟨l, hlen, hsz, hrow, hnil, hne⟩ := hF
  by_cases e : l = []
  · have h0 : v.len = 0 := by rw [← hlen, e]; rfl
    have hc := AnyF.slices_SortFunc_none Tryz.sortEdge v.a v.cap (.func (.func 114) #[] #[]) w
    change Calls Tryz.prog 170 _ _ _ at hc
    rw [h0]
    refine hc.mono ?_
    rintro e' w' ⟨rfl, rfl⟩
    exact ⟨h, rfl, hnil e, g, Nat.le_refl _, fun _ _ _ => ⟨rfl, rfl⟩, rfl, rfl, rfl, fun _ => Nat.le_refl _⟩
  · obtain ⟨a, ha, hst⟩ := hne e
    unfold storesW at hst
    split at hst
    case h_2 => exact hst.elim
    rename_i c hb
    obtain ⟨hsp, hle, hK⟩ := hst
    obtain ⟨T, fz, hw, hzf⟩ := g.cells _ c true hb
    have ea : a = ⟨a.block, a.off, none⟩ := by cases a; simp at hsp; simp [hsp]
    obtain ⟨k1, k3, k4⟩ := row_cells g hrow
    have hsl : (flat2 (l.mergeSort leP)).length = (flat2 l).length := by rw [flat2_len, flat2_len, mergeSort_ne]
    have hH : HoldsK enP 2 w a.block a.off l.toArray := by
      unfold HoldsK
      rw [flatK_flat2]
      intro j hj
      have hj : j < (flat2 l).length := by simpa using hj
      have h1 := k3 a ha j _ (List.getElem?_eq_getElem hj)
      rw [add_eq hsp] at h1
      refine ⟨?_, ?_⟩
      · rw [h1]
        simp [hj]
      · have h2 := hzf rfl (a.off + j) (by omega)
        simp only [World.frozen?, hw]
        simpa using h2
    have hlt := (Array.getElem?_eq_some_iff.1 hw).1
    have hc := AnyQ.slices_SortFunc_total Tryz.sortEdge 2 Tryz.isAgg128 Tryz.sizeOf128 enP (fun _ => rfl) (fun x v hv => by simp [enP] at hv; rcases hv with rfl | rfl <;> rfl) cfP swoP 114 #[] a.block a.off v.cap l.toArray w
      (enters_of Tryz.func114 (by kernel_rfl) rfl) (fun _ _ _ _ x y => by_calls x y _) hH hlt (by simpa using hsz) totP
    change Calls Tryz.prog 170 _ _ _ at hc
    rw [← ea, ← ha, show l.toArray.size = v.len by simpa using hlen] at hc
    refine hc.mono ?_
    rintro e' w' ⟨rfl, n, os, rfl⟩
    rw [show (l.toArray.toList.mergeSort fun x y => !(ltOf cfP) y x) = l.mergeSort leP by rw [ltOf_eq]; rfl]
    obtain ⟨s1, s2, s3⟩ := sortWorld_heap (os := os) (n := n) hw hle
    refine ⟨_, rfl, hK, ⟨?_⟩, s3, ?_, rfl, rfl, rfl, fun _ => Nat.le_add_right _ _⟩
    · intro b o hk
      unfold H.set at hk
      by_cases eb : b = a.block
      · subst eb
        rw [if_pos rfl] at hk
        cases hk
        refine ⟨T, fz, s1, fun hw i hi => hzf rfl i ?_⟩
        simp at hi; omega
      · rw [if_neg eb] at hk
        rw [s2 b (g.lt hk) eb]; exact g.blk b o hk
    · intro b hbl hcalm
      have eb : b ≠ a.block := fun eb => by subst eb; obtain ⟨c', hc'⟩ := hcalm _ hb; cases hc'
      exact ⟨by simp [H.set, eb], s2 b hbl eb⟩
theorem slices_SortFunc_api_Edge_api_Edge_hand : Linked Tryz.prog ⟨170, [.leaf (.o (.sl)), .leaf (.clo 114 [])], [], slices_SortFunc_api_Edge_api_Edge⟩ := by
  refine ⟨⟨Tryz.f170, _, Tryz.func170, rfl, by decide⟩, ?_⟩
  intro t args Q h w hr g hF
  obtain ⟨v, u⟩ := t
  simp only [tysOf, Sh.tys, unpackL, shape, SV.of, SV.of0, unpackL0, List.cons_append, List.nil_append] at hr
  obtain ⟨x, us, rfl, hx, hr⟩ := relL_cons.1 hr
  obtain ⟨y, us', rfl, hy, hr⟩ := relL_cons.1 hr
  rw [relL_nil] at hr
  subst hr
  simp only [rel] at hx hy
  obtain ⟨fv, cv, rfl, h1, h2⟩ := hy
  have h1 : fv = #[] := by simpa [relL] using h1
  have h2 : cv = #[] := by simpa [relL] using h2
  subst hx; subst h1; subst h2
  refine (sort_core g (v := v) (K := Q ()) hF).mono ?_
  rintro e w' ⟨h', rfl, hQ, hp, hk⟩
  exact ⟨(), _, h', rfl, by simp [retSV, shape, rel, relL], hQ, hp, hk⟩
end Go.Cz.S
namespace Go.Cz.S
open Go.RowKit Go.Shelf Go.Proofs
attribute [local go_sem] Oper.semAt_some
def en2 (x : Int × Int) : Value := .agg #[.int .i64 x.1, .int .i64 x.2]
def upto {α : Type} (f : Nat → α) (k : Nat) : List α := (List.range k).map f
theorem upto_succ {α : Type} (f : Nat → α) (k : Nat) : upto f (k + 1) = upto f k ++ [f k] := by simp [upto, List.range_succ]
theorem upto_length {α : Type} (f : Nat → α) (k : Nat) : (upto f k).length = k := by simp [upto]
set_option maxRecDepth 100000 in
set_option maxHeartbeats 2000000 in
theorem values1_in (F : Fence) (n : Nat) (h7 : F.fn 171) (hro : F.round = none) (hn : 1 ≤ n) (l : Nat) (Bx : Addr) (n₀ b off len cap : Nat) (f : Nat → Int × Int) (hreach : len * 16 ≤ 140737488351232) (hb : b < n₀) (J Jx : List (Int × Int) → World → Prop)
    (hY : ∀ pre x W, J pre W → pre.length < len → YieldAt F (n - 1) Tryz.prog l #[en2 x] W fun e W' =>
      (e = .returned (.bool true) ∧ J (pre ++ [x]) W' ∧ Below n₀ W W') ∨ (e = .returned (.bool false) ∧ Jx (pre ++ [x]) W'))
    (W : World) (hn₀ : n₀ ≤ W.heap.size) (hJ : AbidesFrom W.heap.size J)
    (hBs : W.cell? Bx = some (.slice (some ⟨b, off, none⟩) len cap)) (hc : ∀ j, j < len → W.cell? ⟨b, off + j * 2, none⟩ = some (.int .i64 (f j).1) ∧ W.cell? ⟨b, off + j * 2 + 1, none⟩ = some (.int .i64 (f j).2)) (h0 : J [] W) :
    CallsIn F n Tryz.prog 171 #[.func (.yield l) #[] #[], .pointer (some Bx)] W fun e W' => (∃ v, e = .returned v) ∧
      ((∃ ys, ys = upto f len ∧ J ys W') ∨ (∃ pre, (∃ k, k ≤ len ∧ pre = upto f k) ∧ Jx pre W')) := by
  refine callsIn_of_wp Tryz.func171 rfl h7 ?_ hro
  simp only [Tryz.ntmps171, List.size_toArray, List.length_cons, List.length_nil, Nat.reduceAdd, Nat.reduceSub, Array.replicate_succ, Array.replicate_zero, List.push_toArray, List.append_toArray, List.nil_append, List.cons_append]
  gi_wp2
  gi_loopw [7] (fun i wr => ∃ k : Nat, k ≤ len ∧ i = .int .i64 k ∧ J (upto f k) wr ∧ Below n₀ W wr)
    (fun i _ => len - (Go.RowKit.intOf i).toNat)
  case atStart => exact ⟨0, Nat.zero_le _, rfl, h0, Below.refl _ _⟩
  case round =>
    obtain ⟨k, hk, rfl, hJs, hnx⟩ := hrel
    have hcx : k < len → wr.cell? ⟨b, off + k * 2, none⟩ = some (.int .i64 (f k).1) ∧ wr.cell? ⟨b, off + k * 2 + 1, none⟩ = some (.int .i64 (f k).2) := fun h => ⟨(hnx.cell (p := ⟨b, _, none⟩) hb).trans (hc k h).1, (hnx.cell (p := ⟨b, _, none⟩) hb).trans (hc k h).2⟩
    by_cases hlt : k < len
    · obtain ⟨hc1, hc2⟩ := hcx hlt
      have hJ1 : ∀ o, J (upto f k) (wr.alloc o) := fun o => hJ _ _ _ none hJs (World.grownBy_alloc wr o none) (fun r e => by cases e)
      obtain ⟨fn, tmps, assign, body, hy, hR⟩ := hY _ (f k) (wr.alloc (.cells #[.int .i64 (f k).1, .int .i64 (f k).2] 128)) (hJ1 _) (by rw [upto_length]; exact hlt)
      have hn1 := hnx.alloc (Nat.le_trans hn₀ hnx.size) (.cells #[.int .i64 (f k).1, .int .i64 (f k).2] 128)
      unfold en2 at hy
      gi_wp2
      refine hR.mono ?_
      rintro e W3 (⟨rfl, hJ3, hk3⟩ | ⟨rfl, hJx3⟩)
      · gi_wp2
        go_roundw
        case rel => exact ⟨k + 1, by omega, by simp, by rw [upto_succ]; exact hJ3, hn1.trans hk3⟩
        case measure => simp [Go.RowKit.intOf]; omega
      · gi_wp2
        refine bodyPost_ret (results_none rfl _ _ _) rfl ?_
        exact ⟨⟨_, rfl⟩, .inr ⟨_, ⟨k + 1, by omega, (upto_succ _ _).symm⟩, hJx3⟩⟩
    · obtain rfl : k = len := by omega
      gi_wp2
      go_end0
      exact ⟨⟨_, rfl⟩, .inl ⟨_, rfl, hJs⟩⟩
set_option maxRecDepth 100000 in
set_option maxHeartbeats 1000000 in
theorem values1_nil_in (F : Fence) (n : Nat) (h7 : F.fn 171) (hro : F.round = none) (l : Nat) (Bx : Addr) (a : Option Addr) (cap : Nat) (J : List (Int × Int) → World → Prop) (W : World) (hBs : W.cell? Bx = some (.slice a 0 cap)) (h0 : J [] W) :
    CallsIn F n Tryz.prog 171 #[.func (.yield l) #[] #[], .pointer (some Bx)] W fun e W' => (∃ v, e = .returned v) ∧ J [] W' := by
  refine callsIn_of_wp Tryz.func171 rfl h7 ?_ hro
  simp only [Tryz.ntmps171, List.size_toArray, List.length_cons, List.length_nil, Nat.reduceAdd, Nat.reduceSub, Array.replicate_succ, Array.replicate_zero, List.push_toArray, List.append_toArray, List.nil_append, List.cons_append]
  gi_wp2
  gi_loopw [7] (fun i wr => i = .int .i64 0 ∧ J [] wr) (fun _ _ => 0)
  case atStart => exact ⟨rfl, h0⟩
  case round =>
    obtain ⟨rfl, hJs⟩ := hrel
    gi_wp2
    go_end0
    exact ⟨⟨_, rfl⟩, hJs⟩
theorem upto_all (l : List (Int × Int)) : upto (fun i => l[i]!) l.length = l := by
  apply List.ext_getElem?
  intro i
  unfold upto
  by_cases hi : i < l.length
  · rw [List.getElem?_map, List.getElem?_range hi, Option.map_some, List.getElem?_eq_getElem hi, getElem!_pos l i hi]
  · rw [List.getElem?_eq_none (by simp; omega), List.getElem?_eq_none (by omega)]
structure At (w : World) (Bx : Addr) (a : Option Addr) (cap : Nat) (l : List (Int × Int)) : Prop where
  box : w.cell? Bx = some (.slice a l.length cap)
  old : Bx.block < w.heap.size
  cells : l ≠ [] → ∃ b off, a = some ⟨b, off, none⟩ ∧ b < w.heap.size ∧ ∀ j, j < l.length → w.cell? ⟨b, off + j * 2, none⟩ = some (.int .i64 (l[j]!).1) ∧ w.cell? ⟨b, off + j * 2 + 1, none⟩ = some (.int .i64 (l[j]!).2)
theorem values_stops (F : Fence) (n : Nat) (h7 : F.fn 171) (hro : F.round = none) (hn : 1 ≤ n) (Bx : Addr) (a : Option Addr) (cap : Nat) (l : List (Int × Int)) (hreach : l.length * 16 ≤ 140737488351232) (w : World) (A : At w Bx a cap l) :
    SeqStopsK F n Tryz.prog 171 #[.pointer (some Bx)] (fun x : Int × Int => #[en2 x]) (Below w.heap.size) (fun ys => ys = l) (fun _ => True) l.length w := fun k J Jx W hW hJ _ hY h0 => by
  have hc' := (hW.cell (p := Bx) A.old).trans A.box
  by_cases e : l = []
  · subst e
    exact (values1_nil_in F n h7 hro k Bx a cap J W hc' h0).mono fun e W' ⟨he, hj⟩ => ⟨he, .inl ⟨_, rfl, hj⟩⟩
  · obtain ⟨b, off, rfl, hb, hcs⟩ := A.cells e
    refine (values1_in F n h7 hro hn k Bx w.heap.size b off l.length cap (fun i => l[i]!) hreach hb J Jx hY W hW.size hJ hc' (fun j hj => ⟨(hW.cell (p := ⟨b, _, none⟩) hb).trans (hcs j hj).1, (hW.cell (p := ⟨b, _, none⟩) hb).trans (hcs j hj).2⟩) h0).mono ?_
    rintro e W' ⟨he, ⟨ys, rfl, hj⟩ | ⟨pre, _, hj⟩⟩
    · exact ⟨he, .inl ⟨_, upto_all l, hj⟩⟩
    · exact ⟨he, .inr ⟨_, trivial, hj⟩⟩
theorem flat2_append (l m : List (Int × Int)) : flat2 (l ++ m) = flat2 l ++ flat2 m := by
  induction l with
  | nil => rfl
  | cons x r ih => simp [flat2, ih]
theorem info128 : (Tryz.prog.info? 128).map (fun i => (i.zero, i.size, i.bytes)) = some (some (.agg #[.int .i64 0, .int .i64 0]), 2, 16) := by kernel_rfl
theorem cells_own (B : Nat) (c : Array Value) (T : TypeId) : Own (fun (_ : Unit) W => W.heap[B]? = some (.cells c T (0, 0))) := fun _ X Y row h hg hr => by
  refine (hg.block B (Array.getElem?_eq_some_iff.1 h).1 (fun e => ?_)).trans h
  obtain ⟨o, ho, hc⟩ := hr B e.symm
  rw [h] at ho; cases ho; cases hc
set_option maxRecDepth 100000 in
set_option maxHeartbeats 4000000 in
theorem appendSeq_in (F : Fence) (n : Nat) (h70 : F.fn 171) (h72 : F.fn 208) (hro : F.round = none) (hn : 4 ≤ n) (Bx : Addr) (a : Option Addr) (cap : Nat) (l : List (Int × Int)) (hreach : l.length * 16 ≤ 140737488351232) (w : World) (A : At w Bx a cap l) :
    CallsIn F n Tryz.prog 208 #[.slice none 0 0, .func (.func 171) #[] #[.pointer (some Bx)]] w fun e w' => ∃ v : Value, e = .returned v ∧ w'.ownsRow w.heap.size 128 2 v l.length (flat2 l) ∧ (v = .slice none 0 0 ↔ l = []) ∧ Below w.heap.size w w' := by
  have h1 : 1 ≤ n := by omega
  obtain ⟨i0, hi, hz0, hz1, hz2⟩ := info_parts info128
  refine callsIn_of_wp_marks Tryz.func208 rfl h72 ?_ hro
  simp only [Tryz.ntmps208, List.size_toArray, List.length_cons, List.length_nil, Nat.reduceAdd, Nat.reduceSub, Array.replicate_succ, Array.replicate_zero, List.push_toArray, List.append_toArray, List.nil_append, List.cons_append]
  gi_wp2
  have bS := Boxed.new w 40 (.slice none 0 0)
  have hB0 : Below w.heap.size w (w.alloc (.cells #[.slice none 0 0] 40)) := (Below.refl _ w).alloc (Nat.le_refl _) _
  have hsz : (w.alloc (.cells #[.slice none 0 0] 40)).heap.size = w.heap.size + 1 := by simp
  obtain ⟨W0, hW0⟩ : ∃ W0, w.alloc (.cells #[.slice none 0 0] 40) = W0 := ⟨_, rfl⟩
  rw [hW0] at bS hB0 hsz ⊢
  clear hW0
  refine wpIn_rangeFunc_ownH hro h1 (gf := 171) (lb := #[.pointer (some Bx)]) rfl h70 (enters_of Tryz.func171 (by kernel_rfl) rfl)
    (values_stops F (n - 1) h70 hro (by omega) Bx a cap l hreach w A) belowK_t (belowK_b (by omega)) hB0 (fun _ => rfl)
    (fun pre W => (∃ v, Boxed W w.heap.size 40 v ∧ W.ownsRow w.heap.size 128 2 v pre.length (flat2 pre) ∧ (v = .slice none 0 0 ↔ pre = [])) ∧ Below w.heap.size w W)
    (fun _ _ _ => False)
    (OwnFrom.and (Own.from (holdsRow_own w.heap.size w.heap.size 40 128 2 (fun pre : List (Int × Int) => pre.length) (fun pre => flat2 pre) (fun pre v => v = .slice none 0 0 ↔ pre = [])) _) (ownFrom_below (Nat.le_refl _) (by omega)))
    (fun _ _ _ _ _ hs _ _ => hs)
    ⟨⟨_, bS, ⟨rfl, .inl ⟨rfl, rfl⟩⟩, by simp⟩, hB0⟩
    (fun x a' W => ∃ By, w.heap.size < By ∧ W.heap[By]? = some (.cells #[.int .i64 x.1, .int .i64 x.2] 128 (0, 0)) ∧ a' = { tmps := #[.slice none 0 0, .func (.func 171) #[] #[.pointer (some Bx)], .pointer (some ⟨w.heap.size, 0, none⟩), undef, .slice none 0 0, .pointer (some ⟨By, 0, none⟩), .func (.func 171) #[] #[.pointer (some Bx)], en2 x, undef, undef, undef, undef, undef], defers := [] })
    (fun x a' _ X Y row hs hg hr => by obtain ⟨By, h1, h2, h3⟩ := hs; exact ⟨By, h1, cells_own By _ 128 () X Y row h2 hg (fun r e => (hr r e).2), h3⟩)
    ?assign ?body ?done ?stop
  case assign =>
    rintro k pre x W K ⟨⟨v, bv, hrow, hv⟩, hB⟩ hK
    unfold en2 at *
    gi_wp2
    exact hK _ _ ((KeepsOthers.alloc _ _).from _) ((Below.refl _ W).alloc hB.size _) ⟨⟨v, bv.alloc _, hrow.alloc _, hv⟩, hB.alloc hB.size _⟩ ⟨W.heap.size, bv.lt, World.alloc_heap_new W _, rfl⟩
  case body =>
    rintro k pre x a' W hk ⟨r, hr⟩ ⟨⟨v, bv, hrow, hv⟩, hB⟩ ⟨By, hBy, hby, rfl⟩ hlt
    have cS := bv.cell
    have c0 : W.cell? ⟨By, 0, none⟩ = some (.int .i64 x.1) := by simp [World.cell?, hby]
    have c1 : W.cell? ⟨By, 1, none⟩ = some (.int .i64 x.2) := by simp [World.cell?, hby]
    have hBs := hB.size
    gi_wp2_with (gi_at_builtin; refine wpListIn_append_own _ rfl _ _ 40 rfl w.heap.size 128 i0 (.agg #[.int .i64 0, .int .i64 0]) 2 16 Tryz.underlying40 hi hz0 hz1 hz2 rfl (by decide) _ _ _ rfl (hrow.alloc _) ⟨W.heap.size, 0, none⟩ 1 1 [.int .i64 x.1, .int .i64 x.2] rfl rfl ?cells (by simp [Value.oneCell']) (by simp [maxLen] at *; omega) (by omega) (by simp; omega) ?next)
    case cells =>
      have hn := World.alloc_heap_new W (.cells #[.int .i64 x.1, .int .i64 x.2] 128)
      have g0 : (W.alloc (.cells #[.int .i64 x.1, .int .i64 x.2] 128)).cell? ⟨W.heap.size, 0, none⟩ = some (.int .i64 x.1) := by unfold World.cell?; simp only []; rw [hn]; rfl
      have g1 : (W.alloc (.cells #[.int .i64 x.1, .int .i64 x.2] 128)).cell? ⟨W.heap.size, 1, none⟩ = some (.int .i64 x.2) := by unfold World.cell?; simp only []; rw [hn]; rfl
      rintro (_ | _ | j) u hu
      · simp at hu; subst hu; exact g0
      · simp at hu; subst hu; exact g1
      · simp at hu
    case next =>
      intro v' w3 hown' hg3 hnil3
      obtain ⟨hb1, hb2, hb3, hb4, hb5⟩ := bv.appended (by decide) hrow hB.size (Nat.le_refl _) hown' hg3
      obtain ⟨g', cap', rfl⟩ := ownsRow_succ hown'
      have c3 := hb1.cell
      have f3 := hb1.frozen
      clear hnil3
      gi_wp2
      exact ⟨hb4.from _, hb5, ⟨_, hb2, by rw [flat2_append, List.length_append]; exact hb3, by simp⟩, hB.trans hb5⟩
  case done =>
    rintro D zs W hD rfl ⟨⟨v, bv, hrow, hv⟩, hB⟩ hK
    have cS := bv.cell
    gi_wp2
    refine ⟨by simp, .inl ⟨_, _, rfl, run_takeDeferred hK, ?_⟩⟩
    exact ⟨_, results_tmp rfl _ _ _, v, rfl, ownsRow_putObj hrow _ hK rfl, hv, hB.trans (belowK_b (w := w) (Nat.le_refl _) W D _ _ (by omega) hK rfl rfl)⟩
  case stop =>
    rintro D c pre W _ _ h _
    exact h.elim
set_option maxRecDepth 100000 in
set_option maxHeartbeats 1000000 in
theorem collect_in (F : Fence) (n : Nat) (h68 : F.fn 169) (h70 : F.fn 171) (h72 : F.fn 208) (hro : F.round = none) (hn : 5 ≤ n) (Bx : Addr) (a : Option Addr) (cap : Nat) (l : List (Int × Int)) (hreach : l.length * 16 ≤ 140737488351232) (w : World) (A : At w Bx a cap l) :
    CallsIn F n Tryz.prog 169 #[.func (.func 171) #[] #[.pointer (some Bx)]] w fun e w' => ∃ v : Value, e = .returned v ∧ w'.ownsRow w.heap.size 128 2 v l.length (flat2 l) ∧ (v = .slice none 0 0 ↔ l = []) ∧ Below w.heap.size w w' := by
  have h1 : 1 ≤ n := by omega
  refine callsIn_of_wp Tryz.func169 rfl h68 ?_ hro
  simp only [Tryz.ntmps169, List.size_toArray, List.length_cons, List.length_nil, Nat.reduceAdd, Nat.reduceSub, Array.replicate_succ, Array.replicate_zero, List.push_toArray, List.append_toArray, List.nil_append, List.cons_append]
  gi_wp2_with (gi_at_call 208; refine (appendSeq_in F (n - 1) h70 h72 hro (by omega) Bx a cap l hreach _ A).mono ?_; rintro e w' ⟨v, rfl, hrow, hnil, hb⟩)
  go_ret
  exact ⟨v, rfl, hrow, hnil, hb⟩
theorem collect_core {Bx : Addr} {v : Sl} {K : Sl → HProp} {h : H} {w : World} (g : Hpart Tryz.prog w h) (hc : h.cell? Bx = some (.slice v.a v.len v.cap)) (hF : collectPW v K h) :
    Calls Tryz.prog 169 #[.func (.func 171) #[] #[.pointer (some Bx)]] w fun e w' => ∃ r h', e = .returned (.slice r.a r.len r.cap) ∧ K r h' ∧ Hpart Tryz.prog w' h' ∧ Keeps w h w' h' := by
  unfold collectPW at hF
  obtain ⟨l, hlen, hreach, hrow, hnil, hne⟩ := hF
  obtain ⟨k1, k3, k4⟩ := row_cells g hrow
  have A : At w Bx v.a v.cap l := by
    refine ⟨by rw [hlen]; exact g.cell hc, ?_, fun e => ?_⟩
    · unfold H.cell? at hc
      split at hc
      · rename_i hb; exact g.lt hb
      · cases hc
    · obtain ⟨x, hx⟩ := k4 (by have := List.length_pos_iff.2 e; omega)
      have hrow' := hrow
      unfold H.row? at hrow'
      rw [if_neg (by have := List.length_pos_iff.2 e; omega), hx] at hrow'
      simp only [] at hrow'
      split at hrow'
      · rename_i c wr hb
        split at hrow'
        · cases hrow'
        · rename_i hsp
          have hsp : x.spot = none := by cases hs : x.spot <;> simp_all
          refine ⟨x.block, x.off, by rw [hx]; cases x; simp at hsp; simp [hsp], g.lt hb, fun j hj => ?_⟩
          have e1 := k3 x hx (j * 2) (.int .i64 (l[j]!).1) (by rw [flat2_get]; simp [hj, enP, show j * 2 % 2 = 0 by omega])
          have e2 := k3 x hx (j * 2 + 1) (.int .i64 (l[j]!).2) (by rw [flat2_get]; simp [hj, enP, show (j * 2 + 1) / 2 = j by omega, show (j * 2 + 1) % 2 = 1 by omega])
          rw [add_eq hsp] at e1 e2
          exact ⟨e1, by rw [← Nat.add_assoc] at e2; exact e2⟩
      · cases hrow'
  have hcl := callsIn_wide.1 (collect_in Fence.wide 5 trivial trivial trivial rfl (Nat.le_refl _) Bx v.a v.cap l hreach w A)
  refine hcl.mono ?_
  rintro e w' ⟨r, rfl, hown, hn, hb⟩
  have hkeep : ∀ b o, h b = some o → w'.heap[b]? = w.heap[b]? := fun b o hbo => hb.block b (g.lt hbo)
  by_cases e : l = []
  · have := hn.2 e
    subst this
    exact ⟨⟨none, 0, 0⟩, h, rfl, hnil e, g.keep w' hkeep, hb.size, fun b hbl _ => ⟨rfl, hb.block b hbl⟩, hb.os, hb.tape, hb.output, fun q => q.elim⟩
  · rcases hown.2 with ⟨rfl, _⟩ | ⟨gb, cap', cur, rfl, hbase, hgb, h1, h2, h3, h4⟩
    · exact absurd (hn.1 rfl) e
    · have hnew : h gb = none := by
        cases hh : h gb with
        | none => rfl
        | some o => exact absurd (g.lt hh) (by omega)
      have hcur : cur.toList = flat2 l ++ cur.toList.drop (l.length * 2) := by rw [← h4]; exact (List.take_append_drop _ _).symm
      refine ⟨⟨some ⟨gb, 0, none⟩, l.length, cap'⟩, _, rfl, hne e cap' (cur.toList.drop (l.length * 2)) gb h1 (by simp [h3]; omega) hnew, ⟨?_⟩, hb.size, ?_, hb.os, hb.tape, hb.output, fun q => q.elim⟩
      · intro b o hk
        unfold H.set at hk
        by_cases eb : b = gb
        · subst eb
          rw [if_pos rfl] at hk
          cases hk
          exact ⟨128, (0, 0), by rw [← hcur]; exact hgb, fun _ i _ => by omega⟩
        · rw [if_neg eb] at hk
          rw [hb.block b (g.lt hk)]; exact g.blk b o hk
      · intro b hbl _
        have eb : b ≠ gb := by omega
        exact ⟨by simp [H.set, eb], hb.block b hbl⟩
theorem slices_Collect_api_Edge_hand : Linked Tryz.prog ⟨169, [.leaf (.clo 171 [.p])], [.leaf (.o (.sl))], slices_Collect_api_Edge⟩ := by
  refine ⟨⟨Tryz.f169, _, Tryz.func169, rfl, by decide⟩, ?_⟩
  intro t args Q h w hr g hF
  change Option Addr at t
  simp only [tysOf, Sh.tys, unpackL, shape, SV.of, SV.of0, unpackL0, List.cons_append, List.nil_append] at hr
  obtain ⟨y, us, rfl, hy, hr⟩ := relL_cons.1 hr
  rw [relL_nil] at hr
  subst hr
  simp only [rel] at hy
  obtain ⟨fv, cv, rfl, h1, h2⟩ := hy
  have h1 : fv = #[] := by simpa [relL] using h1
  have h2 : cv = #[.pointer t] := by
    obtain ⟨z, us, e, hz, hu⟩ := relL_cons.1 h2
    rw [relL_nil] at hu
    simp only [rel] at hz
    subst hz; subst hu
    exact Array.toList_inj.1 e
  subst h1; subst h2
  have hF : derefW t (fun (a : Addr) => loadL a fun (v : Sl) => collectPW v Q) h := hF
  unfold derefW at hF
  obtain ⟨Bx, ht, hF1⟩ := hF
  subst ht
  unfold loadL at hF1
  split at hF1
  case h_2 => exact hF1.elim
  rename_i a' l' c' hc
  refine (collect_core (v := ⟨a', l', c'⟩) g hc hF1).mono ?_
  rintro e w' ⟨r, h', rfl, hQ, hp, hk⟩
  exact ⟨r, _, h', rfl, by simp [retSV, shape, tysOf, Sh.tys, unpackL, SV.of, SV.of0, rel], hQ, hp, hk⟩
end Go.Cz.S
namespace Go.Cz.S
open Go Go.Proofs Go.RowKit Go.Shelf
set_option maxRecDepth 100000
theorem strings_Trim_hand : Linked Tryz.prog ⟨267, [.leaf (.o (.s)), .leaf (.o (.s))], [.leaf (.o (.s))], strings_Trim⟩ := linked_Trim Tryz.lays160
theorem strings_Builder_WriteString_hand : Linked Tryz.prog ⟨128, [.leaf (.o (.p)), .leaf (.o (.s))], [.leaf (.o (.i .i64)), .leaf (.o (.nif))], strings_Builder_WriteString⟩ := linked_WriteString (ρ := Tryz.lays105_ren) { Tryz.lays105 with } Tryz.Builder_Extra_105
theorem strings_Builder_String_hand : Linked Tryz.prog ⟨67, [.leaf (.o (.p))], [.leaf (.o (.s))], strings_Builder_String⟩ := linked_String Tryz.lays169 Tryz.Builder_Extra_169
theorem strconv_Itoa_hand : Linked Tryz.prog ⟨101, [.leaf (.o (.i .i64))], [.leaf (.o (.s))], strconv_Itoa⟩ := linked_Itoa Tryz.lays171
theorem slices_Sort_int_int_hand : Linked Tryz.prog ⟨117, [.leaf (.o (.sl))], [], slices_Sort_int_int⟩ := linked_SortInt Tryz.lays189
theorem slices_Sorted_string_hand : Linked Tryz.prog ⟨64, [.leaf (.clo 127 [.p])], [.leaf (.o (.sl))], slices_Sorted_string⟩ :=
  linked_SortedKeys (ρ := Tryz.sorted_ren) (ρ7 := Tryz.keys_ren) (ρs := Tryz.lays190_ren) Tryz.sorted Tryz.keys Tryz.lays190 rfl (enters_of Tryz.func126 (by kernel_rfl) rfl) (enters_of Tryz.func127 (by kernel_rfl) rfl)
theorem strings_Repeat_hand : Linked Tryz.prog ⟨166, [.leaf (.o (.s)), .leaf (.o (.i .i64))], [.leaf (.o (.s))], strings_Repeat⟩ := linked_Repeat Tryz.lays105 Tryz.Builder_Extra_105
theorem strings_Join_hand : Linked Tryz.prog ⟨184, [.leaf (.o (.sl)), .leaf (.o (.s))], [.leaf (.o (.s))], strings_Join⟩ := linked_Join Tryz.lays156 Tryz.Builder_Extra_156
theorem gaps_Encode_hand (hC : Linked Tryz.prog ⟨182, [.leaf (.o (.sl))], [.leaf (.o (.i .i64))], gaps_Check⟩) (hP : Linked Tryz.prog ⟨123, [.leaf (.o (.i .i64))], [.leaf (.o (.s))], ints_Put⟩) : Linked Tryz.prog ⟨120, [.leaf (.o (.sl))], [.leaf (.o (.s)), .leaf (.o (.i .i64))], gaps_Encode⟩ :=
  gaps_hand hC hP (fun v xs Q h A hl hQ => Check_spec A hl hQ) (fun n hn Q h hQ => Put_spec hn hQ)
end Go.Cz.S

/-
  Contracts of strconv at this translation
-/
import Derived.Test.YtcceojmajfinpaaGreatDoorProg
import Derived.KernelRfl
import Derived.Shelf.Strconv.Itoa3
import Derived.Shelf.Strconv.ErrVar
import Derived.Shelf.Strconv.Atoi
import Derived.Test.YtcceojmajfinpaaGreatDoorVmD
import Derived.WalkKit
section
set_option linter.unusedVariables false
set_option linter.unusedSectionVars false
set_option linter.unusedSimpArgs false
namespace Go.Proofs
def Tryz.laysItoa_ren : Go.Shelf.Ren := ⟨fun | 171 => 263 | 243 => 266 | 246 => 268 | 283 => 271 | 284 => 272 | 285 => 273 | 286 => 274 | 129 => 233 | 317 => 280 | 318 => 281 | 319 => 282 | 320 => 283 | 337 => 287 | 338 => 288 | n => n, fun | 3 => 3 | 9 => 9 | 2 => 2 | 4 => 4 | 171 => 276 | 0 => 0 | 53 => 249 | 37 => 41 | 5 => 5 | 173 => 278 | 212 => 287 | 51 => 247 | 20 => 20 | 213 => 288 | 46 => 223 | 232 => 300 | 233 => 301 | n => n, fun | 17 => 0 | 18 => 3 | 19 => 4 | n => n⟩
theorem Tryz.laysItoa : Go.Proofs.LaysM.n171 Tryz.prog Tryz.laysItoa_ren := {
 mixed := by kernel_rfl
 f129 := Tryz.func233.trans (congrArg some (by kernel_rfl))
 f171 := Tryz.func263.trans (congrArg some (by kernel_rfl))
 f243 := Tryz.func266.trans (congrArg some (by kernel_rfl))
 f246 := Tryz.func268.trans (congrArg some (by kernel_rfl))
 f283 := Tryz.func271.trans (congrArg some (by kernel_rfl))
 f284 := Tryz.func272.trans (congrArg some (by kernel_rfl))
 f285 := Tryz.func273.trans (congrArg some (by kernel_rfl))
 f286 := Tryz.func274.trans (congrArg some (by kernel_rfl))
 f317 := Tryz.func280.trans (congrArg some (by kernel_rfl))
 f318 := Tryz.func281.trans (congrArg some (by kernel_rfl))
 f319 := Tryz.func282.trans (congrArg some (by kernel_rfl))
 f320 := Tryz.func283.trans (congrArg some (by kernel_rfl))
 f337 := Tryz.func287.trans (congrArg some (by kernel_rfl))
 f338 := Tryz.func288.trans (congrArg some (by kernel_rfl))
 t0 := Tryz.underlying0
 a0 := Tryz.isAgg0
 z0 := Tryz.sizeOf0
 v0 := Tryz.zeroValue0
 t2 := Tryz.underlying2
 a2 := Tryz.isAgg2
 z2 := Tryz.sizeOf2
 v2 := Tryz.zeroValue2
 t3 := Tryz.underlying3
 a3 := Tryz.isAgg3
 z3 := Tryz.sizeOf3
 v3 := Tryz.zeroValue3
 t4 := Tryz.underlying4
 a4 := Tryz.isAgg4
 z4 := Tryz.sizeOf4
 v4 := Tryz.zeroValue4
 t5 := Tryz.underlying5
 a5 := Tryz.isAgg5
 z5 := Tryz.sizeOf5
 v5 := Tryz.zeroValue5
 t9 := Tryz.underlying9
 a9 := Tryz.isAgg9
 z9 := Tryz.sizeOf9
 v9 := Tryz.zeroValue9
 t20 := Tryz.underlying20
 a20 := Tryz.isAgg20
 z20 := Tryz.sizeOf20
 v20 := Tryz.zeroValue20
 t37 := Tryz.underlying41
 a37 := Tryz.isAgg41
 z37 := Tryz.sizeOf41
 v37 := Tryz.zeroValue41
 t46 := Tryz.underlying223
 a46 := Tryz.isAgg223
 z46 := Tryz.sizeOf223
 v46 := Tryz.zeroValue223
 t51 := Tryz.underlying247
 a51 := Tryz.isAgg247
 z51 := Tryz.sizeOf247
 v51 := Tryz.zeroValue247
 t53 := Tryz.underlying249
 a53 := Tryz.isAgg249
 z53 := Tryz.sizeOf249
 v53 := Tryz.zeroValue249
 t171 := Tryz.underlying276
 a171 := Tryz.isAgg276
 z171 := Tryz.sizeOf276
 v171 := Tryz.zeroValue276
 t173 := Tryz.underlying278
 a173 := Tryz.isAgg278
 z173 := Tryz.sizeOf278
 v173 := Tryz.zeroValue278
 t212 := Tryz.underlying287
 a212 := Tryz.isAgg287
 z212 := Tryz.sizeOf287
 v212 := Tryz.zeroValue287
 t213 := Tryz.underlying288
 a213 := Tryz.isAgg288
 z213 := Tryz.sizeOf288
 t232 := Tryz.underlying300
 a232 := Tryz.isAgg300
 z232 := Tryz.sizeOf300
 v232 := Tryz.zeroValue300
 t233 := Tryz.underlying301
 a233 := Tryz.isAgg301
 z233 := Tryz.sizeOf301
 v233 := Tryz.zeroValue301
 g17 := by kernel_rfl
 g18 := by kernel_rfl
 g19 := by kernel_rfl
 i0 := by kernel_rfl
 i2 := by kernel_rfl
 i3 := by kernel_rfl
 i4 := by kernel_rfl
 i5 := by kernel_rfl
 i9 := by kernel_rfl
 i20 := by kernel_rfl
 i37 := by kernel_rfl
 i46 := by kernel_rfl
 i51 := by kernel_rfl
 i53 := by kernel_rfl
 i171 := by kernel_rfl
 i173 := by kernel_rfl
 i212 := by kernel_rfl
 i232 := by kernel_rfl
 i233 := by kernel_rfl
 m17 := by kernel_rfl
 m18 := by kernel_rfl
 m19 := by kernel_rfl
}
def Tryz.laysAtoi_ren : Go.Shelf.Ren := ⟨fun | 172 => 267 | 244 => 269 | 245 => 270 | 247 => 275 | 279 => 276 | 280 => 277 | 281 => 278 | 282 => 279 | 287 => 284 | 316 => 285 | 171 => 263 | 205 => 286 | 321 => 289 | 322 => 290 | 243 => 266 | 246 => 268 | 283 => 271 | 284 => 272 | 285 => 273 | 286 => 274 | 129 => 233 | 317 => 280 | 318 => 281 | 319 => 282 | 320 => 283 | 337 => 287 | 338 => 288 | n => n, fun | 9 => 9 | 3 => 3 | 75 => 271 | 76 => 272 | 4 => 4 | 5 => 5 | 167 => 280 | 37 => 41 | 0 => 0 | 85 => 281 | 2 => 2 | 168 => 283 | 53 => 249 | 175 => 289 | 46 => 223 | 210 => 293 | 127 => 296 | 145 => 299 | 143 => 297 | 21 => 21 | 171 => 276 | 173 => 278 | 212 => 287 | 51 => 247 | 20 => 20 | 213 => 288 | 232 => 300 | 233 => 301 | 80 => 302 | n => n, fun | 15 => 1 | 16 => 2 | 17 => 0 | 18 => 3 | 19 => 4 | n => n⟩
theorem Tryz.laysAtoi : Go.Proofs.Lays.n172 Tryz.prog Tryz.laysAtoi_ren := {
 mixed := by kernel_rfl
 f129 := Tryz.func233.trans (congrArg some (by kernel_rfl))
 f171 := Tryz.func263.trans (congrArg some (by kernel_rfl))
 f172 := Tryz.func267.trans (congrArg some (by kernel_rfl))
 f205 := Tryz.func286.trans (congrArg some (by kernel_rfl))
 f243 := Tryz.func266.trans (congrArg some (by kernel_rfl))
 f244 := Tryz.func269.trans (congrArg some (by kernel_rfl))
 f245 := Tryz.func270.trans (congrArg some (by kernel_rfl))
 f246 := Tryz.func268.trans (congrArg some (by kernel_rfl))
 f247 := Tryz.func275.trans (congrArg some (by kernel_rfl))
 f279 := Tryz.func276.trans (congrArg some (by kernel_rfl))
 f280 := Tryz.func277.trans (congrArg some (by kernel_rfl))
 f281 := Tryz.func278.trans (congrArg some (by kernel_rfl))
 f282 := Tryz.func279.trans (congrArg some (by kernel_rfl))
 f283 := Tryz.func271.trans (congrArg some (by kernel_rfl))
 f284 := Tryz.func272.trans (congrArg some (by kernel_rfl))
 f285 := Tryz.func273.trans (congrArg some (by kernel_rfl))
 f286 := Tryz.func274.trans (congrArg some (by kernel_rfl))
 f287 := Tryz.func284.trans (congrArg some (by kernel_rfl))
 f316 := Tryz.func285.trans (congrArg some (by kernel_rfl))
 f317 := Tryz.func280.trans (congrArg some (by kernel_rfl))
 f318 := Tryz.func281.trans (congrArg some (by kernel_rfl))
 f319 := Tryz.func282.trans (congrArg some (by kernel_rfl))
 f320 := Tryz.func283.trans (congrArg some (by kernel_rfl))
 f321 := Tryz.func289.trans (congrArg some (by kernel_rfl))
 f322 := Tryz.func290.trans (congrArg some (by kernel_rfl))
 f337 := Tryz.func287.trans (congrArg some (by kernel_rfl))
 f338 := Tryz.func288.trans (congrArg some (by kernel_rfl))
 t0 := Tryz.underlying0
 a0 := Tryz.isAgg0
 z0 := Tryz.sizeOf0
 v0 := Tryz.zeroValue0
 t2 := Tryz.underlying2
 a2 := Tryz.isAgg2
 z2 := Tryz.sizeOf2
 v2 := Tryz.zeroValue2
 t3 := Tryz.underlying3
 a3 := Tryz.isAgg3
 z3 := Tryz.sizeOf3
 v3 := Tryz.zeroValue3
 t4 := Tryz.underlying4
 a4 := Tryz.isAgg4
 z4 := Tryz.sizeOf4
 v4 := Tryz.zeroValue4
 t5 := Tryz.underlying5
 a5 := Tryz.isAgg5
 z5 := Tryz.sizeOf5
 v5 := Tryz.zeroValue5
 t9 := Tryz.underlying9
 a9 := Tryz.isAgg9
 z9 := Tryz.sizeOf9
 v9 := Tryz.zeroValue9
 t20 := Tryz.underlying20
 a20 := Tryz.isAgg20
 z20 := Tryz.sizeOf20
 v20 := Tryz.zeroValue20
 t21 := Tryz.underlying21
 a21 := Tryz.isAgg21
 z21 := Tryz.sizeOf21
 v21 := Tryz.zeroValue21
 t37 := Tryz.underlying41
 a37 := Tryz.isAgg41
 z37 := Tryz.sizeOf41
 v37 := Tryz.zeroValue41
 t46 := Tryz.underlying223
 a46 := Tryz.isAgg223
 z46 := Tryz.sizeOf223
 v46 := Tryz.zeroValue223
 t51 := Tryz.underlying247
 a51 := Tryz.isAgg247
 z51 := Tryz.sizeOf247
 v51 := Tryz.zeroValue247
 t53 := Tryz.underlying249
 a53 := Tryz.isAgg249
 z53 := Tryz.sizeOf249
 v53 := Tryz.zeroValue249
 t75 := Tryz.underlying271
 a75 := Tryz.isAgg271
 z75 := Tryz.sizeOf271
 v75 := Tryz.zeroValue271
 t76 := Tryz.underlying272
 a76 := Tryz.isAgg272
 z76 := Tryz.sizeOf272
 v76 := Tryz.zeroValue272
 t85 := Tryz.underlying281
 a85 := Tryz.isAgg281
 z85 := Tryz.sizeOf281
 v85 := Tryz.zeroValue281
 t127 := Tryz.underlying296
 a127 := Tryz.isAgg296
 z127 := Tryz.sizeOf296
 v127 := Tryz.zeroValue296
 t143 := Tryz.underlying297
 a143 := Tryz.isAgg297
 z143 := Tryz.sizeOf297
 v143 := Tryz.zeroValue297
 t145 := Tryz.underlying299
 a145 := Tryz.isAgg299
 z145 := Tryz.sizeOf299
 v145 := Tryz.zeroValue299
 t167 := Tryz.underlying280
 a167 := Tryz.isAgg280
 z167 := Tryz.sizeOf280
 v167 := Tryz.zeroValue280
 t168 := Tryz.underlying283
 a168 := Tryz.isAgg283
 z168 := Tryz.sizeOf283
 v168 := Tryz.zeroValue283
 t171 := Tryz.underlying276
 a171 := Tryz.isAgg276
 z171 := Tryz.sizeOf276
 v171 := Tryz.zeroValue276
 t173 := Tryz.underlying278
 a173 := Tryz.isAgg278
 z173 := Tryz.sizeOf278
 v173 := Tryz.zeroValue278
 t175 := Tryz.underlying289
 a175 := Tryz.isAgg289
 z175 := Tryz.sizeOf289
 v175 := Tryz.zeroValue289
 t210 := Tryz.underlying293
 a210 := Tryz.isAgg293
 z210 := Tryz.sizeOf293
 v210 := Tryz.zeroValue293
 t212 := Tryz.underlying287
 a212 := Tryz.isAgg287
 z212 := Tryz.sizeOf287
 v212 := Tryz.zeroValue287
 t213 := Tryz.underlying288
 a213 := Tryz.isAgg288
 z213 := Tryz.sizeOf288
 t232 := Tryz.underlying300
 a232 := Tryz.isAgg300
 z232 := Tryz.sizeOf300
 v232 := Tryz.zeroValue300
 t233 := Tryz.underlying301
 a233 := Tryz.isAgg301
 z233 := Tryz.sizeOf301
 v233 := Tryz.zeroValue301
 g15 := by kernel_rfl
 g16 := by kernel_rfl
 g17 := by kernel_rfl
 g18 := by kernel_rfl
 g19 := by kernel_rfl
}
def Tryz.laysAtoiC_ren : Go.Shelf.Ren := ⟨fun | 172 => 267 | 244 => 269 | 245 => 270 | 247 => 275 | 279 => 276 | 280 => 277 | 281 => 278 | 282 => 279 | 287 => 284 | 316 => 285 | 171 => 263 | 205 => 286 | 321 => 289 | 322 => 290 | 243 => 266 | 246 => 268 | 283 => 271 | 284 => 272 | 285 => 273 | 286 => 274 | 129 => 233 | 317 => 280 | 318 => 281 | 319 => 282 | 320 => 283 | 337 => 287 | 338 => 288 | n => n, fun | 9 => 9 | 3 => 3 | 75 => 271 | 76 => 272 | 4 => 4 | 5 => 5 | 167 => 280 | 37 => 41 | 0 => 0 | 85 => 281 | 2 => 2 | 168 => 283 | 53 => 249 | 175 => 289 | 46 => 223 | 210 => 293 | 127 => 296 | 145 => 299 | 143 => 297 | 21 => 21 | 171 => 276 | 173 => 278 | 212 => 287 | 51 => 247 | 20 => 20 | 213 => 288 | 232 => 300 | 233 => 301 | 80 => 302 | n => n, fun | 15 => 1 | 16 => 2 | 17 => 0 | 18 => 3 | 19 => 4 | n => n⟩
theorem Tryz.laysAtoiC : Go.Proofs.LaysC.n172 Tryz.prog Tryz.laysAtoiC_ren := {
 mixed := by kernel_rfl
 f129 := Tryz.func233.trans (congrArg some (by kernel_rfl))
 f171 := Tryz.func263.trans (congrArg some (by kernel_rfl))
 f172 := Tryz.func267.trans (congrArg some (by kernel_rfl))
 f205 := Tryz.func286.trans (congrArg some (by kernel_rfl))
 f243 := Tryz.func266.trans (congrArg some (by kernel_rfl))
 f244 := Tryz.func269.trans (congrArg some (by kernel_rfl))
 f245 := Tryz.func270.trans (congrArg some (by kernel_rfl))
 f246 := Tryz.func268.trans (congrArg some (by kernel_rfl))
 f247 := Tryz.func275.trans (congrArg some (by kernel_rfl))
 f279 := Tryz.func276.trans (congrArg some (by kernel_rfl))
 f280 := Tryz.func277.trans (congrArg some (by kernel_rfl))
 f281 := Tryz.func278.trans (congrArg some (by kernel_rfl))
 f282 := Tryz.func279.trans (congrArg some (by kernel_rfl))
 f283 := Tryz.func271.trans (congrArg some (by kernel_rfl))
 f284 := Tryz.func272.trans (congrArg some (by kernel_rfl))
 f285 := Tryz.func273.trans (congrArg some (by kernel_rfl))
 f286 := Tryz.func274.trans (congrArg some (by kernel_rfl))
 f287 := Tryz.func284.trans (congrArg some (by kernel_rfl))
 f316 := Tryz.func285.trans (congrArg some (by kernel_rfl))
 f317 := Tryz.func280.trans (congrArg some (by kernel_rfl))
 f318 := Tryz.func281.trans (congrArg some (by kernel_rfl))
 f319 := Tryz.func282.trans (congrArg some (by kernel_rfl))
 f320 := Tryz.func283.trans (congrArg some (by kernel_rfl))
 f321 := Tryz.func289.trans (congrArg some (by kernel_rfl))
 f322 := Tryz.func290.trans (congrArg some (by kernel_rfl))
 f337 := Tryz.func287.trans (congrArg some (by kernel_rfl))
 f338 := Tryz.func288.trans (congrArg some (by kernel_rfl))
 t0 := Tryz.underlying0
 a0 := Tryz.isAgg0
 z0 := Tryz.sizeOf0
 v0 := Tryz.zeroValue0
 t2 := Tryz.underlying2
 a2 := Tryz.isAgg2
 z2 := Tryz.sizeOf2
 v2 := Tryz.zeroValue2
 t3 := Tryz.underlying3
 a3 := Tryz.isAgg3
 z3 := Tryz.sizeOf3
 v3 := Tryz.zeroValue3
 t4 := Tryz.underlying4
 a4 := Tryz.isAgg4
 z4 := Tryz.sizeOf4
 v4 := Tryz.zeroValue4
 t5 := Tryz.underlying5
 a5 := Tryz.isAgg5
 z5 := Tryz.sizeOf5
 v5 := Tryz.zeroValue5
 t9 := Tryz.underlying9
 a9 := Tryz.isAgg9
 z9 := Tryz.sizeOf9
 v9 := Tryz.zeroValue9
 t20 := Tryz.underlying20
 a20 := Tryz.isAgg20
 z20 := Tryz.sizeOf20
 v20 := Tryz.zeroValue20
 t21 := Tryz.underlying21
 a21 := Tryz.isAgg21
 z21 := Tryz.sizeOf21
 v21 := Tryz.zeroValue21
 t37 := Tryz.underlying41
 a37 := Tryz.isAgg41
 z37 := Tryz.sizeOf41
 v37 := Tryz.zeroValue41
 t46 := Tryz.underlying223
 a46 := Tryz.isAgg223
 z46 := Tryz.sizeOf223
 v46 := Tryz.zeroValue223
 t51 := Tryz.underlying247
 a51 := Tryz.isAgg247
 z51 := Tryz.sizeOf247
 v51 := Tryz.zeroValue247
 t53 := Tryz.underlying249
 a53 := Tryz.isAgg249
 z53 := Tryz.sizeOf249
 v53 := Tryz.zeroValue249
 t75 := Tryz.underlying271
 a75 := Tryz.isAgg271
 z75 := Tryz.sizeOf271
 v75 := Tryz.zeroValue271
 t76 := Tryz.underlying272
 a76 := Tryz.isAgg272
 z76 := Tryz.sizeOf272
 v76 := Tryz.zeroValue272
 t85 := Tryz.underlying281
 a85 := Tryz.isAgg281
 z85 := Tryz.sizeOf281
 v85 := Tryz.zeroValue281
 t127 := Tryz.underlying296
 a127 := Tryz.isAgg296
 z127 := Tryz.sizeOf296
 v127 := Tryz.zeroValue296
 t143 := Tryz.underlying297
 a143 := Tryz.isAgg297
 z143 := Tryz.sizeOf297
 v143 := Tryz.zeroValue297
 t145 := Tryz.underlying299
 a145 := Tryz.isAgg299
 z145 := Tryz.sizeOf299
 v145 := Tryz.zeroValue299
 t167 := Tryz.underlying280
 a167 := Tryz.isAgg280
 z167 := Tryz.sizeOf280
 v167 := Tryz.zeroValue280
 t168 := Tryz.underlying283
 a168 := Tryz.isAgg283
 z168 := Tryz.sizeOf283
 v168 := Tryz.zeroValue283
 t171 := Tryz.underlying276
 a171 := Tryz.isAgg276
 z171 := Tryz.sizeOf276
 v171 := Tryz.zeroValue276
 t173 := Tryz.underlying278
 a173 := Tryz.isAgg278
 z173 := Tryz.sizeOf278
 v173 := Tryz.zeroValue278
 t175 := Tryz.underlying289
 a175 := Tryz.isAgg289
 z175 := Tryz.sizeOf289
 v175 := Tryz.zeroValue289
 t210 := Tryz.underlying293
 a210 := Tryz.isAgg293
 z210 := Tryz.sizeOf293
 v210 := Tryz.zeroValue293
 t212 := Tryz.underlying287
 a212 := Tryz.isAgg287
 z212 := Tryz.sizeOf287
 v212 := Tryz.zeroValue287
 t213 := Tryz.underlying288
 a213 := Tryz.isAgg288
 z213 := Tryz.sizeOf288
 t232 := Tryz.underlying300
 a232 := Tryz.isAgg300
 z232 := Tryz.sizeOf300
 v232 := Tryz.zeroValue300
 t233 := Tryz.underlying301
 a233 := Tryz.isAgg301
 z233 := Tryz.sizeOf301
 v233 := Tryz.zeroValue301
 g15 := by kernel_rfl
 g16 := by kernel_rfl
 g17 := by kernel_rfl
 g18 := by kernel_rfl
 g19 := by kernel_rfl
 t80 := Tryz.underlying302
 a80 := Tryz.isAgg302
 z80 := Tryz.sizeOf302
 v80 := Tryz.zeroValue302
 i0 := by kernel_rfl
 i2 := by kernel_rfl
 i3 := by kernel_rfl
 i4 := by kernel_rfl
 i5 := by kernel_rfl
 i9 := by kernel_rfl
 i20 := by kernel_rfl
 i21 := by kernel_rfl
 i37 := by kernel_rfl
 i46 := by kernel_rfl
 i51 := by kernel_rfl
 i53 := by kernel_rfl
 i75 := by kernel_rfl
 i76 := by kernel_rfl
 i80 := by kernel_rfl
 i85 := by kernel_rfl
 i127 := by kernel_rfl
 i143 := by kernel_rfl
 i145 := by kernel_rfl
 i167 := by kernel_rfl
 i168 := by kernel_rfl
 i171 := by kernel_rfl
 i173 := by kernel_rfl
 i175 := by kernel_rfl
 i210 := by kernel_rfl
 i212 := by kernel_rfl
 i232 := by kernel_rfl
 i233 := by kernel_rfl
 m15 := by kernel_rfl
 m16 := by kernel_rfl
 m17 := by kernel_rfl
 m18 := by kernel_rfl
 m19 := by kernel_rfl
 c0 := by kernel_rfl
 c2 := by kernel_rfl
 c3 := by kernel_rfl
 c4 := by kernel_rfl
 c5 := by kernel_rfl
 c9 := by kernel_rfl
 c20 := by kernel_rfl
 c21 := by kernel_rfl
 c37 := by kernel_rfl
 c46 := by kernel_rfl
 c51 := by kernel_rfl
 c53 := by kernel_rfl
 c75 := by kernel_rfl
 c76 := by kernel_rfl
 c80 := by kernel_rfl
 c85 := by kernel_rfl
 c127 := by kernel_rfl
 c143 := by kernel_rfl
 c145 := by kernel_rfl
 c167 := by kernel_rfl
 c168 := by kernel_rfl
 c171 := by kernel_rfl
 c173 := by kernel_rfl
 c175 := by kernel_rfl
 c210 := by kernel_rfl
 c212 := by kernel_rfl
 c213 := by kernel_rfl
 c232 := by kernel_rfl
 c233 := by kernel_rfl
}
end Go.Proofs
namespace Go.Vm.T
open Go.RowKit Go.Lib Go.Proofs
theorem Zpo {w : World} (k : Nat) (os : Array Obj) : Below w.heap.size w (Go.Sort.grow (w.drewN k) os) := by
 exact ⟨rfl, rfl, rfl, by simp [Go.Sort.grow], fun i hi => by
  show (w.heap ++ os)[i]? = w.heap[i]?
  rw [Array.getElem?_append_left hi]⟩
theorem Y0i : Z5i Tryz.prog Zpq 263 ∧ Z6k Tryz.prog 263 := by
 refine ⟨fun S w zs rs xs e hS hG r => ?_, ⟨_, Tryz.func263, by kernel_rfl, by kernel_rfl⟩⟩
 unfold Zpq at e
 split at e
 · rename_i n
   split at e
   · rename_i hn
     simp only [Option.some.injEq] at e
     subst e
     obtain ⟨x, xs', rfl, rx, rt⟩ := r.inv_cons
     have := rt.inv_nil
     subst this
     obtain ⟨rfl, _⟩ := R.v_inv rx
     refine (Any.strconv_Itoa Tryz.laysItoa n hn.1 hn.2 w (hG.pow (by kernel_rfl))).mono (fun en w1 he => ?_)
     obtain ⟨rfl, k, os, rfl⟩ := he
     exact Zrh hS hG (Zpo k os) (fun _ => rfl) (.v _ rfl)
   · cases e
 · cases e
theorem Zng {B : Nat} {a w : World} (h : Below B a w) (hB : B ≤ w.heap.size) (T : TypeId) (t : ByteArray) : Below B a (Lib.bytesWorld w T t) := by
 refine h.trans ?_
 have h1 : Below B w (w.drew.alloc (.cells (Lib.bytesCells w T t) T)) := ((Below.refl B w).drew).alloc hB _
 refine h1.trans ?_
 unfold Lib.bytesWorld World.freeze
 rw [if_neg (by decide)]
 refine ⟨rfl, rfl, rfl, by simp, fun i hi => ?_⟩
 have hne : w.heap.size ≠ i := by omega
 simp only [Array.getElem?_modify, hne, if_false]
theorem Zu8 (s : ByteArray) (n : Int) (hl : s.size ≤ 18) (h : Lib.atoi s.data.toList = some n) (w : World) : Calls Tryz.prog 267 #[.string s] w fun e w1 => e = .returned (.tuple #[.int .i64 n, .nilIface]) ∧ Below w.heap.size w w1 :=
 (Any.strconv_Atoi Tryz.laysAtoi s n hl h w).mono (fun e w1 he => ⟨he.1, by obtain ⟨_, t, rfl⟩ := he; exact Zng (Below.refl _ _) (Nat.le_refl _) _ _⟩)
theorem Zqu (s : ByteArray) (hl : s.size ≤ 18) (h : Lib.atoi s.data.toList = none) (w : World) (hv : ∃ tp p, w.var? Tryz.prog "strconv.ErrSyntax" = some #[.iface tp p]) : Calls Tryz.prog 267 #[.string s] w fun e w1 => (∃ tp v, e = .returned (.tuple #[.int .i64 0, .iface tp v])) ∧ Below w.heap.size w w1 := by
 obtain ⟨tp, p, hv⟩ := hv
 refine (Any.strconv_Atoi_err_var Tryz.laysAtoiC s hl h tp p w hv).mono (fun e w1 he => ?_)
 obtain ⟨N, h1, _, _, h2⟩ := he
 exact ⟨⟨_, _, h1⟩, h2⟩
theorem Y0a : Z5i Tryz.prog Zit 267 ∧ Z6k Tryz.prog 267 := by
 refine ⟨fun S w zs rs xs e hS hG r => ?_, ⟨_, Tryz.func267, by kernel_rfl, by kernel_rfl⟩⟩
 unfold Zit at e
 split at e
 · rename_i t
   split at e
   · rename_i hn
     obtain ⟨x, xs', rfl, rx, rt⟩ := r.inv_cons
     have := rt.inv_nil
     subst this
     obtain ⟨rfl, _⟩ := R.v_inv rx
     split at e
     · rename_i n hat
       simp only [Option.some.injEq] at e
       subst e
       refine (Zu8 t n hn hat w).mono (fun en w1 he => ?_)
       obtain ⟨rfl, hb⟩ := he
       exact Zem hS hG hb (fun _ => rfl) (.tup [_, _] [_, _] rfl (fun i x y h1 h2 => by
        match i, h1, h2 with
        | 0, h1, h2 => cases h1; cases h2; exact .v _ rfl
        | 1, h1, h2 => cases h1; cases h2; exact .v _ rfl))
     · rename_i hat
       simp only [Option.some.injEq] at e
       subst e
       refine (Zqu t hn hat w (hG.syn (by kernel_rfl))).mono (fun en w1 he => ?_)
       obtain ⟨⟨tp, v, rfl⟩, hb⟩ := he
       exact Zem hS hG hb (fun _ => rfl) (.tup [_, _] [_, _] rfl (fun i x y h1 h2 => by
        match i, h1, h2 with
        | 0, h1, h2 => cases h1; cases h2; exact .v _ rfl
        | 1, h1, h2 => cases h1; cases h2; exact .err _ _))
   · cases e
 · cases e
end Go.Vm.T
end

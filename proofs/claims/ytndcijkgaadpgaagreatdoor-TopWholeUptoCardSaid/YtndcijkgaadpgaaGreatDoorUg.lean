/-
  The library functions of the house, laid at its program (printed by wip/gen_lay2.py); no condition.
-/
import Derived.Test.YtndcijkgaadpgaaGreatDoorProg
import Derived.RowKit
import Derived.Shelf.Lays
import Derived.Shelf.LaysC
import Derived.Shelf.LaysM
import Derived.Shelf.SlLaysF0
namespace Go.Proofs.YtndcijkgaadpgaaGreatDoor
section
open Go.RowKit Go.Shelf
theorem bears_of {P : Program} {f : FuncId} {B fn : Func} (h : P.funcs[f]? = some fn) (hn : (fn.name == "runtime.NumGoroutine") = false) (he : { B with name := fn.name } = fn) : Bears P f B :=
  ⟨fn.name, by simpa using hn, by rw [h, he]⟩
def cmpSRen : Ren := ⟨fun k => if k = 106 then 122 else if k = 213 then 184 else if k = 265 then 261 else k, fun k => if k = 9 then 9 else if k = 3 then 3 else k, fun k => k⟩
theorem cmpSLays : Lays.n106 Tryz.prog cmpSRen := {
  mixed := by kernel_rfl
  f106 := by kernel_rfl
  f213 := by kernel_rfl
  f265 := by kernel_rfl
  t3 := by kernel_rfl
  a3 := fun _ => by kernel_rfl
  z3 := fun _ => by kernel_rfl
  v3 := fun _ => by kernel_rfl
  t9 := by kernel_rfl
  a9 := fun _ => by kernel_rfl
  z9 := fun _ => by kernel_rfl
  v9 := fun _ => by kernel_rfl
}
def cutSRen : Ren := ⟨fun k => if k = 145 then 21 else if k = 220 then 46 else if k = 219 then 72 else if k = 217 then 128 else if k = 225 then 129 else if k = 224 then 130 else if k = 267 then 131 else if k = 266 then 189 else if k = 314 then 190 else k, fun k => if k = 9 then 9 else if k = 4 then 4 else if k = 59 then 62 else if k = 3 then 3 else if k = 5 then 5 else if k = 46 then 179 else if k = 146 then 274 else if k = 51 then 133 else k, fun k => if k = 1 then 0 else k⟩
theorem cutSLays : Lays.n145 Tryz.prog cutSRen := {
  mixed := by kernel_rfl
  f145 := by kernel_rfl
  f217 := by kernel_rfl
  f219 := by kernel_rfl
  f220 := by kernel_rfl
  f224 := by kernel_rfl
  f225 := by kernel_rfl
  f266 := by kernel_rfl
  f267 := by kernel_rfl
  f314 := by kernel_rfl
  t3 := by kernel_rfl
  a3 := fun _ => by kernel_rfl
  z3 := fun _ => by kernel_rfl
  v3 := fun _ => by kernel_rfl
  t4 := by kernel_rfl
  a4 := fun _ => by kernel_rfl
  z4 := fun _ => by kernel_rfl
  v4 := fun _ => by kernel_rfl
  t5 := by kernel_rfl
  a5 := fun _ => by kernel_rfl
  z5 := fun _ => by kernel_rfl
  v5 := fun _ => by kernel_rfl
  t9 := by kernel_rfl
  a9 := fun _ => by kernel_rfl
  z9 := fun _ => by kernel_rfl
  v9 := fun _ => by kernel_rfl
  t46 := by kernel_rfl
  a46 := fun _ => by kernel_rfl
  z46 := fun _ => by kernel_rfl
  v46 := fun _ => by kernel_rfl
  t51 := by kernel_rfl
  a51 := fun _ => by kernel_rfl
  z51 := fun _ => by kernel_rfl
  v51 := fun _ => by kernel_rfl
  t59 := by kernel_rfl
  a59 := fun _ => by kernel_rfl
  z59 := fun _ => by kernel_rfl
  v59 := fun _ => by kernel_rfl
  t146 := by kernel_rfl
  a146 := fun _ => by kernel_rfl
  z146 := fun _ => by kernel_rfl
  v146 := fun _ => by kernel_rfl
  g1 := by kernel_rfl
}
def splitSRen : Ren := ⟨fun k => if k = 146 then 48 else if k = 221 then 74 else if k = 268 then 133 else if k = 138 then 134 else if k = 143 then 135 else if k = 195 then 191 else if k = 197 then 192 else if k = 218 then 193 else if k = 219 then 72 else if k = 260 then 266 else if k = 217 then 128 else if k = 225 then 129 else if k = 224 then 130 else if k = 267 then 131 else if k = 266 then 189 else if k = 314 then 190 else k, fun k => if k = 9 then 9 else if k = 31 then 22 else if k = 3 then 3 else if k = 4 then 4 else if k = 0 then 0 else if k = 105 then 277 else if k = 21 then 21 else if k = 5 then 5 else if k = 46 then 179 else if k = 119 then 264 else if k = 139 then 490 else if k = 138 then 489 else if k = 146 then 274 else if k = 51 then 133 else k, fun k => if k = 1 then 0 else if k = 3 then 4 else if k = 4 then 5 else k⟩
theorem splitSLays : Lays.n146 Tryz.prog splitSRen := {
  mixed := by kernel_rfl
  f138 := by kernel_rfl
  f143 := by kernel_rfl
  f146 := by kernel_rfl
  f195 := by kernel_rfl
  f197 := by kernel_rfl
  f217 := by kernel_rfl
  f218 := by kernel_rfl
  f219 := by kernel_rfl
  f221 := by kernel_rfl
  f224 := by kernel_rfl
  f225 := by kernel_rfl
  f260 := by kernel_rfl
  f266 := by kernel_rfl
  f267 := by kernel_rfl
  f268 := by kernel_rfl
  f314 := by kernel_rfl
  t0 := by kernel_rfl
  a0 := fun _ => by kernel_rfl
  z0 := fun _ => by kernel_rfl
  v0 := fun _ => by kernel_rfl
  t3 := by kernel_rfl
  a3 := fun _ => by kernel_rfl
  z3 := fun _ => by kernel_rfl
  v3 := fun _ => by kernel_rfl
  t4 := by kernel_rfl
  a4 := fun _ => by kernel_rfl
  z4 := fun _ => by kernel_rfl
  v4 := fun _ => by kernel_rfl
  t5 := by kernel_rfl
  a5 := fun _ => by kernel_rfl
  z5 := fun _ => by kernel_rfl
  v5 := fun _ => by kernel_rfl
  t9 := by kernel_rfl
  a9 := fun _ => by kernel_rfl
  z9 := fun _ => by kernel_rfl
  v9 := fun _ => by kernel_rfl
  t21 := by kernel_rfl
  a21 := fun _ => by kernel_rfl
  z21 := fun _ => by kernel_rfl
  v21 := fun _ => by kernel_rfl
  t31 := by kernel_rfl
  a31 := fun _ => by kernel_rfl
  z31 := fun _ => by kernel_rfl
  v31 := fun _ => by kernel_rfl
  t46 := by kernel_rfl
  a46 := fun _ => by kernel_rfl
  z46 := fun _ => by kernel_rfl
  v46 := fun _ => by kernel_rfl
  t51 := by kernel_rfl
  a51 := fun _ => by kernel_rfl
  z51 := fun _ => by kernel_rfl
  v51 := fun _ => by kernel_rfl
  t105 := by kernel_rfl
  a105 := fun _ => by kernel_rfl
  z105 := fun _ => by kernel_rfl
  v105 := fun _ => by kernel_rfl
  t119 := by kernel_rfl
  a119 := fun _ => by kernel_rfl
  z119 := fun _ => by kernel_rfl
  t138 := by kernel_rfl
  a138 := fun _ => by kernel_rfl
  z138 := fun _ => by kernel_rfl
  v138 := fun _ => by kernel_rfl
  t139 := by kernel_rfl
  a139 := fun _ => by kernel_rfl
  z139 := fun _ => by kernel_rfl
  v139 := fun _ => by kernel_rfl
  t146 := by kernel_rfl
  a146 := fun _ => by kernel_rfl
  z146 := fun _ => by kernel_rfl
  v146 := fun _ => by kernel_rfl
  g1 := by kernel_rfl
  g3 := by kernel_rfl
  g4 := by kernel_rfl
}
def fieldsSRen : Ren := ⟨fun k => if k = 157 then 117 else if k = 229 then 180 else if k = 199 then 181 else if k = 261 then 250 else if k = 311 then 323 else if k = 312 then 324 else k, fun k => if k = 9 then 9 else if k = 31 then 22 else if k = 3 then 3 else if k = 5 then 5 else if k = 4 then 4 else if k = 119 then 264 else if k = 0 then 0 else if k = 40 then 266 else if k = 152 then 384 else if k = 21 then 21 else if k = 154 then 386 else if k = 51 then 133 else if k = 141 then 388 else if k = 196 then 474 else if k = 193 then 471 else if k = 198 then 477 else if k = 49 then 475 else if k = 194 then 472 else if k = 201 then 480 else if k = 226 then 545 else if k = 46 then 179 else if k = 227 then 546 else k, fun k => if k = 0 then 1 else if k = 6 then 2 else k⟩
theorem fieldsSLays : Lays.n157 Tryz.prog fieldsSRen := {
  mixed := by kernel_rfl
  f157 := by kernel_rfl
  f199 := by kernel_rfl
  f229 := by kernel_rfl
  f261 := by kernel_rfl
  f311 := by kernel_rfl
  f312 := by kernel_rfl
  t0 := by kernel_rfl
  a0 := fun _ => by kernel_rfl
  z0 := fun _ => by kernel_rfl
  v0 := fun _ => by kernel_rfl
  t3 := by kernel_rfl
  a3 := fun _ => by kernel_rfl
  z3 := fun _ => by kernel_rfl
  v3 := fun _ => by kernel_rfl
  t4 := by kernel_rfl
  a4 := fun _ => by kernel_rfl
  z4 := fun _ => by kernel_rfl
  v4 := fun _ => by kernel_rfl
  t5 := by kernel_rfl
  a5 := fun _ => by kernel_rfl
  z5 := fun _ => by kernel_rfl
  v5 := fun _ => by kernel_rfl
  t9 := by kernel_rfl
  a9 := fun _ => by kernel_rfl
  z9 := fun _ => by kernel_rfl
  v9 := fun _ => by kernel_rfl
  t21 := by kernel_rfl
  a21 := fun _ => by kernel_rfl
  z21 := fun _ => by kernel_rfl
  v21 := fun _ => by kernel_rfl
  t31 := by kernel_rfl
  a31 := fun _ => by kernel_rfl
  z31 := fun _ => by kernel_rfl
  v31 := fun _ => by kernel_rfl
  t40 := by kernel_rfl
  a40 := fun _ => by kernel_rfl
  z40 := fun _ => by kernel_rfl
  v40 := fun _ => by kernel_rfl
  t46 := by kernel_rfl
  a46 := fun _ => by kernel_rfl
  z46 := fun _ => by kernel_rfl
  v46 := fun _ => by kernel_rfl
  t49 := by kernel_rfl
  a49 := fun _ => by kernel_rfl
  z49 := fun _ => by kernel_rfl
  v49 := fun _ => by kernel_rfl
  t51 := by kernel_rfl
  a51 := fun _ => by kernel_rfl
  z51 := fun _ => by kernel_rfl
  v51 := fun _ => by kernel_rfl
  t119 := by kernel_rfl
  a119 := fun _ => by kernel_rfl
  z119 := fun _ => by kernel_rfl
  t141 := by kernel_rfl
  a141 := fun _ => by kernel_rfl
  z141 := fun _ => by kernel_rfl
  v141 := fun _ => by kernel_rfl
  t152 := by kernel_rfl
  a152 := fun _ => by kernel_rfl
  z152 := fun _ => by kernel_rfl
  v152 := fun _ => by kernel_rfl
  t154 := by kernel_rfl
  a154 := fun _ => by kernel_rfl
  z154 := fun _ => by kernel_rfl
  v154 := fun _ => by kernel_rfl
  t193 := by kernel_rfl
  a193 := fun _ => by kernel_rfl
  z193 := fun _ => by kernel_rfl
  v193 := fun _ => by kernel_rfl
  t194 := by kernel_rfl
  a194 := fun _ => by kernel_rfl
  z194 := fun _ => by kernel_rfl
  v194 := fun _ => by kernel_rfl
  t196 := by kernel_rfl
  a196 := fun _ => by kernel_rfl
  z196 := fun _ => by kernel_rfl
  v196 := fun _ => by kernel_rfl
  t198 := by kernel_rfl
  a198 := fun _ => by kernel_rfl
  z198 := fun _ => by kernel_rfl
  v198 := fun _ => by kernel_rfl
  t201 := by kernel_rfl
  a201 := fun _ => by kernel_rfl
  z201 := fun _ => by kernel_rfl
  v201 := fun _ => by kernel_rfl
  t226 := by kernel_rfl
  a226 := fun _ => by kernel_rfl
  z226 := fun _ => by kernel_rfl
  v226 := fun _ => by kernel_rfl
  t227 := by kernel_rfl
  a227 := fun _ => by kernel_rfl
  z227 := fun _ => by kernel_rfl
  v227 := fun _ => by kernel_rfl
  g0 := by kernel_rfl
  g6 := by kernel_rfl
}
def joinSRen : Ren := ⟨fun k => if k = 156 then 267 else if k = 165 then 332 else if k = 166 then 333 else if k = 169 then 334 else if k = 240 then 386 else if k = 241 then 387 else if k = 276 then 410 else if k = 277 then 411 else k, fun k => if k = 31 then 22 else if k = 9 then 9 else if k = 3 then 3 else if k = 4 then 4 else if k = 0 then 0 else if k = 20 then 20 else if k = 72 then 493 else if k = 76 then 262 else if k = 70 then 491 else if k = 37 then 107 else if k = 75 then 261 else if k = 127 then 551 else if k = 164 then 571 else if k = 5 then 5 else if k = 80 then 29 else k, fun k => k⟩
theorem joinSLays : Lays.n156 Tryz.prog joinSRen := {
  mixed := by kernel_rfl
  f156 := by kernel_rfl
  f165 := by kernel_rfl
  f166 := by kernel_rfl
  f169 := by kernel_rfl
  f240 := by kernel_rfl
  f241 := by kernel_rfl
  f276 := by kernel_rfl
  f277 := by kernel_rfl
  t0 := by kernel_rfl
  a0 := fun _ => by kernel_rfl
  z0 := fun _ => by kernel_rfl
  v0 := fun _ => by kernel_rfl
  t3 := by kernel_rfl
  a3 := fun _ => by kernel_rfl
  z3 := fun _ => by kernel_rfl
  v3 := fun _ => by kernel_rfl
  t4 := by kernel_rfl
  a4 := fun _ => by kernel_rfl
  z4 := fun _ => by kernel_rfl
  v4 := fun _ => by kernel_rfl
  t9 := by kernel_rfl
  a9 := fun _ => by kernel_rfl
  z9 := fun _ => by kernel_rfl
  v9 := fun _ => by kernel_rfl
  t20 := by kernel_rfl
  a20 := fun _ => by kernel_rfl
  z20 := fun _ => by kernel_rfl
  v20 := fun _ => by kernel_rfl
  t31 := by kernel_rfl
  a31 := fun _ => by kernel_rfl
  z31 := fun _ => by kernel_rfl
  v31 := fun _ => by kernel_rfl
  t37 := by kernel_rfl
  a37 := fun _ => by kernel_rfl
  z37 := fun _ => by kernel_rfl
  v37 := fun _ => by kernel_rfl
  t70 := by kernel_rfl
  a70 := fun _ => by kernel_rfl
  z70 := fun _ => by kernel_rfl
  v70 := fun _ => by kernel_rfl
  t72 := by kernel_rfl
  a72 := fun _ => by kernel_rfl
  z72 := fun _ => by kernel_rfl
  v72 := fun _ => by kernel_rfl
  t75 := by kernel_rfl
  a75 := fun _ => by kernel_rfl
  z75 := fun _ => by kernel_rfl
  v75 := fun _ => by kernel_rfl
  t76 := by kernel_rfl
  a76 := fun _ => by kernel_rfl
  z76 := fun _ => by kernel_rfl
  v76 := fun _ => by kernel_rfl
  t127 := by kernel_rfl
  a127 := fun _ => by kernel_rfl
  z127 := fun _ => by kernel_rfl
  v127 := fun _ => by kernel_rfl
  t164 := by kernel_rfl
  a164 := fun _ => by kernel_rfl
  z164 := fun _ => by kernel_rfl
  v164 := fun _ => by kernel_rfl
}
def trimSRen : Ren := ⟨fun k => if k = 101 then 178 else if k = 208 then 247 else if k = 206 then 132 else k, fun k => if k = 9 then 9 else if k = 4 then 4 else if k = 3 then 3 else k, fun k => k⟩
theorem trimSLays : Lays.n101 Tryz.prog trimSRen := {
  mixed := by kernel_rfl
  f101 := by kernel_rfl
  f206 := by kernel_rfl
  f208 := by kernel_rfl
  t3 := by kernel_rfl
  a3 := fun _ => by kernel_rfl
  z3 := fun _ => by kernel_rfl
  v3 := fun _ => by kernel_rfl
  t4 := by kernel_rfl
  a4 := fun _ => by kernel_rfl
  z4 := fun _ => by kernel_rfl
  v4 := fun _ => by kernel_rfl
  t9 := by kernel_rfl
  a9 := fun _ => by kernel_rfl
  z9 := fun _ => by kernel_rfl
  v9 := fun _ => by kernel_rfl
}
def cutpSRen : Ren := ⟨fun k => if k = 103 then 47 else if k = 210 then 73 else if k = 206 then 132 else k, fun k => if k = 9 then 9 else if k = 4 then 4 else if k = 24 then 121 else if k = 3 then 3 else k, fun k => k⟩
theorem cutpSLays : Lays.n103 Tryz.prog cutpSRen := {
  mixed := by kernel_rfl
  f103 := by kernel_rfl
  f206 := by kernel_rfl
  f210 := by kernel_rfl
  t3 := by kernel_rfl
  a3 := fun _ => by kernel_rfl
  z3 := fun _ => by kernel_rfl
  v3 := fun _ => by kernel_rfl
  t4 := by kernel_rfl
  a4 := fun _ => by kernel_rfl
  z4 := fun _ => by kernel_rfl
  v4 := fun _ => by kernel_rfl
  t9 := by kernel_rfl
  a9 := fun _ => by kernel_rfl
  z9 := fun _ => by kernel_rfl
  v9 := fun _ => by kernel_rfl
  t24 := by kernel_rfl
  a24 := fun _ => by kernel_rfl
  z24 := fun _ => by kernel_rfl
  v24 := fun _ => by kernel_rfl
}
def inSRen : Ren := ⟨fun k => if k = 110 then 49 else if k = 109 then 75 else k, fun k => if k = 31 then 22 else if k = 9 then 9 else if k = 4 then 4 else if k = 3 then 3 else if k = 0 then 0 else k, fun k => k⟩
theorem inSLays : Lays.n110 Tryz.prog inSRen := {
  mixed := by kernel_rfl
  f109 := by kernel_rfl
  f110 := by kernel_rfl
  t0 := by kernel_rfl
  a0 := fun _ => by kernel_rfl
  z0 := fun _ => by kernel_rfl
  v0 := fun _ => by kernel_rfl
  t3 := by kernel_rfl
  a3 := fun _ => by kernel_rfl
  z3 := fun _ => by kernel_rfl
  v3 := fun _ => by kernel_rfl
  t4 := by kernel_rfl
  a4 := fun _ => by kernel_rfl
  z4 := fun _ => by kernel_rfl
  v4 := fun _ => by kernel_rfl
  t9 := by kernel_rfl
  a9 := fun _ => by kernel_rfl
  z9 := fun _ => by kernel_rfl
  v9 := fun _ => by kernel_rfl
  t31 := by kernel_rfl
  a31 := fun _ => by kernel_rfl
  z31 := fun _ => by kernel_rfl
  v31 := fun _ => by kernel_rfl
}
def atoiSRen : Ren := ⟨fun k => if k = 172 then 179 else if k = 244 then 248 else if k = 245 then 249 else if k = 247 then 318 else if k = 279 then 319 else if k = 280 then 320 else if k = 281 then 321 else if k = 282 then 322 else if k = 287 then 382 else if k = 316 then 383 else if k = 171 then 45 else if k = 205 then 384 else if k = 321 then 408 else if k = 322 then 409 else if k = 243 then 71 else if k = 246 then 127 else if k = 283 then 185 else if k = 284 then 186 else if k = 285 then 187 else if k = 286 then 188 else if k = 129 then 260 else if k = 317 then 262 else if k = 318 then 263 else if k = 319 then 264 else if k = 320 then 265 else if k = 337 then 330 else if k = 338 then 331 else k, fun k => if k = 9 then 9 else if k = 3 then 3 else if k = 75 then 261 else if k = 76 then 262 else if k = 4 then 4 else if k = 5 then 5 else if k = 167 then 465 else if k = 37 then 107 else if k = 0 then 0 else if k = 85 then 466 else if k = 2 then 2 else if k = 168 then 468 else if k = 53 then 71 else if k = 175 then 540 else if k = 46 then 179 else if k = 210 then 543 else if k = 127 then 551 else if k = 145 then 570 else if k = 143 then 568 else if k = 21 then 21 else if k = 171 then 269 else if k = 173 then 272 else if k = 212 then 398 else if k = 51 then 133 else if k = 20 then 20 else if k = 213 then 399 else if k = 232 then 549 else if k = 233 then 550 else if k = 80 then 29 else k, fun k => if k = 15 then 6 else if k = 16 then 7 else if k = 17 then 3 else if k = 18 then 8 else if k = 19 then 9 else k⟩
theorem atoiSLays : LaysC.n172 Tryz.prog atoiSRen := {
  mixed := by kernel_rfl
  f129 := by kernel_rfl
  f171 := by kernel_rfl
  f172 := by kernel_rfl
  f205 := by kernel_rfl
  f243 := by kernel_rfl
  f244 := by kernel_rfl
  f245 := by kernel_rfl
  f246 := by kernel_rfl
  f247 := by kernel_rfl
  f279 := by kernel_rfl
  f280 := by kernel_rfl
  f281 := by kernel_rfl
  f282 := by kernel_rfl
  f283 := by kernel_rfl
  f284 := by kernel_rfl
  f285 := by kernel_rfl
  f286 := by kernel_rfl
  f287 := by kernel_rfl
  f316 := by kernel_rfl
  f317 := by kernel_rfl
  f318 := by kernel_rfl
  f319 := by kernel_rfl
  f320 := by kernel_rfl
  f321 := by kernel_rfl
  f322 := by kernel_rfl
  f337 := by kernel_rfl
  f338 := by kernel_rfl
  t0 := by kernel_rfl
  a0 := fun _ => by kernel_rfl
  z0 := fun _ => by kernel_rfl
  v0 := fun _ => by kernel_rfl
  t2 := by kernel_rfl
  a2 := fun _ => by kernel_rfl
  z2 := fun _ => by kernel_rfl
  v2 := fun _ => by kernel_rfl
  t3 := by kernel_rfl
  a3 := fun _ => by kernel_rfl
  z3 := fun _ => by kernel_rfl
  v3 := fun _ => by kernel_rfl
  t4 := by kernel_rfl
  a4 := fun _ => by kernel_rfl
  z4 := fun _ => by kernel_rfl
  v4 := fun _ => by kernel_rfl
  t5 := by kernel_rfl
  a5 := fun _ => by kernel_rfl
  z5 := fun _ => by kernel_rfl
  v5 := fun _ => by kernel_rfl
  t9 := by kernel_rfl
  a9 := fun _ => by kernel_rfl
  z9 := fun _ => by kernel_rfl
  v9 := fun _ => by kernel_rfl
  t20 := by kernel_rfl
  a20 := fun _ => by kernel_rfl
  z20 := fun _ => by kernel_rfl
  v20 := fun _ => by kernel_rfl
  t21 := by kernel_rfl
  a21 := fun _ => by kernel_rfl
  z21 := fun _ => by kernel_rfl
  v21 := fun _ => by kernel_rfl
  t37 := by kernel_rfl
  a37 := fun _ => by kernel_rfl
  z37 := fun _ => by kernel_rfl
  v37 := fun _ => by kernel_rfl
  t46 := by kernel_rfl
  a46 := fun _ => by kernel_rfl
  z46 := fun _ => by kernel_rfl
  v46 := fun _ => by kernel_rfl
  t51 := by kernel_rfl
  a51 := fun _ => by kernel_rfl
  z51 := fun _ => by kernel_rfl
  v51 := fun _ => by kernel_rfl
  t53 := by kernel_rfl
  a53 := fun _ => by kernel_rfl
  z53 := fun _ => by kernel_rfl
  v53 := fun _ => by kernel_rfl
  t75 := by kernel_rfl
  a75 := fun _ => by kernel_rfl
  z75 := fun _ => by kernel_rfl
  v75 := fun _ => by kernel_rfl
  t76 := by kernel_rfl
  a76 := fun _ => by kernel_rfl
  z76 := fun _ => by kernel_rfl
  v76 := fun _ => by kernel_rfl
  t85 := by kernel_rfl
  a85 := fun _ => by kernel_rfl
  z85 := fun _ => by kernel_rfl
  v85 := fun _ => by kernel_rfl
  t127 := by kernel_rfl
  a127 := fun _ => by kernel_rfl
  z127 := fun _ => by kernel_rfl
  v127 := fun _ => by kernel_rfl
  t143 := by kernel_rfl
  a143 := fun _ => by kernel_rfl
  z143 := fun _ => by kernel_rfl
  v143 := fun _ => by kernel_rfl
  t145 := by kernel_rfl
  a145 := fun _ => by kernel_rfl
  z145 := fun _ => by kernel_rfl
  v145 := fun _ => by kernel_rfl
  t167 := by kernel_rfl
  a167 := fun _ => by kernel_rfl
  z167 := fun _ => by kernel_rfl
  v167 := fun _ => by kernel_rfl
  t168 := by kernel_rfl
  a168 := fun _ => by kernel_rfl
  z168 := fun _ => by kernel_rfl
  v168 := fun _ => by kernel_rfl
  t171 := by kernel_rfl
  a171 := fun _ => by kernel_rfl
  z171 := fun _ => by kernel_rfl
  v171 := fun _ => by kernel_rfl
  t173 := by kernel_rfl
  a173 := fun _ => by kernel_rfl
  z173 := fun _ => by kernel_rfl
  v173 := fun _ => by kernel_rfl
  t175 := by kernel_rfl
  a175 := fun _ => by kernel_rfl
  z175 := fun _ => by kernel_rfl
  v175 := fun _ => by kernel_rfl
  t210 := by kernel_rfl
  a210 := fun _ => by kernel_rfl
  z210 := fun _ => by kernel_rfl
  v210 := fun _ => by kernel_rfl
  t212 := by kernel_rfl
  a212 := fun _ => by kernel_rfl
  z212 := fun _ => by kernel_rfl
  v212 := fun _ => by kernel_rfl
  t213 := by kernel_rfl
  a213 := fun _ => by kernel_rfl
  z213 := fun _ => by kernel_rfl
  t232 := by kernel_rfl
  a232 := fun _ => by kernel_rfl
  z232 := fun _ => by kernel_rfl
  v232 := fun _ => by kernel_rfl
  t233 := by kernel_rfl
  a233 := fun _ => by kernel_rfl
  z233 := fun _ => by kernel_rfl
  v233 := fun _ => by kernel_rfl
  g15 := by kernel_rfl
  g16 := by kernel_rfl
  g17 := by kernel_rfl
  g18 := by kernel_rfl
  g19 := by kernel_rfl
  t80 := by kernel_rfl
  a80 := fun _ => by kernel_rfl
  z80 := fun _ => by kernel_rfl
  v80 := fun _ => by kernel_rfl
  i0 := by kernel_rfl
  i2 := by kernel_rfl
  i3 := by kernel_rfl
  i4 := by kernel_rfl
  i5 := by kernel_rfl
  i9 := by kernel_rfl
  i20 := by kernel_rfl
  i21 := by kernel_rfl
  i37 := by kernel_rfl
  i46 := by kernel_rfl
  i51 := by kernel_rfl
  i53 := by kernel_rfl
  i75 := by kernel_rfl
  i76 := by kernel_rfl
  i80 := by kernel_rfl
  i85 := by kernel_rfl
  i127 := by kernel_rfl
  i143 := by kernel_rfl
  i145 := by kernel_rfl
  i167 := by kernel_rfl
  i168 := by kernel_rfl
  i171 := by kernel_rfl
  i173 := by kernel_rfl
  i175 := by kernel_rfl
  i210 := by kernel_rfl
  i212 := by kernel_rfl
  i232 := by kernel_rfl
  i233 := by kernel_rfl
  m15 := by kernel_rfl
  m16 := by kernel_rfl
  m17 := by kernel_rfl
  m18 := by kernel_rfl
  m19 := by kernel_rfl
  c0 := by kernel_rfl
  c2 := by kernel_rfl
  c3 := by kernel_rfl
  c4 := by kernel_rfl
  c5 := by kernel_rfl
  c9 := by kernel_rfl
  c20 := by kernel_rfl
  c21 := by kernel_rfl
  c37 := by kernel_rfl
  c46 := by kernel_rfl
  c51 := by kernel_rfl
  c53 := by kernel_rfl
  c75 := by kernel_rfl
  c76 := by kernel_rfl
  c80 := by kernel_rfl
  c85 := by kernel_rfl
  c127 := by kernel_rfl
  c143 := by kernel_rfl
  c145 := by kernel_rfl
  c167 := by kernel_rfl
  c168 := by kernel_rfl
  c171 := by kernel_rfl
  c173 := by kernel_rfl
  c175 := by kernel_rfl
  c210 := by kernel_rfl
  c212 := by kernel_rfl
  c213 := by kernel_rfl
  c232 := by kernel_rfl
  c233 := by kernel_rfl
}
def fmtSRen : Ren := ⟨fun k => if k = 173 then 118 else if k = 246 then 127 else if k = 283 then 185 else if k = 284 then 186 else if k = 285 then 187 else if k = 286 then 188 else if k = 129 then 260 else if k = 317 then 262 else if k = 318 then 263 else if k = 319 then 264 else if k = 320 then 265 else if k = 337 then 330 else if k = 338 then 331 else k, fun k => if k = 2 then 2 else if k = 3 then 3 else if k = 9 then 9 else if k = 4 then 4 else if k = 171 then 269 else if k = 0 then 0 else if k = 53 then 71 else if k = 37 then 107 else if k = 5 then 5 else if k = 173 then 272 else if k = 212 then 398 else if k = 51 then 133 else if k = 20 then 20 else if k = 213 then 399 else if k = 46 then 179 else if k = 232 then 549 else if k = 233 then 550 else k, fun k => if k = 17 then 3 else if k = 18 then 8 else if k = 19 then 9 else k⟩
theorem fmtSLays : LaysM.n173 Tryz.prog fmtSRen := {
  mixed := by kernel_rfl
  f129 := by kernel_rfl
  f173 := by kernel_rfl
  f246 := by kernel_rfl
  f283 := by kernel_rfl
  f284 := by kernel_rfl
  f285 := by kernel_rfl
  f286 := by kernel_rfl
  f317 := by kernel_rfl
  f318 := by kernel_rfl
  f319 := by kernel_rfl
  f320 := by kernel_rfl
  f337 := by kernel_rfl
  f338 := by kernel_rfl
  t0 := by kernel_rfl
  a0 := fun _ => by kernel_rfl
  z0 := fun _ => by kernel_rfl
  v0 := fun _ => by kernel_rfl
  t2 := by kernel_rfl
  a2 := fun _ => by kernel_rfl
  z2 := fun _ => by kernel_rfl
  v2 := fun _ => by kernel_rfl
  t3 := by kernel_rfl
  a3 := fun _ => by kernel_rfl
  z3 := fun _ => by kernel_rfl
  v3 := fun _ => by kernel_rfl
  t4 := by kernel_rfl
  a4 := fun _ => by kernel_rfl
  z4 := fun _ => by kernel_rfl
  v4 := fun _ => by kernel_rfl
  t5 := by kernel_rfl
  a5 := fun _ => by kernel_rfl
  z5 := fun _ => by kernel_rfl
  v5 := fun _ => by kernel_rfl
  t9 := by kernel_rfl
  a9 := fun _ => by kernel_rfl
  z9 := fun _ => by kernel_rfl
  v9 := fun _ => by kernel_rfl
  t20 := by kernel_rfl
  a20 := fun _ => by kernel_rfl
  z20 := fun _ => by kernel_rfl
  v20 := fun _ => by kernel_rfl
  t37 := by kernel_rfl
  a37 := fun _ => by kernel_rfl
  z37 := fun _ => by kernel_rfl
  v37 := fun _ => by kernel_rfl
  t46 := by kernel_rfl
  a46 := fun _ => by kernel_rfl
  z46 := fun _ => by kernel_rfl
  v46 := fun _ => by kernel_rfl
  t51 := by kernel_rfl
  a51 := fun _ => by kernel_rfl
  z51 := fun _ => by kernel_rfl
  v51 := fun _ => by kernel_rfl
  t53 := by kernel_rfl
  a53 := fun _ => by kernel_rfl
  z53 := fun _ => by kernel_rfl
  v53 := fun _ => by kernel_rfl
  t171 := by kernel_rfl
  a171 := fun _ => by kernel_rfl
  z171 := fun _ => by kernel_rfl
  v171 := fun _ => by kernel_rfl
  t173 := by kernel_rfl
  a173 := fun _ => by kernel_rfl
  z173 := fun _ => by kernel_rfl
  v173 := fun _ => by kernel_rfl
  t212 := by kernel_rfl
  a212 := fun _ => by kernel_rfl
  z212 := fun _ => by kernel_rfl
  v212 := fun _ => by kernel_rfl
  t213 := by kernel_rfl
  a213 := fun _ => by kernel_rfl
  z213 := fun _ => by kernel_rfl
  t232 := by kernel_rfl
  a232 := fun _ => by kernel_rfl
  z232 := fun _ => by kernel_rfl
  v232 := fun _ => by kernel_rfl
  t233 := by kernel_rfl
  a233 := fun _ => by kernel_rfl
  z233 := fun _ => by kernel_rfl
  v233 := fun _ => by kernel_rfl
  g17 := by kernel_rfl
  g18 := by kernel_rfl
  g19 := by kernel_rfl
  i0 := by kernel_rfl
  i2 := by kernel_rfl
  i3 := by kernel_rfl
  i4 := by kernel_rfl
  i5 := by kernel_rfl
  i9 := by kernel_rfl
  i20 := by kernel_rfl
  i37 := by kernel_rfl
  i46 := by kernel_rfl
  i51 := by kernel_rfl
  i53 := by kernel_rfl
  i171 := by kernel_rfl
  i173 := by kernel_rfl
  i212 := by kernel_rfl
  i232 := by kernel_rfl
  i233 := by kernel_rfl
  m17 := by kernel_rfl
  m18 := by kernel_rfl
  m19 := by kernel_rfl
}
def itoaSRen : Ren := ⟨fun k => if k = 171 then 45 else if k = 243 then 71 else if k = 246 then 127 else if k = 283 then 185 else if k = 284 then 186 else if k = 285 then 187 else if k = 286 then 188 else if k = 129 then 260 else if k = 317 then 262 else if k = 318 then 263 else if k = 319 then 264 else if k = 320 then 265 else if k = 337 then 330 else if k = 338 then 331 else k, fun k => if k = 3 then 3 else if k = 9 then 9 else if k = 2 then 2 else if k = 4 then 4 else if k = 171 then 269 else if k = 0 then 0 else if k = 53 then 71 else if k = 37 then 107 else if k = 5 then 5 else if k = 173 then 272 else if k = 212 then 398 else if k = 51 then 133 else if k = 20 then 20 else if k = 213 then 399 else if k = 46 then 179 else if k = 232 then 549 else if k = 233 then 550 else k, fun k => if k = 17 then 3 else if k = 18 then 8 else if k = 19 then 9 else k⟩
theorem itoaSLays : LaysM.n171 Tryz.prog itoaSRen := {
  mixed := by kernel_rfl
  f129 := by kernel_rfl
  f171 := by kernel_rfl
  f243 := by kernel_rfl
  f246 := by kernel_rfl
  f283 := by kernel_rfl
  f284 := by kernel_rfl
  f285 := by kernel_rfl
  f286 := by kernel_rfl
  f317 := by kernel_rfl
  f318 := by kernel_rfl
  f319 := by kernel_rfl
  f320 := by kernel_rfl
  f337 := by kernel_rfl
  f338 := by kernel_rfl
  t0 := by kernel_rfl
  a0 := fun _ => by kernel_rfl
  z0 := fun _ => by kernel_rfl
  v0 := fun _ => by kernel_rfl
  t2 := by kernel_rfl
  a2 := fun _ => by kernel_rfl
  z2 := fun _ => by kernel_rfl
  v2 := fun _ => by kernel_rfl
  t3 := by kernel_rfl
  a3 := fun _ => by kernel_rfl
  z3 := fun _ => by kernel_rfl
  v3 := fun _ => by kernel_rfl
  t4 := by kernel_rfl
  a4 := fun _ => by kernel_rfl
  z4 := fun _ => by kernel_rfl
  v4 := fun _ => by kernel_rfl
  t5 := by kernel_rfl
  a5 := fun _ => by kernel_rfl
  z5 := fun _ => by kernel_rfl
  v5 := fun _ => by kernel_rfl
  t9 := by kernel_rfl
  a9 := fun _ => by kernel_rfl
  z9 := fun _ => by kernel_rfl
  v9 := fun _ => by kernel_rfl
  t20 := by kernel_rfl
  a20 := fun _ => by kernel_rfl
  z20 := fun _ => by kernel_rfl
  v20 := fun _ => by kernel_rfl
  t37 := by kernel_rfl
  a37 := fun _ => by kernel_rfl
  z37 := fun _ => by kernel_rfl
  v37 := fun _ => by kernel_rfl
  t46 := by kernel_rfl
  a46 := fun _ => by kernel_rfl
  z46 := fun _ => by kernel_rfl
  v46 := fun _ => by kernel_rfl
  t51 := by kernel_rfl
  a51 := fun _ => by kernel_rfl
  z51 := fun _ => by kernel_rfl
  v51 := fun _ => by kernel_rfl
  t53 := by kernel_rfl
  a53 := fun _ => by kernel_rfl
  z53 := fun _ => by kernel_rfl
  v53 := fun _ => by kernel_rfl
  t171 := by kernel_rfl
  a171 := fun _ => by kernel_rfl
  z171 := fun _ => by kernel_rfl
  v171 := fun _ => by kernel_rfl
  t173 := by kernel_rfl
  a173 := fun _ => by kernel_rfl
  z173 := fun _ => by kernel_rfl
  v173 := fun _ => by kernel_rfl
  t212 := by kernel_rfl
  a212 := fun _ => by kernel_rfl
  z212 := fun _ => by kernel_rfl
  v212 := fun _ => by kernel_rfl
  t213 := by kernel_rfl
  a213 := fun _ => by kernel_rfl
  z213 := fun _ => by kernel_rfl
  t232 := by kernel_rfl
  a232 := fun _ => by kernel_rfl
  z232 := fun _ => by kernel_rfl
  v232 := fun _ => by kernel_rfl
  t233 := by kernel_rfl
  a233 := fun _ => by kernel_rfl
  z233 := fun _ => by kernel_rfl
  v233 := fun _ => by kernel_rfl
  g17 := by kernel_rfl
  g18 := by kernel_rfl
  g19 := by kernel_rfl
  i0 := by kernel_rfl
  i2 := by kernel_rfl
  i3 := by kernel_rfl
  i4 := by kernel_rfl
  i5 := by kernel_rfl
  i9 := by kernel_rfl
  i20 := by kernel_rfl
  i37 := by kernel_rfl
  i46 := by kernel_rfl
  i51 := by kernel_rfl
  i53 := by kernel_rfl
  i171 := by kernel_rfl
  i173 := by kernel_rfl
  i212 := by kernel_rfl
  i232 := by kernel_rfl
  i233 := by kernel_rfl
  m17 := by kernel_rfl
  m18 := by kernel_rfl
  m19 := by kernel_rfl
}
def sortFRen : Ren := ⟨fun k => if k = 6 then 119 else if k = 15 then 183 else if k = 14 then 182 else if k = 28 then 259 else if k = 29 then 260 else if k = 20 then 251 else if k = 21 then 252 else if k = 22 then 253 else if k = 23 then 254 else if k = 24 then 255 else if k = 25 then 256 else if k = 26 then 257 else if k = 27 then 258 else if k = 46 then 325 else if k = 47 then 326 else if k = 48 then 327 else if k = 49 then 328 else if k = 50 then 329 else if k = 57 then 385 else k, fun k => if k = 22 then 36 else if k = 24 then 39 else if k = 25 then 176 else if k = 3 then 3 else if k = 39 then 179 else if k = 0 then 0 else if k = 53 then 133 else if k = 55 then 71 else if k = 4 then 4 else if k = 46 then 391 else if k = 45 then 390 else if k = 50 then 171 else if k = 5 then 5 else if k = 9 then 9 else if k = 66 then 482 else if k = 70 then 486 else if k = 76 then 547 else if k = 77 then 315 else k, fun k => k⟩
theorem sortFLays : SlLaysF0.n6 Tryz.prog sortFRen := {
  mixed := by kernel_rfl
  f6 := bears_of Tryz.func119 (by kernel_rfl) (by kernel_rfl)
  f14 := bears_of Tryz.func182 (by kernel_rfl) (by kernel_rfl)
  f15 := by kernel_rfl
  f20 := bears_of Tryz.func251 (by kernel_rfl) (by kernel_rfl)
  f21 := bears_of Tryz.func252 (by kernel_rfl) (by kernel_rfl)
  f22 := bears_of Tryz.func253 (by kernel_rfl) (by kernel_rfl)
  f23 := bears_of Tryz.func254 (by kernel_rfl) (by kernel_rfl)
  f24 := bears_of Tryz.func255 (by kernel_rfl) (by kernel_rfl)
  f25 := bears_of Tryz.func256 (by kernel_rfl) (by kernel_rfl)
  f26 := bears_of Tryz.func257 (by kernel_rfl) (by kernel_rfl)
  f27 := bears_of Tryz.func258 (by kernel_rfl) (by kernel_rfl)
  f28 := by kernel_rfl
  f29 := by kernel_rfl
  f46 := bears_of Tryz.func325 (by kernel_rfl) (by kernel_rfl)
  f47 := by kernel_rfl
  f48 := by kernel_rfl
  f49 := bears_of Tryz.func328 (by kernel_rfl) (by kernel_rfl)
  f50 := bears_of Tryz.func329 (by kernel_rfl) (by kernel_rfl)
  f57 := bears_of Tryz.func385 (by kernel_rfl) (by kernel_rfl)
  t0 := by kernel_rfl
  a0 := fun _ => by kernel_rfl
  z0 := fun _ => by kernel_rfl
  v0 := fun _ => by kernel_rfl
  t3 := by kernel_rfl
  a3 := fun _ => by kernel_rfl
  z3 := fun _ => by kernel_rfl
  v3 := fun _ => by kernel_rfl
  t4 := by kernel_rfl
  a4 := fun _ => by kernel_rfl
  z4 := fun _ => by kernel_rfl
  v4 := fun _ => by kernel_rfl
  t5 := by kernel_rfl
  a5 := fun _ => by kernel_rfl
  z5 := fun _ => by kernel_rfl
  v5 := fun _ => by kernel_rfl
  t9 := by kernel_rfl
  a9 := fun _ => by kernel_rfl
  z9 := fun _ => by kernel_rfl
  v9 := fun _ => by kernel_rfl
  t22 := by kernel_rfl
  a22 := fun _ => by kernel_rfl
  z22 := fun _ => by kernel_rfl
  v22 := fun _ => by kernel_rfl
  t25 := by kernel_rfl
  a25 := fun _ => by kernel_rfl
  z25 := fun _ => by kernel_rfl
  v25 := fun _ => by kernel_rfl
  t39 := by kernel_rfl
  a39 := fun _ => by kernel_rfl
  z39 := fun _ => by kernel_rfl
  v39 := fun _ => by kernel_rfl
  t45 := by kernel_rfl
  a45 := fun _ => by kernel_rfl
  z45 := fun _ => by kernel_rfl
  v45 := fun _ => by kernel_rfl
  t46 := by kernel_rfl
  a46 := fun _ => by kernel_rfl
  z46 := fun _ => by kernel_rfl
  v46 := fun _ => by kernel_rfl
  t50 := by kernel_rfl
  a50 := fun _ => by kernel_rfl
  z50 := fun _ => by kernel_rfl
  v50 := fun _ => by kernel_rfl
  t53 := by kernel_rfl
  a53 := fun _ => by kernel_rfl
  z53 := fun _ => by kernel_rfl
  v53 := fun _ => by kernel_rfl
  t55 := by kernel_rfl
  a55 := fun _ => by kernel_rfl
  z55 := fun _ => by kernel_rfl
  v55 := fun _ => by kernel_rfl
  t66 := by kernel_rfl
  a66 := fun _ => by kernel_rfl
  z66 := fun _ => by kernel_rfl
  v66 := fun _ => by kernel_rfl
  t70 := by kernel_rfl
  a70 := fun _ => by kernel_rfl
  z70 := fun _ => by kernel_rfl
  v70 := fun _ => by kernel_rfl
  t76 := by kernel_rfl
  a76 := fun _ => by kernel_rfl
  z76 := fun _ => by kernel_rfl
  v76 := fun _ => by kernel_rfl
  t77 := by kernel_rfl
  a77 := fun _ => by kernel_rfl
  z77 := fun _ => by kernel_rfl
  v77 := fun _ => by kernel_rfl
}
end
end Go.Proofs.YtndcijkgaadpgaaGreatDoor

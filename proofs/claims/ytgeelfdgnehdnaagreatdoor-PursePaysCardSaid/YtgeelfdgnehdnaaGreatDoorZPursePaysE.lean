/-
  What the proof of PursePays stands on, part 5. No condition.
-/
import Derived.Test.YtgeelfdgnehdnaaGreatDoorZPursePaysD
set_option linter.unusedSimpArgs false
set_option linter.unusedVariables false
noncomputable section
namespace Go.Proofs.YtgeelfdgnehdnaaGreatDoor
section
open Go.RowKit
section
set_option maxRecDepth 100000
theorem tkO {P : Program} {t : TypeId} {i : TyI} (d : i.d.Is P t) (s : (P.info? t).map (·.size) = some i.size := by kernel_rfl) (b : (P.info? t).map (·.bytes) = some i.bytes := by kernel_rfl) (z : ∀ ρ, (P.info? t).bind (·.zero) = some (conc ρ i.zero) := by intro ρ; kernel_rfl) (y : bare i.zero = true := by kernel_rfl) (v : i.zero.isAgg = i.agg := by kernel_rfl) (x : i.zero.size = i.size := by kernel_rfl) (g : i.agg = false := by kernel_rfl) (l : i.zero.leaf = true := by kernel_rfl) : TyOK P t i := ⟨s, b, z, zin_of y, d, fun h => (by rw [g] at h; cases h), v, fun _ => l, x⟩
theorem tkU {P : Program} {t : TypeId} {i : TyI} (d : i.d.Is P t := by show Program.underlying _ _ = _; kernel_rfl) (s : (P.info? t).map (·.size) = some i.size := by kernel_rfl) (b : (P.info? t).map (·.bytes) = some i.bytes := by kernel_rfl) (z : ∀ ρ, (P.info? t).bind (·.zero) = some (conc ρ i.zero) := by intro ρ; kernel_rfl) (y : bare i.zero = true := by kernel_rfl) (v : i.zero.isAgg = i.agg := by kernel_rfl) (x : i.zero.size = i.size := by kernel_rfl) (g : i.agg = false := by kernel_rfl) (l : i.zero.leaf = true := by kernel_rfl) : TyOK P t i := ⟨s, b, z, zin_of y, d, fun h => (by rw [g] at h; cases h), v, fun _ => l, x⟩
theorem tkR {P : Program} {t : TypeId} {i : TyI} (d : i.d.Is P t := by exact ⟨by kernel_rfl, by kernel_rfl⟩) (s : (P.info? t).map (·.size) = some i.size := by kernel_rfl) (b : (P.info? t).map (·.bytes) = some i.bytes := by kernel_rfl) (z : ∀ ρ, (P.info? t).bind (·.zero) = some (conc ρ i.zero) := by intro ρ; kernel_rfl) (y : bare i.zero = true := by kernel_rfl) (v : i.zero.isAgg = i.agg := by kernel_rfl) (x : i.zero.size = i.size := by kernel_rfl) (e : P.eqGuardType P.depth t = false := by kernel_rfl) (g : i.agg = true := by kernel_rfl) : TyOK P t i := ⟨s, b, z, zin_of y, d, fun _ => e, v, fun h => (by rw [g] at h; cases h), x⟩
theorem tkS {P : Program} {t : TypeId} {i : TyI} (d : i.d.Is P t := by exact ⟨by kernel_rfl, by kernel_rfl, by kernel_rfl, by kernel_rfl, by kernel_rfl⟩) (s : (P.info? t).map (·.size) = some i.size := by kernel_rfl) (b : (P.info? t).map (·.bytes) = some i.bytes := by kernel_rfl) (z : ∀ ρ, (P.info? t).bind (·.zero) = some (conc ρ i.zero) := by intro ρ; kernel_rfl) (y : bare i.zero = true := by kernel_rfl) (v : i.zero.isAgg = i.agg := by kernel_rfl) (x : i.zero.size = i.size := by kernel_rfl) (e : P.eqGuardType P.depth t = false := by kernel_rfl) (g : i.agg = true := by kernel_rfl) : TyOK P t i := ⟨s, b, z, zin_of y, d, fun _ => e, v, fun h => (by rw [g] at h; cases h), x⟩
theorem fkz {P : Program} {f : FuncId} {n : Func} (h : P.funcs[f]? = some n) (a : (n.name == "runtime.NumGoroutine") = false := by kernel_rfl) (b : n.body.isSome = true := by kernel_rfl) (k : (match n.body with | some c => yWq n.ntmps c | none => true) = true := by kernel_rfl) : FnOK P f n := by
 obtain ⟨c, e⟩ := Option.isSome_iff_exists.1 b
 exact ⟨h, Go.Proofs.enters_of h a e, k⟩
theorem tok1 : TyOK Tryz.prog 1 ti1 := tkO (yjq (by kernel_rfl))
theorem tok2 : TyOK Tryz.prog 2 ti2 := tkU
theorem tok3 : TyOK Tryz.prog 3 ti3 := tkU
theorem tok4 : TyOK Tryz.prog 4 ti4 := tkU
theorem tok5 : TyOK Tryz.prog 5 ti5 := tkU
theorem tok6 : TyOK Tryz.prog 6 ti6 := tkU
theorem tok7 : TyOK Tryz.prog 7 ti7 := tkS
theorem tok8 : TyOK Tryz.prog 8 ti8 := tkS
theorem tok9 : TyOK Tryz.prog 9 ti9 := tkU
theorem tok10 : TyOK Tryz.prog 10 ti10 := tkU
theorem tok11 : TyOK Tryz.prog 11 ti11 := tkU
theorem tok12 : TyOK Tryz.prog 12 ti12 := tkU
theorem tok15 : TyOK Tryz.prog 15 ti15 := tkU
theorem tok16 : TyOK Tryz.prog 16 ti16 := tkU
theorem tok17 : TyOK Tryz.prog 17 ti17 := tkU
theorem tok20 : TyOK Tryz.prog 20 ti20 := tkO (iface_of (by kernel_rfl))
theorem tok21 : TyOK Tryz.prog 21 ti21 := tkU
theorem tok22 : TyOK Tryz.prog 22 ti22 := tkR
theorem tok23 : TyOK Tryz.prog 23 ti23 := tkR
theorem tok24 : TyOK Tryz.prog 24 ti24 := tkS
theorem tok25 : TyOK Tryz.prog 25 ti25 := tkS
theorem tok26 : TyOK Tryz.prog 26 ti26 := tkU
theorem tok27 : TyOK Tryz.prog 27 ti27 := tkO (yjq (by kernel_rfl))
theorem tok28 : TyOK Tryz.prog 28 ti28 := tkU
theorem tok29 : TyOK Tryz.prog 29 ti29 := tkS
theorem tok30 : TyOK Tryz.prog 30 ti30 := tkS
theorem tok31 : TyOK Tryz.prog 31 ti31 := tkU
theorem tok32 : TyOK Tryz.prog 32 ti32 := tkS
theorem tok33 : TyOK Tryz.prog 33 ti33 := tkS
theorem tok34 : TyOK Tryz.prog 34 ti34 := tkS
theorem tok35 : TyOK Tryz.prog 35 ti35 := tkS
theorem tok36 : TyOK Tryz.prog 36 ti36 := tkU
theorem tok37 : TyOK Tryz.prog 37 ti37 := tkU
theorem tok38 : TyOK Tryz.prog 38 ti38 := tkU
theorem tok39 : TyOK Tryz.prog 39 ti39 := tkU
theorem tok40 : TyOK Tryz.prog 40 ti40 := tkU
theorem tok41 : TyOK Tryz.prog 41 ti41 := tkU
theorem tok42 : TyOK Tryz.prog 42 ti42 := tkS
theorem tok43 : TyOK Tryz.prog 43 ti43 := tkS
theorem tok44 : TyOK Tryz.prog 44 ti44 := tkS
theorem tok45 : TyOK Tryz.prog 45 ti45 := tkS
theorem tok46 : TyOK Tryz.prog 46 ti46 := tkU
theorem tok48 : TyOK Tryz.prog 48 ti48 := tkO (yjq (by kernel_rfl))
theorem tok50 : TyOK Tryz.prog 50 ti50 := tkO (yjq (by kernel_rfl))
theorem tok51 : TyOK Tryz.prog 51 ti51 := tkO (yjq (by kernel_rfl))
theorem tok52 : TyOK Tryz.prog 52 ti52 := tkO (yjq (by kernel_rfl))
theorem tok53 : TyOK Tryz.prog 53 ti53 := tkO (yjq (by kernel_rfl))
theorem tok54 : TyOK Tryz.prog 54 ti54 := tkO (yjq (by kernel_rfl))
theorem tok55 : TyOK Tryz.prog 55 ti55 := tkO (yjq (by kernel_rfl))
theorem tok56 : TyOK Tryz.prog 56 ti56 := tkS
theorem tok57 : TyOK Tryz.prog 57 ti57 := tkS
theorem tok58 : TyOK Tryz.prog 58 ti58 := tkO (yjq (by kernel_rfl))
theorem tok59 : TyOK Tryz.prog 59 ti59 := tkO (yjq (by kernel_rfl))
theorem tok61 : TyOK Tryz.prog 61 ti61 := tkO (yjq (by kernel_rfl))
theorem tok63 : TyOK Tryz.prog 63 ti63 := tkO (yjq (by kernel_rfl))
theorem tok73 : TyOK Tryz.prog 73 ti73 := tkS
theorem tok75 : TyOK Tryz.prog 75 ti75 := tkS
theorem tok88 : TyOK Tryz.prog 88 ti88 := tkU
theorem tok90 : TyOK Tryz.prog 90 ti90 := tkS
theorem tok106 : TyOK Tryz.prog 106 ti106 := tkS
theorem tok110 : TyOK Tryz.prog 110 ti110 := tkS
theorem tok115 : TyOK Tryz.prog 115 ti115 := tkU
theorem tok117 : TyOK Tryz.prog 117 ti117 := tkS
theorem tok121 : TyOK Tryz.prog 121 ti121 := tkO (yjq (by kernel_rfl))
theorem tok123 : TyOK Tryz.prog 123 ti123 := tkS
theorem tok125 : TyOK Tryz.prog 125 ti125 := tkU
theorem tok128 : TyOK Tryz.prog 128 ti128 := tkO (yjq (by kernel_rfl))
theorem tok133 : TyOK Tryz.prog 133 ti133 := tkU
theorem tok145 : TyOK Tryz.prog 145 ti145 := tkS
theorem tok146 : TyOK Tryz.prog 146 ti146 := tkU
theorem tok148 : TyOK Tryz.prog 148 ti148 := tkS
theorem tok150 : TyOK Tryz.prog 150 ti150 := tkS
theorem tok151 : TyOK Tryz.prog 151 ti151 := tkS
theorem tok186 : TyOK Tryz.prog 186 ti186 := tkS
theorem tok196 : TyOK Tryz.prog 196 ti196 := tkS
theorem tok197 : TyOK Tryz.prog 197 ti197 := tkU
theorem tok199 : TyOK Tryz.prog 199 ti199 := tkS
theorem tok207 : TyOK Tryz.prog 207 ti207 := tkU
theorem tok209 : TyOK Tryz.prog 209 ti209 := tkS
theorem tok212 : TyOK Tryz.prog 212 ti212 := tkS
theorem tok213 : TyOK Tryz.prog 213 ti213 := tkU
theorem tok215 : TyOK Tryz.prog 215 ti215 := tkS
theorem tok216 : TyOK Tryz.prog 216 ti216 := tkS
theorem tok217 : TyOK Tryz.prog 217 ti217 := tkS
theorem tok242 : TyOK Tryz.prog 242 ti242 := tkO (yjq (by kernel_rfl))
theorem tok257 : TyOK Tryz.prog 257 ti257 := tkO (yjq (by kernel_rfl))
theorem tok260 : TyOK Tryz.prog 260 ti260 := tkU
theorem tok261 : TyOK Tryz.prog 261 ti261 := tkS
theorem tok263 : TyOK Tryz.prog 263 ti263 := tkO (yjq (by kernel_rfl))
theorem tok264 : TyOK Tryz.prog 264 ti264 := tkO (yjq (by kernel_rfl))
theorem tok306 : TyOK Tryz.prog 306 ti306 := tkO (yjq (by kernel_rfl))
theorem tok307 : TyOK Tryz.prog 307 ti307 := tkO (yjq (by kernel_rfl))
theorem tok311 : TyOK Tryz.prog 311 ti311 := tkR
theorem tok316 : TyOK Tryz.prog 316 ti316 := tkO (yjq (by kernel_rfl))
theorem tok324 : TyOK Tryz.prog 324 ti324 := tkU
theorem tok326 : TyOK Tryz.prog 326 ti326 := tkO (yjq (by kernel_rfl))
theorem tok328 : TyOK Tryz.prog 328 ti328 := tkU
theorem tok331 : TyOK Tryz.prog 331 ti331 := tkO (yjq (by kernel_rfl))
theorem tok341 : TyOK Tryz.prog 341 ti341 := tkO (yjq (by kernel_rfl))
theorem tok343 : TyOK Tryz.prog 343 ti343 := tkR
theorem tok347 : TyOK Tryz.prog 347 ti347 := tkO (yjq (by kernel_rfl))
theorem tok348 : TyOK Tryz.prog 348 ti348 := tkO (yjq (by kernel_rfl))
theorem tok350 : TyOK Tryz.prog 350 ti350 := tkU
theorem tok351 : TyOK Tryz.prog 351 ti351 := tkR
theorem tok352 : TyOK Tryz.prog 352 ti352 := tkR
theorem tok355 : TyOK Tryz.prog 355 ti355 := tkR
theorem tok361 : TyOK Tryz.prog 361 ti361 := tkO (yjq (by kernel_rfl))
theorem tok362 : TyOK Tryz.prog 362 ti362 := tkU
theorem tok364 : TyOK Tryz.prog 364 ti364 := tkR
theorem tok369 : TyOK Tryz.prog 369 ti369 := tkR
theorem tok373 : TyOK Tryz.prog 373 ti373 := tkU
theorem tok374 : TyOK Tryz.prog 374 ti374 := tkU
theorem tok375 : TyOK Tryz.prog 375 ti375 := tkO (yjq (by kernel_rfl))
theorem tok376 : TyOK Tryz.prog 376 ti376 := tkU
theorem tok377 : TyOK Tryz.prog 377 ti377 := tkU
theorem tok378 : TyOK Tryz.prog 378 ti378 := tkU
theorem fok4 : FnOK Tryz.prog 4 Tryz.f4 := fkz Tryz.func4
theorem fok13 : FnOK Tryz.prog 13 Tryz.f13 := fkz Tryz.func13
theorem fok14 : FnOK Tryz.prog 14 Tryz.f14 := fkz Tryz.func14
theorem fok15 : FnOK Tryz.prog 15 Tryz.f15 := fkz Tryz.func15
theorem fok16 : FnOK Tryz.prog 16 Tryz.f16 := fkz Tryz.func16
theorem fok17 : FnOK Tryz.prog 17 Tryz.f17 := fkz Tryz.func17
theorem fok18 : FnOK Tryz.prog 18 Tryz.f18 := fkz Tryz.func18
theorem fok38 : FnOK Tryz.prog 38 Tryz.f38 := fkz Tryz.func38
theorem fok39 : FnOK Tryz.prog 39 Tryz.f39 := fkz Tryz.func39
theorem fok40 : FnOK Tryz.prog 40 Tryz.f40 := fkz Tryz.func40
theorem fok41 : FnOK Tryz.prog 41 Tryz.f41 := fkz Tryz.func41
theorem fok42 : FnOK Tryz.prog 42 Tryz.f42 := fkz Tryz.func42
theorem fok43 : FnOK Tryz.prog 43 Tryz.f43 := fkz Tryz.func43
theorem fok44 : FnOK Tryz.prog 44 Tryz.f44 := fkz Tryz.func44
theorem fok45 : FnOK Tryz.prog 45 Tryz.f45 := fkz Tryz.func45
theorem fok47 : FnOK Tryz.prog 47 Tryz.f47 := fkz Tryz.func47
theorem fok48 : FnOK Tryz.prog 48 Tryz.f48 := fkz Tryz.func48
theorem fok49 : FnOK Tryz.prog 49 Tryz.f49 := fkz Tryz.func49
theorem fok50 : FnOK Tryz.prog 50 Tryz.f50 := fkz Tryz.func50
theorem fok51 : FnOK Tryz.prog 51 Tryz.f51 := fkz Tryz.func51
theorem fok52 : FnOK Tryz.prog 52 Tryz.f52 := fkz Tryz.func52
theorem fok53 : FnOK Tryz.prog 53 Tryz.f53 := fkz Tryz.func53
theorem fok54 : FnOK Tryz.prog 54 Tryz.f54 := fkz Tryz.func54
theorem fok55 : FnOK Tryz.prog 55 Tryz.f55 := fkz Tryz.func55
theorem fok56 : FnOK Tryz.prog 56 Tryz.f56 := fkz Tryz.func56
theorem fok57 : FnOK Tryz.prog 57 Tryz.f57 := fkz Tryz.func57
theorem fok88 : FnOK Tryz.prog 88 Tryz.f88 := fkz Tryz.func88
theorem fok89 : FnOK Tryz.prog 89 Tryz.f89 := fkz Tryz.func89
theorem fok90 : FnOK Tryz.prog 90 Tryz.f90 := fkz Tryz.func90
theorem fok91 : FnOK Tryz.prog 91 Tryz.f91 := fkz Tryz.func91
theorem fok110 : FnOK Tryz.prog 110 Tryz.f110 := fkz Tryz.func110
theorem fok111 : FnOK Tryz.prog 111 Tryz.f111 := fkz Tryz.func111
theorem fok112 : FnOK Tryz.prog 112 Tryz.f112 := fkz Tryz.func112
theorem fok113 : FnOK Tryz.prog 113 Tryz.f113 := fkz Tryz.func113
theorem fok114 : FnOK Tryz.prog 114 Tryz.f114 := fkz Tryz.func114
theorem fok115 : FnOK Tryz.prog 115 Tryz.f115 := fkz Tryz.func115
theorem fok116 : FnOK Tryz.prog 116 Tryz.f116 := fkz Tryz.func116
theorem fok117 : FnOK Tryz.prog 117 Tryz.f117 := fkz Tryz.func117
theorem fok118 : FnOK Tryz.prog 118 Tryz.f118 := fkz Tryz.func118
theorem fok119 : FnOK Tryz.prog 119 Tryz.f119 := fkz Tryz.func119
theorem fok120 : FnOK Tryz.prog 120 Tryz.f120 := fkz Tryz.func120
theorem fok121 : FnOK Tryz.prog 121 Tryz.f121 := fkz Tryz.func121
theorem fok122 : FnOK Tryz.prog 122 Tryz.f122 := fkz Tryz.func122
theorem fok123 : FnOK Tryz.prog 123 Tryz.f123 := fkz Tryz.func123
theorem fok124 : FnOK Tryz.prog 124 Tryz.f124 := fkz Tryz.func124
theorem fok125 : FnOK Tryz.prog 125 Tryz.f125 := fkz Tryz.func125
theorem fok154 : FnOK Tryz.prog 154 Tryz.f154 := fkz Tryz.func154
theorem fok155 : FnOK Tryz.prog 155 Tryz.f155 := fkz Tryz.func155
theorem fok156 : FnOK Tryz.prog 156 Tryz.f156 := fkz Tryz.func156
theorem fok157 : FnOK Tryz.prog 157 Tryz.f157 := fkz Tryz.func157
theorem fok158 : FnOK Tryz.prog 158 Tryz.f158 := fkz Tryz.func158
theorem fok159 : FnOK Tryz.prog 159 Tryz.f159 := fkz Tryz.func159
theorem fok161 : FnOK Tryz.prog 161 Tryz.f161 := fkz Tryz.func161
theorem fok170 : FnOK Tryz.prog 170 Tryz.f170 := fkz Tryz.func170
theorem fok176 : FnOK Tryz.prog 176 Tryz.f176 := fkz Tryz.func176
theorem fok177 : FnOK Tryz.prog 177 Tryz.f177 := fkz Tryz.func177
theorem fok178 : FnOK Tryz.prog 178 Tryz.f178 := fkz Tryz.func178
theorem fok179 : FnOK Tryz.prog 179 Tryz.f179 := fkz Tryz.func179
theorem fok180 : FnOK Tryz.prog 180 Tryz.f180 := fkz Tryz.func180
theorem fok181 : FnOK Tryz.prog 181 Tryz.f181 := fkz Tryz.func181
theorem fok182 : FnOK Tryz.prog 182 Tryz.f182 := fkz Tryz.func182
theorem fok183 : FnOK Tryz.prog 183 Tryz.f183 := fkz Tryz.func183
theorem fok184 : FnOK Tryz.prog 184 Tryz.f184 := fkz Tryz.func184
theorem fok185 : FnOK Tryz.prog 185 Tryz.f185 := fkz Tryz.func185
theorem fok186 : FnOK Tryz.prog 186 Tryz.f186 := fkz Tryz.func186
theorem fok187 : FnOK Tryz.prog 187 Tryz.f187 := fkz Tryz.func187
theorem fok188 : FnOK Tryz.prog 188 Tryz.f188 := fkz Tryz.func188
theorem fok189 : FnOK Tryz.prog 189 Tryz.f189 := fkz Tryz.func189
theorem fok190 : FnOK Tryz.prog 190 Tryz.f190 := fkz Tryz.func190
theorem fok191 : FnOK Tryz.prog 191 Tryz.f191 := fkz Tryz.func191
theorem fok192 : FnOK Tryz.prog 192 Tryz.f192 := fkz Tryz.func192
theorem fok210 : FnOK Tryz.prog 210 Tryz.f210 := fkz Tryz.func210
theorem fok211 : FnOK Tryz.prog 211 Tryz.f211 := fkz Tryz.func211
theorem fok212 : FnOK Tryz.prog 212 Tryz.f212 := fkz Tryz.func212
theorem fok213 : FnOK Tryz.prog 213 Tryz.f213 := fkz Tryz.func213
theorem fok214 : FnOK Tryz.prog 214 Tryz.f214 := fkz Tryz.func214
theorem fok215 : FnOK Tryz.prog 215 Tryz.f215 := fkz Tryz.func215
theorem fok216 : FnOK Tryz.prog 216 Tryz.f216 := fkz Tryz.func216
theorem fok217 : FnOK Tryz.prog 217 Tryz.f217 := fkz Tryz.func217
theorem fok218 : FnOK Tryz.prog 218 Tryz.f218 := fkz Tryz.func218
theorem fok219 : FnOK Tryz.prog 219 Tryz.f219 := fkz Tryz.func219
theorem fok220 : FnOK Tryz.prog 220 Tryz.f220 := fkz Tryz.func220
theorem fok226 : FnOK Tryz.prog 226 Tryz.f226 := fkz Tryz.func226
theorem fok227 : FnOK Tryz.prog 227 Tryz.f227 := fkz Tryz.func227
theorem fok228 : FnOK Tryz.prog 228 Tryz.f228 := fkz Tryz.func228
theorem fok229 : FnOK Tryz.prog 229 Tryz.f229 := fkz Tryz.func229
theorem fok230 : FnOK Tryz.prog 230 Tryz.f230 := fkz Tryz.func230
theorem fok231 : FnOK Tryz.prog 231 Tryz.f231 := fkz Tryz.func231
theorem fok232 : FnOK Tryz.prog 232 Tryz.f232 := fkz Tryz.func232
theorem fok233 : FnOK Tryz.prog 233 Tryz.f233 := fkz Tryz.func233
theorem fok234 : FnOK Tryz.prog 234 Tryz.f234 := fkz Tryz.func234
theorem fok235 : FnOK Tryz.prog 235 Tryz.f235 := fkz Tryz.func235
theorem fok242 : FnOK Tryz.prog 242 Tryz.f242 := fkz Tryz.func242
theorem fok243 : FnOK Tryz.prog 243 Tryz.f243 := fkz Tryz.func243
theorem fok244 : FnOK Tryz.prog 244 Tryz.f244 := fkz Tryz.func244
theorem fok245 : FnOK Tryz.prog 245 Tryz.f245 := fkz Tryz.func245
theorem fok246 : FnOK Tryz.prog 246 Tryz.f246 := fkz Tryz.func246
theorem fok247 : FnOK Tryz.prog 247 Tryz.f247 := fkz Tryz.func247
theorem fok248 : FnOK Tryz.prog 248 Tryz.f248 := fkz Tryz.func248
theorem fok250 : FnOK Tryz.prog 250 Tryz.f250 := fkz Tryz.func250
theorem fok251 : FnOK Tryz.prog 251 Tryz.f251 := fkz Tryz.func251
theorem fok252 : FnOK Tryz.prog 252 Tryz.f252 := fkz Tryz.func252
theorem fok253 : FnOK Tryz.prog 253 Tryz.f253 := fkz Tryz.func253
theorem fok255 : FnOK Tryz.prog 255 Tryz.f255 := fkz Tryz.func255
theorem fok256 : FnOK Tryz.prog 256 Tryz.f256 := fkz Tryz.func256
theorem fok257 : FnOK Tryz.prog 257 Tryz.f257 := fkz Tryz.func257
theorem fok258 : FnOK Tryz.prog 258 Tryz.f258 := fkz Tryz.func258
theorem fok259 : FnOK Tryz.prog 259 Tryz.f259 := fkz Tryz.func259
theorem fok260 : FnOK Tryz.prog 260 Tryz.f260 := fkz Tryz.func260
theorem fok261 : FnOK Tryz.prog 261 Tryz.f261 := fkz Tryz.func261
theorem tyAll : Tr.All (fun t i => TyOK Tryz.prog t i) (fun k => k) tyT := (.skip (.here tok1 (.here tok3 (.here tok7 (.here tok15 (.here tok31 (.here tok63 .nil .nil) (.skip .nil (.skip (.here tok351 .nil .nil) .nil))) (.skip (.skip .nil (.here tok207 .nil .nil)) .nil)) (.here tok23 (.here tok39 (.skip (.skip (.here tok263 .nil .nil) .nil) (.here tok199 .nil .nil)) .nil) (.here tok55 (.skip (.here tok151 .nil .nil) (.here tok215 (.here tok343 .nil .nil) .nil)) (.skip (.skip (.here tok311 .nil .nil) .nil) (.skip (.here tok375 .nil .nil) .nil))))) (.here tok11 (.skip (.here tok35 .nil (.skip .nil (.skip (.here tok355 .nil .nil) .nil))) (.here tok51 .nil (.here tok115 (.skip (.here tok307 .nil .nil) .nil) .nil))) (.here tok27 (.here tok43 (.here tok75 .nil (.skip (.here tok331 .nil .nil) .nil)) .nil) (.here tok59 (.skip .nil (.skip (.here tok347 .nil .nil) .nil)) (.here tok123 .nil .nil))))) (.here tok5 (.here tok9 (.here tok17 (.here tok33 (.skip (.skip (.here tok257 .nil .nil) .nil) .nil) .nil) (.skip (.skip (.here tok145 .nil .nil) (.here tok209 .nil .nil)) (.skip .nil (.skip (.here tok369 .nil .nil) .nil)))) (.here tok25 (.here tok41 (.here tok73 .nil .nil) (.skip .nil (.skip (.here tok361 .nil .nil) .nil))) (.here tok57 (.skip .nil (.here tok217 .nil .nil)) (.here tok121 .nil (.skip (.here tok377 .nil .nil) .nil))))) (.skip (.here tok21 (.here tok37 (.skip (.here tok133 (.here tok261 .nil .nil) .nil) (.here tok197 .nil .nil)) .nil) (.here tok53 (.skip .nil (.here tok213 (.here tok341 .nil .nil) .nil)) (.here tok117 .nil (.skip (.here tok373 .nil .nil) .nil)))) (.here tok29 (.here tok45 .nil .nil) (.here tok61 .nil (.here tok125 .nil .nil)))))) (.here tok2 (.here tok4 (.here tok8 (.here tok16 (.here tok32 (.skip (.here tok128 .nil .nil) .nil) (.skip .nil (.skip (.here tok352 .nil .nil) .nil))) (.here tok48 .nil .nil)) (.here tok24 (.here tok40 (.skip (.skip (.here tok264 .nil .nil) .nil) (.skip (.here tok328 .nil .nil) .nil)) .nil) (.here tok56 (.here tok88 .nil (.here tok216 .nil .nil)) (.skip .nil (.skip (.here tok376 .nil .nil) .nil))))) (.here tok12 (.here tok20 (.here tok36 (.skip (.skip (.here tok260 .nil .nil) .nil) (.here tok196 (.here tok324 .nil .nil) .nil)) .nil) (.here tok52 (.skip (.here tok148 .nil .nil) (.here tok212 .nil .nil)) .nil)) (.here tok28 (.here tok44 .nil (.skip .nil (.skip (.here tok364 .nil .nil) .nil))) (.skip (.skip .nil (.skip (.here tok348 .nil .nil) .nil)) (.skip (.skip (.here tok316 .nil .nil) .nil) .nil))))) (.here tok6 (.here tok10 (.skip (.here tok34 .nil .nil) (.here tok50 (.skip (.here tok146 .nil .nil) .nil) (.skip (.skip (.here tok306 .nil .nil) .nil) (.here tok242 .nil .nil)))) (.here tok26 (.here tok42 .nil (.here tok106 .nil (.skip (.here tok362 .nil .nil) .nil))) (.here tok58 (.here tok90 .nil .nil) (.skip (.here tok186 .nil .nil) (.skip (.here tok378 .nil .nil) .nil))))) (.skip (.here tok22 (.here tok38 (.skip .nil (.skip (.here tok326 .nil .nil) .nil)) .nil) (.here tok54 (.skip (.here tok150 .nil .nil) .nil) (.skip .nil (.skip (.here tok374 .nil .nil) .nil)))) (.here tok30 (.here tok46 .nil (.here tok110 .nil .nil)) (.skip (.skip .nil (.skip (.here tok350 .nil .nil) .nil)) .nil))))))
theorem fnAll : Tr.All (fun f fn => FnOK Tryz.prog f fn) (fun k => k) fnT := (.skip (.skip (.skip (.skip (.here fok15 (.skip (.skip (.skip (.here fok255 .nil .nil) .nil) (.here fok191 .nil .nil)) (.skip (.here fok159 .nil .nil) .nil)) (.here fok47 .nil (.here fok111 .nil .nil))) (.skip (.here fok39 .nil (.skip .nil (.here fok231 .nil .nil))) (.here fok55 (.skip .nil (.here fok215 .nil .nil)) (.here fok119 (.here fok183 .nil .nil) (.here fok247 .nil .nil))))) (.skip (.skip (.skip (.skip (.skip (.here fok259 .nil .nil) .nil) .nil) (.skip .nil (.here fok227 .nil .nil))) (.here fok51 (.skip .nil (.here fok211 .nil .nil)) (.here fok115 (.here fok179 .nil .nil) (.here fok243 .nil .nil)))) (.skip (.here fok43 .nil (.skip .nil (.here fok235 .nil .nil))) (.skip (.here fok91 (.here fok155 .nil .nil) (.here fok219 .nil .nil)) (.here fok123 (.here fok187 .nil .nil) (.here fok251 .nil .nil)))))) (.skip (.skip (.here fok17 (.skip (.skip (.skip (.here fok257 .nil .nil) .nil) .nil) (.skip (.here fok161 .nil .nil) .nil)) (.here fok49 .nil (.here fok113 (.here fok177 .nil .nil) .nil))) (.skip (.here fok41 .nil (.skip .nil (.here fok233 .nil .nil))) (.here fok57 (.here fok89 .nil (.here fok217 .nil .nil)) (.here fok121 (.here fok185 .nil .nil) .nil)))) (.here fok13 (.skip (.skip (.skip (.skip (.here fok261 .nil .nil) .nil) .nil) (.skip .nil (.here fok229 .nil .nil))) (.here fok53 (.skip .nil (.here fok213 .nil .nil)) (.here fok117 (.here fok181 .nil .nil) (.here fok245 .nil .nil)))) (.skip (.here fok45 .nil .nil) (.skip (.skip (.here fok157 .nil .nil) .nil) (.here fok125 (.here fok189 .nil .nil) (.here fok253 .nil .nil))))))) (.skip (.here fok4 (.skip (.here fok16 (.skip (.skip (.skip (.here fok256 .nil .nil) .nil) (.here fok192 .nil .nil)) .nil) (.here fok48 .nil (.here fok112 (.here fok176 .nil .nil) .nil))) (.skip (.here fok40 .nil (.skip .nil (.here fok232 .nil .nil))) (.here fok56 (.here fok88 .nil (.here fok216 .nil .nil)) (.here fok120 (.here fok184 .nil .nil) (.here fok248 .nil .nil))))) (.skip (.skip (.skip (.skip (.skip (.here fok260 .nil .nil) .nil) .nil) (.skip .nil (.here fok228 .nil .nil))) (.here fok52 (.skip .nil (.here fok212 .nil .nil)) (.here fok116 (.here fok180 .nil .nil) (.here fok244 .nil .nil)))) (.skip (.here fok44 .nil .nil) (.skip (.skip (.here fok156 .nil .nil) (.here fok220 .nil .nil)) (.here fok124 (.here fok188 .nil .nil) (.here fok252 .nil .nil)))))) (.skip (.skip (.here fok18 (.skip (.skip (.skip (.here fok258 .nil .nil) .nil) .nil) (.skip .nil (.here fok226 .nil .nil))) (.here fok50 (.skip .nil (.here fok210 .nil .nil)) (.here fok114 (.here fok178 .nil .nil) (.here fok242 .nil .nil)))) (.skip (.here fok42 .nil (.skip (.here fok170 .nil .nil) (.here fok234 .nil .nil))) (.skip (.here fok90 (.here fok154 .nil .nil) (.here fok218 .nil .nil)) (.here fok122 (.here fok186 .nil .nil) (.here fok250 .nil .nil))))) (.here fok14 (.skip (.here fok38 .nil (.skip .nil (.here fok230 .nil .nil))) (.here fok54 (.skip .nil (.here fok214 .nil .nil)) (.here fok118 (.here fok182 .nil .nil) (.here fok246 .nil .nil)))) (.skip (.skip .nil (.here fok110 .nil .nil)) (.skip (.skip (.here fok158 .nil .nil) .nil) (.skip (.here fok190 .nil .nil) .nil)))))))
theorem xok46 : ExtOK Tryz.prog 46 add64V := add64_ok (run_callFunc_extern Tryz.func46 (by kernel_rfl) (by kernel_rfl) (by kernel_rfl) (e := add64Entry) (by kernel_rfl))
theorem extAll : Tr.All (fun f e => ExtOK Tryz.prog f e) (fun k => k) extT := (.skip .nil (.skip .nil (.skip .nil (.skip .nil (.skip (.here xok46 .nil .nil) .nil)))))
theorem mtAll : Tr.All (fun t l => MtOK Tryz.prog t l) (fun k => k) mtT := .nil
theorem mpAll : Tr.All (fun t p => Tryz.prog.underlying t = some (.map p.1 p.2)) (fun k => k) mpT := .nil
theorem cfgOK : CfgOK Tryz.prog cfg := ⟨fun t i h => tyAll.at_ h, fun f e h => extAll.at_ h, fun t k e h => mpAll.at_ h, mtOf_ok fun t l h => mtAll.at_ h⟩
theorem fnsOK : FnsOK Tryz.prog cfg := fnsOK_of fun f fn h => fnAll.at_ h
theorem mixed : Tryz.prog.follows .mixedOrders = true := by kernel_rfl
end
end
end Go.Proofs.YtgeelfdgnehdnaaGreatDoor
end

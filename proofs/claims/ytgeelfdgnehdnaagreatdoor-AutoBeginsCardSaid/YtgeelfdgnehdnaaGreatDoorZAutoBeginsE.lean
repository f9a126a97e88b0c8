/-
  What the proof of AutoBegins stands on, part 5. No condition.
-/
import Derived.Test.YtgeelfdgnehdnaaGreatDoorZAutoBeginsD
set_option linter.unusedSimpArgs false
set_option linter.unusedVariables false
namespace Go.Proofs.YtgeelfdgnehdnaaGreatDoor
section
open Go.RowKit
section
set_option maxRecDepth 100000
theorem tkO {P : Program} {t : TypeId} {i : TyI} (d : i.d.Is P t) (s : (P.info? t).map (·.size) = some i.size := by kernel_rfl) (b : (P.info? t).map (·.bytes) = some i.bytes := by kernel_rfl) (z : ∀ ρ, (P.info? t).bind (·.zero) = some (conc ρ i.zero) := by intro ρ; kernel_rfl) (y : bare i.zero = true := by kernel_rfl) (v : i.zero.isAgg = i.agg := by kernel_rfl) (x : i.zero.size = i.size := by kernel_rfl) (g : i.agg = false := by kernel_rfl) (l : i.zero.leaf = true := by kernel_rfl) : TyOK P t i := ⟨s, b, z, zin_of y, d, fun h => (by rw [g] at h; cases h), v, fun _ => l, x⟩
theorem tkU {P : Program} {t : TypeId} {i : TyI} (d : i.d.Is P t := by show Program.underlying _ _ = _; kernel_rfl) (s : (P.info? t).map (·.size) = some i.size := by kernel_rfl) (b : (P.info? t).map (·.bytes) = some i.bytes := by kernel_rfl) (z : ∀ ρ, (P.info? t).bind (·.zero) = some (conc ρ i.zero) := by intro ρ; kernel_rfl) (y : bare i.zero = true := by kernel_rfl) (v : i.zero.isAgg = i.agg := by kernel_rfl) (x : i.zero.size = i.size := by kernel_rfl) (g : i.agg = false := by kernel_rfl) (l : i.zero.leaf = true := by kernel_rfl) : TyOK P t i := ⟨s, b, z, zin_of y, d, fun h => (by rw [g] at h; cases h), v, fun _ => l, x⟩
theorem tkR {P : Program} {t : TypeId} {i : TyI} (d : i.d.Is P t := by exact ⟨by kernel_rfl, by kernel_rfl⟩) (s : (P.info? t).map (·.size) = some i.size := by kernel_rfl) (b : (P.info? t).map (·.bytes) = some i.bytes := by kernel_rfl) (z : ∀ ρ, (P.info? t).bind (·.zero) = some (conc ρ i.zero) := by intro ρ; kernel_rfl) (y : bare i.zero = true := by kernel_rfl) (v : i.zero.isAgg = i.agg := by kernel_rfl) (x : i.zero.size = i.size := by kernel_rfl) (e : P.eqGuardType P.depth t = false := by kernel_rfl) (g : i.agg = true := by kernel_rfl) : TyOK P t i := ⟨s, b, z, zin_of y, d, fun _ => e, v, fun h => (by rw [g] at h; cases h), x⟩
theorem tkS {P : Program} {t : TypeId} {i : TyI} (d : i.d.Is P t := by exact ⟨by kernel_rfl, by kernel_rfl, by kernel_rfl, by kernel_rfl, by kernel_rfl⟩) (s : (P.info? t).map (·.size) = some i.size := by kernel_rfl) (b : (P.info? t).map (·.bytes) = some i.bytes := by kernel_rfl) (z : ∀ ρ, (P.info? t).bind (·.zero) = some (conc ρ i.zero) := by intro ρ; kernel_rfl) (y : bare i.zero = true := by kernel_rfl) (v : i.zero.isAgg = i.agg := by kernel_rfl) (x : i.zero.size = i.size := by kernel_rfl) (e : P.eqGuardType P.depth t = false := by kernel_rfl) (g : i.agg = true := by kernel_rfl) : TyOK P t i := ⟨s, b, z, zin_of y, d, fun _ => e, v, fun h => (by rw [g] at h; cases h), x⟩
theorem fkz {P : Program} {f : FuncId} {n : Func} (h : P.funcs[f]? = some n) (a : (n.name == "runtime.NumGoroutine") = false := by kernel_rfl) (b : n.body.isSome = true := by kernel_rfl) (k : (match n.body with | some c => ySq n.ntmps c | none => true) = true := by kernel_rfl) : FnOK P f n := by
 obtain ⟨c, e⟩ := Option.isSome_iff_exists.1 b;exact ⟨h, Go.Proofs.enters_of h a e, k⟩
theorem tok1 : TyOK Tryz.prog 1 ti1 := tkO (ylq (by kernel_rfl))
theorem tok2 : TyOK Tryz.prog 2 ti2 := tkU
theorem tok3 : TyOK Tryz.prog 3 ti3 := tkU
theorem tok4 : TyOK Tryz.prog 4 ti4 := tkU
theorem tok5 : TyOK Tryz.prog 5 ti5 := tkU
theorem tok6 : TyOK Tryz.prog 6 ti6 := tkU
theorem tok7 : TyOK Tryz.prog 7 ti7 := tkS
theorem tok8 : TyOK Tryz.prog 8 ti8 := tkS
theorem tok9 : TyOK Tryz.prog 9 ti9 := tkU
theorem tok10 : TyOK Tryz.prog 10 ti10 := tkU
theorem tok11 : TyOK Tryz.prog 11 ti11 := tkU
theorem tok12 : TyOK Tryz.prog 12 ti12 := tkU
theorem tok15 : TyOK Tryz.prog 15 ti15 := tkU
theorem tok16 : TyOK Tryz.prog 16 ti16 := tkU
theorem tok17 : TyOK Tryz.prog 17 ti17 := tkU
theorem tok20 : TyOK Tryz.prog 20 ti20 := tkO (iface_of (by kernel_rfl))
theorem tok21 : TyOK Tryz.prog 21 ti21 := tkU
theorem tok22 : TyOK Tryz.prog 22 ti22 := tkR
theorem tok23 : TyOK Tryz.prog 23 ti23 := tkR
theorem tok24 : TyOK Tryz.prog 24 ti24 := tkS
theorem tok25 : TyOK Tryz.prog 25 ti25 := tkS
theorem tok26 : TyOK Tryz.prog 26 ti26 := tkU
theorem tok27 : TyOK Tryz.prog 27 ti27 := tkO (ylq (by kernel_rfl))
theorem tok28 : TyOK Tryz.prog 28 ti28 := tkU
theorem tok29 : TyOK Tryz.prog 29 ti29 := tkS
theorem tok30 : TyOK Tryz.prog 30 ti30 := tkS
theorem tok31 : TyOK Tryz.prog 31 ti31 := tkU
theorem tok32 : TyOK Tryz.prog 32 ti32 := tkS
theorem tok33 : TyOK Tryz.prog 33 ti33 := tkS
theorem tok34 : TyOK Tryz.prog 34 ti34 := tkS
theorem tok35 : TyOK Tryz.prog 35 ti35 := tkS
theorem tok36 : TyOK Tryz.prog 36 ti36 := tkU
theorem tok37 : TyOK Tryz.prog 37 ti37 := tkU
theorem tok38 : TyOK Tryz.prog 38 ti38 := tkU
theorem tok39 : TyOK Tryz.prog 39 ti39 := tkU
theorem tok40 : TyOK Tryz.prog 40 ti40 := tkU
theorem tok41 : TyOK Tryz.prog 41 ti41 := tkU
theorem tok42 : TyOK Tryz.prog 42 ti42 := tkS
theorem tok43 : TyOK Tryz.prog 43 ti43 := tkS
theorem tok44 : TyOK Tryz.prog 44 ti44 := tkS
theorem tok45 : TyOK Tryz.prog 45 ti45 := tkS
theorem tok46 : TyOK Tryz.prog 46 ti46 := tkU
theorem tok48 : TyOK Tryz.prog 48 ti48 := tkO (ylq (by kernel_rfl))
theorem tok50 : TyOK Tryz.prog 50 ti50 := tkO (ylq (by kernel_rfl))
theorem tok51 : TyOK Tryz.prog 51 ti51 := tkO (ylq (by kernel_rfl))
theorem tok52 : TyOK Tryz.prog 52 ti52 := tkO (ylq (by kernel_rfl))
theorem tok53 : TyOK Tryz.prog 53 ti53 := tkO (ylq (by kernel_rfl))
theorem tok54 : TyOK Tryz.prog 54 ti54 := tkO (ylq (by kernel_rfl))
theorem tok55 : TyOK Tryz.prog 55 ti55 := tkO (ylq (by kernel_rfl))
theorem tok56 : TyOK Tryz.prog 56 ti56 := tkS
theorem tok57 : TyOK Tryz.prog 57 ti57 := tkS
theorem tok58 : TyOK Tryz.prog 58 ti58 := tkO (ylq (by kernel_rfl))
theorem tok59 : TyOK Tryz.prog 59 ti59 := tkO (ylq (by kernel_rfl))
theorem tok61 : TyOK Tryz.prog 61 ti61 := tkO (ylq (by kernel_rfl))
theorem tok63 : TyOK Tryz.prog 63 ti63 := tkO (ylq (by kernel_rfl))
theorem tok64 : TyOK Tryz.prog 64 ti64 := tkO (ylq (by kernel_rfl))
theorem tok73 : TyOK Tryz.prog 73 ti73 := tkS
theorem tok75 : TyOK Tryz.prog 75 ti75 := tkS
theorem tok88 : TyOK Tryz.prog 88 ti88 := tkU
theorem tok90 : TyOK Tryz.prog 90 ti90 := tkS
theorem tok106 : TyOK Tryz.prog 106 ti106 := tkS
theorem tok110 : TyOK Tryz.prog 110 ti110 := tkS
theorem tok128 : TyOK Tryz.prog 128 ti128 := tkO (ylq (by kernel_rfl))
theorem tok133 : TyOK Tryz.prog 133 ti133 := tkU
theorem tok145 : TyOK Tryz.prog 145 ti145 := tkS
theorem tok150 : TyOK Tryz.prog 150 ti150 := tkS
theorem tok186 : TyOK Tryz.prog 186 ti186 := tkS
theorem tok196 : TyOK Tryz.prog 196 ti196 := tkS
theorem tok197 : TyOK Tryz.prog 197 ti197 := tkU
theorem tok199 : TyOK Tryz.prog 199 ti199 := tkS
theorem tok207 : TyOK Tryz.prog 207 ti207 := tkU
theorem tok209 : TyOK Tryz.prog 209 ti209 := tkS
theorem tok212 : TyOK Tryz.prog 212 ti212 := tkS
theorem tok213 : TyOK Tryz.prog 213 ti213 := tkU
theorem tok215 : TyOK Tryz.prog 215 ti215 := tkS
theorem tok216 : TyOK Tryz.prog 216 ti216 := tkS
theorem tok217 : TyOK Tryz.prog 217 ti217 := tkS
theorem tok242 : TyOK Tryz.prog 242 ti242 := tkO (ylq (by kernel_rfl))
theorem tok257 : TyOK Tryz.prog 257 ti257 := tkO (ylq (by kernel_rfl))
theorem tok260 : TyOK Tryz.prog 260 ti260 := tkU
theorem tok261 : TyOK Tryz.prog 261 ti261 := tkS
theorem tok263 : TyOK Tryz.prog 263 ti263 := tkO (ylq (by kernel_rfl))
theorem tok264 : TyOK Tryz.prog 264 ti264 := tkO (ylq (by kernel_rfl))
theorem tok306 : TyOK Tryz.prog 306 ti306 := tkO (ylq (by kernel_rfl))
theorem tok307 : TyOK Tryz.prog 307 ti307 := tkO (ylq (by kernel_rfl))
theorem tok311 : TyOK Tryz.prog 311 ti311 := tkR
theorem tok316 : TyOK Tryz.prog 316 ti316 := tkO (ylq (by kernel_rfl))
theorem tok324 : TyOK Tryz.prog 324 ti324 := tkU
theorem tok341 : TyOK Tryz.prog 341 ti341 := tkO (ylq (by kernel_rfl))
theorem tok343 : TyOK Tryz.prog 343 ti343 := tkR
theorem tok347 : TyOK Tryz.prog 347 ti347 := tkO (ylq (by kernel_rfl))
theorem tok348 : TyOK Tryz.prog 348 ti348 := tkO (ylq (by kernel_rfl))
theorem tok350 : TyOK Tryz.prog 350 ti350 := tkU
theorem tok351 : TyOK Tryz.prog 351 ti351 := tkR
theorem tok352 : TyOK Tryz.prog 352 ti352 := tkR
theorem tok355 : TyOK Tryz.prog 355 ti355 := tkR
theorem tok361 : TyOK Tryz.prog 361 ti361 := tkO (ylq (by kernel_rfl))
theorem tok362 : TyOK Tryz.prog 362 ti362 := tkU
theorem tok364 : TyOK Tryz.prog 364 ti364 := tkR
theorem tok369 : TyOK Tryz.prog 369 ti369 := tkR
theorem tok373 : TyOK Tryz.prog 373 ti373 := tkU
theorem tok374 : TyOK Tryz.prog 374 ti374 := tkU
theorem tok375 : TyOK Tryz.prog 375 ti375 := tkO (ylq (by kernel_rfl))
theorem tok376 : TyOK Tryz.prog 376 ti376 := tkU
theorem tok377 : TyOK Tryz.prog 377 ti377 := tkU
theorem tok378 : TyOK Tryz.prog 378 ti378 := tkU
theorem fok3 : FnOK Tryz.prog 3 Tryz.f3 := fkz Tryz.func3
theorem fok6 : FnOK Tryz.prog 6 Tryz.f6 := fkz Tryz.func6
theorem fok7 : FnOK Tryz.prog 7 Tryz.f7 := fkz Tryz.func7
theorem fok8 : FnOK Tryz.prog 8 Tryz.f8 := fkz Tryz.func8
theorem fok9 : FnOK Tryz.prog 9 Tryz.f9 := fkz Tryz.func9
theorem fok10 : FnOK Tryz.prog 10 Tryz.f10 := fkz Tryz.func10
theorem fok11 : FnOK Tryz.prog 11 Tryz.f11 := fkz Tryz.func11
theorem fok12 : FnOK Tryz.prog 12 Tryz.f12 := fkz Tryz.func12
theorem fok26 : FnOK Tryz.prog 26 Tryz.f26 := fkz Tryz.func26
theorem fok27 : FnOK Tryz.prog 27 Tryz.f27 := fkz Tryz.func27
theorem fok28 : FnOK Tryz.prog 28 Tryz.f28 := fkz Tryz.func28
theorem fok29 : FnOK Tryz.prog 29 Tryz.f29 := fkz Tryz.func29
theorem fok30 : FnOK Tryz.prog 30 Tryz.f30 := fkz Tryz.func30
theorem fok31 : FnOK Tryz.prog 31 Tryz.f31 := fkz Tryz.func31
theorem fok32 : FnOK Tryz.prog 32 Tryz.f32 := fkz Tryz.func32
theorem fok33 : FnOK Tryz.prog 33 Tryz.f33 := fkz Tryz.func33
theorem fok34 : FnOK Tryz.prog 34 Tryz.f34 := fkz Tryz.func34
theorem fok35 : FnOK Tryz.prog 35 Tryz.f35 := fkz Tryz.func35
theorem fok36 : FnOK Tryz.prog 36 Tryz.f36 := fkz Tryz.func36
theorem fok37 : FnOK Tryz.prog 37 Tryz.f37 := fkz Tryz.func37
theorem fok38 : FnOK Tryz.prog 38 Tryz.f38 := fkz Tryz.func38
theorem fok43 : FnOK Tryz.prog 43 Tryz.f43 := fkz Tryz.func43
theorem fok50 : FnOK Tryz.prog 50 Tryz.f50 := fkz Tryz.func50
theorem fok51 : FnOK Tryz.prog 51 Tryz.f51 := fkz Tryz.func51
theorem fok52 : FnOK Tryz.prog 52 Tryz.f52 := fkz Tryz.func52
theorem fok55 : FnOK Tryz.prog 55 Tryz.f55 := fkz Tryz.func55
theorem fok56 : FnOK Tryz.prog 56 Tryz.f56 := fkz Tryz.func56
theorem fok57 : FnOK Tryz.prog 57 Tryz.f57 := fkz Tryz.func57
theorem fok88 : FnOK Tryz.prog 88 Tryz.f88 := fkz Tryz.func88
theorem fok89 : FnOK Tryz.prog 89 Tryz.f89 := fkz Tryz.func89
theorem fok90 : FnOK Tryz.prog 90 Tryz.f90 := fkz Tryz.func90
theorem fok91 : FnOK Tryz.prog 91 Tryz.f91 := fkz Tryz.func91
theorem fok92 : FnOK Tryz.prog 92 Tryz.f92 := fkz Tryz.func92
theorem fok93 : FnOK Tryz.prog 93 Tryz.f93 := fkz Tryz.func93
theorem fok94 : FnOK Tryz.prog 94 Tryz.f94 := fkz Tryz.func94
theorem fok95 : FnOK Tryz.prog 95 Tryz.f95 := fkz Tryz.func95
theorem fok96 : FnOK Tryz.prog 96 Tryz.f96 := fkz Tryz.func96
theorem fok97 : FnOK Tryz.prog 97 Tryz.f97 := fkz Tryz.func97
theorem fok98 : FnOK Tryz.prog 98 Tryz.f98 := fkz Tryz.func98
theorem fok99 : FnOK Tryz.prog 99 Tryz.f99 := fkz Tryz.func99
theorem fok100 : FnOK Tryz.prog 100 Tryz.f100 := fkz Tryz.func100
theorem fok101 : FnOK Tryz.prog 101 Tryz.f101 := fkz Tryz.func101
theorem fok102 : FnOK Tryz.prog 102 Tryz.f102 := fkz Tryz.func102
theorem fok103 : FnOK Tryz.prog 103 Tryz.f103 := fkz Tryz.func103
theorem fok104 : FnOK Tryz.prog 104 Tryz.f104 := fkz Tryz.func104
theorem fok105 : FnOK Tryz.prog 105 Tryz.f105 := fkz Tryz.func105
theorem fok106 : FnOK Tryz.prog 106 Tryz.f106 := fkz Tryz.func106
theorem fok107 : FnOK Tryz.prog 107 Tryz.f107 := fkz Tryz.func107
theorem fok108 : FnOK Tryz.prog 108 Tryz.f108 := fkz Tryz.func108
theorem fok109 : FnOK Tryz.prog 109 Tryz.f109 := fkz Tryz.func109
theorem fok111 : FnOK Tryz.prog 111 Tryz.f111 := fkz Tryz.func111
theorem fok112 : FnOK Tryz.prog 112 Tryz.f112 := fkz Tryz.func112
theorem fok114 : FnOK Tryz.prog 114 Tryz.f114 := fkz Tryz.func114
theorem fok116 : FnOK Tryz.prog 116 Tryz.f116 := fkz Tryz.func116
theorem fok117 : FnOK Tryz.prog 117 Tryz.f117 := fkz Tryz.func117
theorem fok118 : FnOK Tryz.prog 118 Tryz.f118 := fkz Tryz.func118
theorem fok119 : FnOK Tryz.prog 119 Tryz.f119 := fkz Tryz.func119
theorem fok121 : FnOK Tryz.prog 121 Tryz.f121 := fkz Tryz.func121
theorem fok124 : FnOK Tryz.prog 124 Tryz.f124 := fkz Tryz.func124
theorem fok125 : FnOK Tryz.prog 125 Tryz.f125 := fkz Tryz.func125
theorem fok154 : FnOK Tryz.prog 154 Tryz.f154 := fkz Tryz.func154
theorem fok155 : FnOK Tryz.prog 155 Tryz.f155 := fkz Tryz.func155
theorem fok156 : FnOK Tryz.prog 156 Tryz.f156 := fkz Tryz.func156
theorem fok157 : FnOK Tryz.prog 157 Tryz.f157 := fkz Tryz.func157
theorem fok158 : FnOK Tryz.prog 158 Tryz.f158 := fkz Tryz.func158
theorem fok159 : FnOK Tryz.prog 159 Tryz.f159 := fkz Tryz.func159
theorem fok160 : FnOK Tryz.prog 160 Tryz.f160 := fkz Tryz.func160
theorem fok161 : FnOK Tryz.prog 161 Tryz.f161 := fkz Tryz.func161
theorem fok162 : FnOK Tryz.prog 162 Tryz.f162 := fkz Tryz.func162
theorem fok163 : FnOK Tryz.prog 163 Tryz.f163 := fkz Tryz.func163
theorem fok164 : FnOK Tryz.prog 164 Tryz.f164 := fkz Tryz.func164
theorem fok165 : FnOK Tryz.prog 165 Tryz.f165 := fkz Tryz.func165
theorem fok166 : FnOK Tryz.prog 166 Tryz.f166 := fkz Tryz.func166
theorem fok167 : FnOK Tryz.prog 167 Tryz.f167 := fkz Tryz.func167
theorem fok168 : FnOK Tryz.prog 168 Tryz.f168 := fkz Tryz.func168
theorem fok169 : FnOK Tryz.prog 169 Tryz.f169 := fkz Tryz.func169
theorem fok170 : FnOK Tryz.prog 170 Tryz.f170 := fkz Tryz.func170
theorem fok171 : FnOK Tryz.prog 171 Tryz.f171 := fkz Tryz.func171
theorem fok172 : FnOK Tryz.prog 172 Tryz.f172 := fkz Tryz.func172
theorem fok173 : FnOK Tryz.prog 173 Tryz.f173 := fkz Tryz.func173
theorem fok174 : FnOK Tryz.prog 174 Tryz.f174 := fkz Tryz.func174
theorem fok175 : FnOK Tryz.prog 175 Tryz.f175 := fkz Tryz.func175
theorem fok176 : FnOK Tryz.prog 176 Tryz.f176 := fkz Tryz.func176
theorem fok177 : FnOK Tryz.prog 177 Tryz.f177 := fkz Tryz.func177
theorem fok178 : FnOK Tryz.prog 178 Tryz.f178 := fkz Tryz.func178
theorem fok182 : FnOK Tryz.prog 182 Tryz.f182 := fkz Tryz.func182
theorem fok183 : FnOK Tryz.prog 183 Tryz.f183 := fkz Tryz.func183
theorem fok184 : FnOK Tryz.prog 184 Tryz.f184 := fkz Tryz.func184
theorem fok186 : FnOK Tryz.prog 186 Tryz.f186 := fkz Tryz.func186
theorem fok190 : FnOK Tryz.prog 190 Tryz.f190 := fkz Tryz.func190
theorem fok191 : FnOK Tryz.prog 191 Tryz.f191 := fkz Tryz.func191
theorem fok192 : FnOK Tryz.prog 192 Tryz.f192 := fkz Tryz.func192
theorem fok210 : FnOK Tryz.prog 210 Tryz.f210 := fkz Tryz.func210
theorem fok211 : FnOK Tryz.prog 211 Tryz.f211 := fkz Tryz.func211
theorem fok212 : FnOK Tryz.prog 212 Tryz.f212 := fkz Tryz.func212
theorem fok213 : FnOK Tryz.prog 213 Tryz.f213 := fkz Tryz.func213
theorem fok214 : FnOK Tryz.prog 214 Tryz.f214 := fkz Tryz.func214
theorem fok215 : FnOK Tryz.prog 215 Tryz.f215 := fkz Tryz.func215
theorem fok216 : FnOK Tryz.prog 216 Tryz.f216 := fkz Tryz.func216
theorem fok217 : FnOK Tryz.prog 217 Tryz.f217 := fkz Tryz.func217
theorem fok218 : FnOK Tryz.prog 218 Tryz.f218 := fkz Tryz.func218
theorem fok219 : FnOK Tryz.prog 219 Tryz.f219 := fkz Tryz.func219
theorem fok220 : FnOK Tryz.prog 220 Tryz.f220 := fkz Tryz.func220
theorem fok221 : FnOK Tryz.prog 221 Tryz.f221 := fkz Tryz.func221
theorem fok222 : FnOK Tryz.prog 222 Tryz.f222 := fkz Tryz.func222
theorem fok223 : FnOK Tryz.prog 223 Tryz.f223 := fkz Tryz.func223
theorem fok224 : FnOK Tryz.prog 224 Tryz.f224 := fkz Tryz.func224
theorem fok225 : FnOK Tryz.prog 225 Tryz.f225 := fkz Tryz.func225
theorem fok230 : FnOK Tryz.prog 230 Tryz.f230 := fkz Tryz.func230
theorem fok232 : FnOK Tryz.prog 232 Tryz.f232 := fkz Tryz.func232
theorem fok233 : FnOK Tryz.prog 233 Tryz.f233 := fkz Tryz.func233
theorem fok234 : FnOK Tryz.prog 234 Tryz.f234 := fkz Tryz.func234
theorem fok242 : FnOK Tryz.prog 242 Tryz.f242 := fkz Tryz.func242
theorem fok243 : FnOK Tryz.prog 243 Tryz.f243 := fkz Tryz.func243
theorem fok244 : FnOK Tryz.prog 244 Tryz.f244 := fkz Tryz.func244
theorem fok245 : FnOK Tryz.prog 245 Tryz.f245 := fkz Tryz.func245
theorem fok246 : FnOK Tryz.prog 246 Tryz.f246 := fkz Tryz.func246
theorem fok247 : FnOK Tryz.prog 247 Tryz.f247 := fkz Tryz.func247
theorem fok248 : FnOK Tryz.prog 248 Tryz.f248 := fkz Tryz.func248
theorem fok249 : FnOK Tryz.prog 249 Tryz.f249 := fkz Tryz.func249
theorem fok250 : FnOK Tryz.prog 250 Tryz.f250 := fkz Tryz.func250
theorem fok251 : FnOK Tryz.prog 251 Tryz.f251 := fkz Tryz.func251
theorem fok252 : FnOK Tryz.prog 252 Tryz.f252 := fkz Tryz.func252
theorem fok253 : FnOK Tryz.prog 253 Tryz.f253 := fkz Tryz.func253
theorem fok255 : FnOK Tryz.prog 255 Tryz.f255 := fkz Tryz.func255
theorem fok256 : FnOK Tryz.prog 256 Tryz.f256 := fkz Tryz.func256
theorem fok257 : FnOK Tryz.prog 257 Tryz.f257 := fkz Tryz.func257
theorem fok258 : FnOK Tryz.prog 258 Tryz.f258 := fkz Tryz.func258
theorem fok259 : FnOK Tryz.prog 259 Tryz.f259 := fkz Tryz.func259
theorem fok260 : FnOK Tryz.prog 260 Tryz.f260 := fkz Tryz.func260
theorem fok261 : FnOK Tryz.prog 261 Tryz.f261 := fkz Tryz.func261
theorem tyAll : Tr.All (fun t i => TyOK Tryz.prog t i) (fun k => k) tyT := (.skip (.here tok1 (.here tok3 (.here tok7 (.here tok15 (.here tok31 (.here tok63 .nil .nil) (.skip .nil (.skip (.here tok351 .nil .nil) .nil))) (.skip (.skip .nil (.here tok207 .nil .nil)) .nil)) (.here tok23 (.here tok39 (.skip (.skip (.here tok263 .nil .nil) .nil) (.here tok199 .nil .nil)) .nil) (.here tok55 (.skip .nil (.here tok215 (.here tok343 .nil .nil) .nil)) (.skip (.skip (.here tok311 .nil .nil) .nil) (.skip (.here tok375 .nil .nil) .nil))))) (.here tok11 (.skip (.here tok35 .nil (.skip .nil (.skip (.here tok355 .nil .nil) .nil))) (.here tok51 .nil (.skip (.skip (.here tok307 .nil .nil) .nil) .nil))) (.here tok27 (.here tok43 (.here tok75 .nil .nil) .nil) (.here tok59 (.skip .nil (.skip (.here tok347 .nil .nil) .nil)) .nil)))) (.here tok5 (.here tok9 (.here tok17 (.here tok33 (.skip (.skip (.here tok257 .nil .nil) .nil) .nil) .nil) (.skip (.skip (.here tok145 .nil .nil) (.here tok209 .nil .nil)) (.skip .nil (.skip (.here tok369 .nil .nil) .nil)))) (.here tok25 (.here tok41 (.here tok73 .nil .nil) (.skip .nil (.skip (.here tok361 .nil .nil) .nil))) (.here tok57 (.skip .nil (.here tok217 .nil .nil)) (.skip .nil (.skip (.here tok377 .nil .nil) .nil))))) (.skip (.here tok21 (.here tok37 (.skip (.here tok133 (.here tok261 .nil .nil) .nil) (.here tok197 .nil .nil)) .nil) (.here tok53 (.skip .nil (.here tok213 (.here tok341 .nil .nil) .nil)) (.skip .nil (.skip (.here tok373 .nil .nil) .nil)))) (.here tok29 (.here tok45 .nil .nil) (.here tok61 .nil .nil))))) (.here tok2 (.here tok4 (.here tok8 (.here tok16 (.here tok32 (.here tok64 (.here tok128 .nil .nil) .nil) (.skip .nil (.skip (.here tok352 .nil .nil) .nil))) (.here tok48 .nil .nil)) (.here tok24 (.here tok40 (.skip (.skip (.here tok264 .nil .nil) .nil) .nil) .nil) (.here tok56 (.here tok88 .nil (.here tok216 .nil .nil)) (.skip .nil (.skip (.here tok376 .nil .nil) .nil))))) (.here tok12 (.here tok20 (.here tok36 (.skip (.skip (.here tok260 .nil .nil) .nil) (.here tok196 (.here tok324 .nil .nil) .nil)) .nil) (.here tok52 (.skip .nil (.here tok212 .nil .nil)) .nil)) (.here tok28 (.here tok44 .nil (.skip .nil (.skip (.here tok364 .nil .nil) .nil))) (.skip (.skip .nil (.skip (.here tok348 .nil .nil) .nil)) (.skip (.skip (.here tok316 .nil .nil) .nil) .nil))))) (.here tok6 (.here tok10 (.skip (.here tok34 .nil .nil) (.here tok50 .nil (.skip (.skip (.here tok306 .nil .nil) .nil) (.here tok242 .nil .nil)))) (.here tok26 (.here tok42 .nil (.here tok106 .nil (.skip (.here tok362 .nil .nil) .nil))) (.here tok58 (.here tok90 .nil .nil) (.skip (.here tok186 .nil .nil) (.skip (.here tok378 .nil .nil) .nil))))) (.skip (.here tok22 (.here tok38 .nil .nil) (.here tok54 (.skip (.here tok150 .nil .nil) .nil) (.skip .nil (.skip (.here tok374 .nil .nil) .nil)))) (.here tok30 (.here tok46 .nil (.here tok110 .nil .nil)) (.skip (.skip .nil (.skip (.here tok350 .nil .nil) .nil)) .nil))))))
theorem fnAll : Tr.All (fun f fn => FnOK Tryz.prog f fn) (fun k => k) fnT := (.skip (.skip (.here fok3 (.here fok7 (.skip (.here fok31 (.skip (.skip (.here fok255 .nil .nil) .nil) (.here fok191 .nil .nil)) (.here fok95 (.here fok159 .nil .nil) (.here fok223 .nil .nil))) (.skip .nil (.here fok111 (.here fok175 .nil .nil) .nil))) (.skip (.skip .nil (.here fok103 (.here fok167 .nil .nil) .nil)) (.here fok55 (.skip .nil (.here fok215 .nil .nil)) (.here fok119 (.here fok183 .nil .nil) (.here fok247 .nil .nil))))) (.here fok11 (.skip (.here fok35 (.skip (.skip (.here fok259 .nil .nil) .nil) .nil) (.here fok99 (.here fok163 .nil .nil) .nil)) (.here fok51 (.skip .nil (.here fok211 .nil .nil)) (.skip .nil (.here fok243 .nil .nil)))) (.here fok27 (.here fok43 .nil (.here fok107 (.here fok171 .nil .nil) .nil)) (.skip (.here fok91 (.here fok155 .nil .nil) (.here fok219 .nil .nil)) (.skip .nil (.here fok251 .nil .nil)))))) (.skip (.here fok9 (.skip (.here fok33 (.skip (.skip (.here fok257 .nil .nil) .nil) .nil) (.here fok97 (.here fok161 .nil .nil) (.here fok225 .nil .nil))) (.skip .nil (.skip (.here fok177 .nil .nil) .nil))) (.skip (.skip .nil (.here fok105 (.here fok169 .nil .nil) (.here fok233 .nil .nil))) (.here fok57 (.here fok89 .nil (.here fok217 .nil .nil)) (.here fok121 .nil (.here fok249 .nil .nil))))) (.skip (.skip (.here fok37 (.skip (.skip (.here fok261 .nil .nil) .nil) .nil) (.here fok101 (.here fok165 .nil .nil) .nil)) (.skip (.skip .nil (.here fok213 .nil .nil)) (.here fok117 .nil (.here fok245 .nil .nil)))) (.here fok29 (.skip .nil (.here fok109 (.here fok173 .nil .nil) .nil)) (.skip (.here fok93 (.here fok157 .nil .nil) (.here fok221 .nil .nil)) (.here fok125 .nil (.here fok253 .nil .nil))))))) (.skip (.skip (.here fok8 (.skip (.here fok32 (.skip (.skip (.here fok256 .nil .nil) .nil) (.here fok192 .nil .nil)) (.here fok96 (.here fok160 .nil .nil) (.here fok224 .nil .nil))) (.skip .nil (.here fok112 (.here fok176 .nil .nil) .nil))) (.skip (.skip .nil (.here fok104 (.here fok168 .nil .nil) (.here fok232 .nil .nil))) (.here fok56 (.here fok88 .nil (.here fok216 .nil .nil)) (.skip (.here fok184 .nil .nil) (.here fok248 .nil .nil))))) (.here fok12 (.skip (.here fok36 (.skip (.skip (.here fok260 .nil .nil) .nil) .nil) (.here fok100 (.here fok164 .nil .nil) .nil)) (.here fok52 (.skip .nil (.here fok212 .nil .nil)) (.here fok116 .nil (.here fok244 .nil .nil)))) (.here fok28 (.skip .nil (.here fok108 (.here fok172 .nil .nil) .nil)) (.skip (.here fok92 (.here fok156 .nil .nil) (.here fok220 .nil .nil)) (.here fok124 .nil (.here fok252 .nil .nil)))))) (.here fok6 (.here fok10 (.skip (.here fok34 (.skip (.skip (.here fok258 .nil .nil) .nil) .nil) (.here fok98 (.here fok162 .nil .nil) .nil)) (.here fok50 (.skip .nil (.here fok210 .nil .nil)) (.here fok114 (.here fok178 .nil .nil) (.here fok242 .nil .nil)))) (.here fok26 (.skip .nil (.here fok106 (.here fok170 .nil .nil) (.here fok234 .nil .nil))) (.skip (.here fok90 (.here fok154 .nil .nil) (.here fok218 .nil .nil)) (.skip (.here fok186 .nil .nil) (.here fok250 .nil .nil))))) (.skip (.skip (.here fok38 .nil (.here fok102 (.here fok166 .nil .nil) (.here fok230 .nil .nil))) (.skip (.skip .nil (.here fok214 .nil .nil)) (.here fok118 (.here fok182 .nil .nil) (.here fok246 .nil .nil)))) (.here fok30 (.skip .nil (.skip (.here fok174 .nil .nil) .nil)) (.skip (.here fok94 (.here fok158 .nil .nil) (.here fok222 .nil .nil)) (.skip (.here fok190 .nil .nil) .nil)))))))
theorem xok46 : ExtOK Tryz.prog 46 add64V := add64_ok (run_callFunc_extern Tryz.func46 (by kernel_rfl) (by kernel_rfl) (by kernel_rfl) (e := add64Entry) (by kernel_rfl))
theorem extAll : Tr.All (fun f e => ExtOK Tryz.prog f e) (fun k => k) extT := (.skip .nil (.skip .nil (.skip .nil (.skip .nil (.skip (.here xok46 .nil .nil) .nil)))))
theorem mtAll : Tr.All (fun t l => MtOK Tryz.prog t l) (fun k => k) mtT := .nil
theorem mpAll : Tr.All (fun t p => Tryz.prog.underlying t = some (.map p.1 p.2)) (fun k => k) mpT := .nil
theorem cfgOK : CfgOK Tryz.prog cfg := ⟨fun t i h => tyAll.at_ h, fun f e h => extAll.at_ h, fun t k e h => mpAll.at_ h, mtOf_ok fun t l h => mtAll.at_ h⟩
theorem fnsOK : FnsOK Tryz.prog cfg := fnsOK_of fun f fn h => fnAll.at_ h
theorem mixed : Tryz.prog.follows .mixedOrders = true := by kernel_rfl
end
end
end Go.Proofs.YtgeelfdgnehdnaaGreatDoor

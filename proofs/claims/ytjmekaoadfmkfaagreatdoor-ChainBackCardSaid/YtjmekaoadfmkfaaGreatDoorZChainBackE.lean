/-
  What the proof of ChainBack stands on, part 5. No condition.
-/
import Derived.Test.YtjmekaoadfmkfaaGreatDoorZChainBackD
set_option linter.unusedSimpArgs false
set_option linter.unusedVariables false
namespace Go.Proofs.YtjmekaoadfmkfaaGreatDoor
section
open Go.RowKit
section
set_option maxRecDepth 100000
theorem tkO{P:Program}{t:TypeId}{i:TyI}(d:i.d.Is P t)(s:(P.info? t).map (·.size)=some i.size:=by kernel_rfl)(b:(P.info? t).map (·.bytes)=some i.bytes:=by kernel_rfl)(z:∀ρ,(P.info? t).bind (·.zero)=some (conc ρ i.zero):=by intro ρ;kernel_rfl)(y:bare i.zero=true:=by kernel_rfl)(v:i.zero.isAgg=i.agg:=by kernel_rfl)(x:i.zero.size=i.size:=by kernel_rfl)(g:i.agg=false:=by kernel_rfl)(l:i.zero.leaf=true:=by kernel_rfl):TyOK P t i:=⟨s,b,z,zin_of y,d,fun h=>(by rw[g] at h;cases h),v,fun _=>l,x⟩
theorem tkU{P:Program}{t:TypeId}{i:TyI}(d:i.d.Is P t:=by show Program.underlying _ _=_;kernel_rfl)(s:(P.info? t).map (·.size)=some i.size:=by kernel_rfl)(b:(P.info? t).map (·.bytes)=some i.bytes:=by kernel_rfl)(z:∀ρ,(P.info? t).bind (·.zero)=some (conc ρ i.zero):=by intro ρ;kernel_rfl)(y:bare i.zero=true:=by kernel_rfl)(v:i.zero.isAgg=i.agg:=by kernel_rfl)(x:i.zero.size=i.size:=by kernel_rfl)(g:i.agg=false:=by kernel_rfl)(l:i.zero.leaf=true:=by kernel_rfl):TyOK P t i:=⟨s,b,z,zin_of y,d,fun h=>(by rw[g] at h;cases h),v,fun _=>l,x⟩
theorem tkR{P:Program}{t:TypeId}{i:TyI}(d:i.d.Is P t:=by exact⟨by kernel_rfl,by kernel_rfl⟩)(s:(P.info? t).map (·.size)=some i.size:=by kernel_rfl)(b:(P.info? t).map (·.bytes)=some i.bytes:=by kernel_rfl)(z:∀ρ,(P.info? t).bind (·.zero)=some (conc ρ i.zero):=by intro ρ;kernel_rfl)(y:bare i.zero=true:=by kernel_rfl)(v:i.zero.isAgg=i.agg:=by kernel_rfl)(x:i.zero.size=i.size:=by kernel_rfl)(e:P.eqGuardType P.depth t=false:=by kernel_rfl)(g:i.agg=true:=by kernel_rfl):TyOK P t i:=⟨s,b,z,zin_of y,d,fun _=>e,v,fun h=>(by rw[g] at h;cases h),x⟩
theorem tkS{P:Program}{t:TypeId}{i:TyI}(d:i.d.Is P t:=by exact⟨by kernel_rfl,by kernel_rfl,by kernel_rfl,by kernel_rfl,by kernel_rfl⟩)(s:(P.info? t).map (·.size)=some i.size:=by kernel_rfl)(b:(P.info? t).map (·.bytes)=some i.bytes:=by kernel_rfl)(z:∀ρ,(P.info? t).bind (·.zero)=some (conc ρ i.zero):=by intro ρ;kernel_rfl)(y:bare i.zero=true:=by kernel_rfl)(v:i.zero.isAgg=i.agg:=by kernel_rfl)(x:i.zero.size=i.size:=by kernel_rfl)(e:P.eqGuardType P.depth t=false:=by kernel_rfl)(g:i.agg=true:=by kernel_rfl):TyOK P t i:=⟨s,b,z,zin_of y,d,fun _=>e,v,fun h=>(by rw[g] at h;cases h),x⟩
theorem fkz{P:Program}{f:FuncId}{n:Func}(h:P.funcs[f]? =some n)(a:(n.name== "runtime.NumGoroutine")=false:=by kernel_rfl)(b:n.body.isSome=true:=by kernel_rfl)(k:(match n.body with|some c=>yUq n.ntmps c|none=>true)=true:=by kernel_rfl):FnOK P f n:=by
 obtain⟨c,e⟩:=Option.isSome_iff_exists.1 b;exact⟨h,Go.Proofs.enters_of h a e,k⟩
theorem tok1:TyOK Tryz.prog 1 ti1:=tkO (ycq Xw)
theorem tok2:TyOK Tryz.prog 2 ti2:=tkU
theorem tok3:TyOK Tryz.prog 3 ti3:=tkU
theorem tok4:TyOK Tryz.prog 4 ti4:=tkU
theorem tok5:TyOK Tryz.prog 5 ti5:=tkU
theorem tok6:TyOK Tryz.prog 6 ti6:=tkU
theorem tok7:TyOK Tryz.prog 7 ti7:=tkS
theorem tok8:TyOK Tryz.prog 8 ti8:=tkS
theorem tok9:TyOK Tryz.prog 9 ti9:=tkU
theorem tok11:TyOK Tryz.prog 11 ti11:=tkU
theorem tok12:TyOK Tryz.prog 12 ti12:=tkU
theorem tok17:TyOK Tryz.prog 17 ti17:=tkU
theorem tok20:TyOK Tryz.prog 20 ti20:=tkO (iface_of Xw)
theorem tok22:TyOK Tryz.prog 22 ti22:=tkU
theorem tok24:TyOK Tryz.prog 24 ti24:=tkS
theorem tok25:TyOK Tryz.prog 25 ti25:=tkR
theorem tok26:TyOK Tryz.prog 26 ti26:=tkR
theorem tok28:TyOK Tryz.prog 28 ti28:=tkS
theorem tok29:TyOK Tryz.prog 29 ti29:=tkU
theorem tok30:TyOK Tryz.prog 30 ti30:=tkU
theorem tok32:TyOK Tryz.prog 32 ti32:=tkS
theorem tok37:TyOK Tryz.prog 37 ti37:=tkU
theorem tok38:TyOK Tryz.prog 38 ti38:=tkU
theorem tok41:TyOK Tryz.prog 41 ti41:=tkU
theorem tok51:TyOK Tryz.prog 51 ti51:=tkO (ycq Xw)
theorem tok52:TyOK Tryz.prog 52 ti52:=tkU
theorem tok53:TyOK Tryz.prog 53 ti53:=tkU
theorem tok57:TyOK Tryz.prog 57 ti57:=tkS
theorem tok68:TyOK Tryz.prog 68 ti68:=tkU
theorem tok70:TyOK Tryz.prog 70 ti70:=tkS
theorem tok73:TyOK Tryz.prog 73 ti73:=tkU
theorem tok75:TyOK Tryz.prog 75 ti75:=tkS
theorem tok81:TyOK Tryz.prog 81 ti81:=tkS
theorem tok82:TyOK Tryz.prog 82 ti82:=tkU
theorem tok130:TyOK Tryz.prog 130 ti130:=tkO (ycq Xw)
theorem tok132:TyOK Tryz.prog 132 ti132:=tkS
theorem tok150:TyOK Tryz.prog 150 ti150:=tkO (ycq Xw)
theorem tok151:TyOK Tryz.prog 151 ti151:=tkO (ycq Xw)
theorem tok165:TyOK Tryz.prog 165 ti165:=tkS
theorem tok168:TyOK Tryz.prog 168 ti168:=tkU
theorem tok170:TyOK Tryz.prog 170 ti170:=tkS
theorem tok173:TyOK Tryz.prog 173 ti173:=tkS
theorem tok174:TyOK Tryz.prog 174 ti174:=tkO (ycq Xw)
theorem tok176:TyOK Tryz.prog 176 ti176:=tkO (ycq Xw)
theorem tok185:TyOK Tryz.prog 185 ti185:=tkS
theorem tok191:TyOK Tryz.prog 191 ti191:=tkO (ycq Xw)
theorem tok193:TyOK Tryz.prog 193 ti193:=tkO (ycq Xw)
theorem tok196:TyOK Tryz.prog 196 ti196:=tkO (ycq Xw)
theorem tok197:TyOK Tryz.prog 197 ti197:=tkO (ycq Xw)
theorem tok200:TyOK Tryz.prog 200 ti200:=tkO (ycq Xw)
theorem tok201:TyOK Tryz.prog 201 ti201:=tkO (ycq Xw)
theorem tok211:TyOK Tryz.prog 211 ti211:=tkO (ycq Xw)
theorem tok221:TyOK Tryz.prog 221 ti221:=tkO (ycq Xw)
theorem tok227:TyOK Tryz.prog 227 ti227:=tkO (ycq Xw)
theorem tok228:TyOK Tryz.prog 228 ti228:=tkO (ycq Xw)
theorem tok229:TyOK Tryz.prog 229 ti229:=tkO (ycq Xw)
theorem tok231:TyOK Tryz.prog 231 ti231:=tkO (ycq Xw)
theorem tok232:TyOK Tryz.prog 232 ti232:=tkO (ycq Xw)
theorem tok251:TyOK Tryz.prog 251 ti251:=tkO (ycq Xw)
theorem tok259:TyOK Tryz.prog 259 ti259:=tkO (ycq Xw)
theorem tok269:TyOK Tryz.prog 269 ti269:=tkO (ycq Xw)
theorem tok270:TyOK Tryz.prog 270 ti270:=tkO (ycq Xw)
theorem tok272:TyOK Tryz.prog 272 ti272:=tkO (ycq Xw)
theorem tok274:TyOK Tryz.prog 274 ti274:=tkO (ycq Xw)
theorem tok275:TyOK Tryz.prog 275 ti275:=tkR
theorem tok290:TyOK Tryz.prog 290 ti290:=tkU
theorem tok292:TyOK Tryz.prog 292 ti292:=tkS
theorem tok298:TyOK Tryz.prog 298 ti298:=tkO (ycq Xw)
theorem tok307:TyOK Tryz.prog 307 ti307:=tkU
theorem tok308:TyOK Tryz.prog 308 ti308:=tkS
theorem tok314:TyOK Tryz.prog 314 ti314:=tkS
theorem tok315:TyOK Tryz.prog 315 ti315:=tkU
theorem tok331:TyOK Tryz.prog 331 ti331:=tkR
theorem tok335:TyOK Tryz.prog 335 ti335:=tkO (ycq Xw)
theorem tok336:TyOK Tryz.prog 336 ti336:=tkO (ycq Xw)
theorem tok344:TyOK Tryz.prog 344 ti344:=tkU
theorem tok346:TyOK Tryz.prog 346 ti346:=tkR
theorem tok354:TyOK Tryz.prog 354 ti354:=tkU
theorem tok361:TyOK Tryz.prog 361 ti361:=tkO (ycq Xw)
theorem tok363:TyOK Tryz.prog 363 ti363:=tkU
theorem tok364:TyOK Tryz.prog 364 ti364:=tkR
theorem tok368:TyOK Tryz.prog 368 ti368:=tkO (ycq Xw)
theorem tok370:TyOK Tryz.prog 370 ti370:=tkU
theorem tok371:TyOK Tryz.prog 371 ti371:=tkO (ycq Xw)
theorem tok388:TyOK Tryz.prog 388 ti388:=tkU
theorem tok389:TyOK Tryz.prog 389 ti389:=tkU
theorem tok390:TyOK Tryz.prog 390 ti390:=tkO (ycq Xw)
theorem tok391:TyOK Tryz.prog 391 ti391:=tkU
theorem tok392:TyOK Tryz.prog 392 ti392:=tkU
theorem tok393:TyOK Tryz.prog 393 ti393:=tkU
theorem fok9:FnOK Tryz.prog 9 Tryz.f9:=fkz Tryz.func9
theorem fok15:FnOK Tryz.prog 15 Tryz.f15:=fkz Tryz.func15
theorem fok16:FnOK Tryz.prog 16 Tryz.f16:=fkz Tryz.func16
theorem fok19:FnOK Tryz.prog 19 Tryz.f19:=fkz Tryz.func19
theorem fok21:FnOK Tryz.prog 21 Tryz.f21:=fkz Tryz.func21
theorem fok23:FnOK Tryz.prog 23 Tryz.f23:=fkz Tryz.func23
theorem fok25:FnOK Tryz.prog 25 Tryz.f25:=fkz Tryz.func25
theorem fok28:FnOK Tryz.prog 28 Tryz.f28:=fkz Tryz.func28
theorem fok29:FnOK Tryz.prog 29 Tryz.f29:=fkz Tryz.func29
theorem fok30:FnOK Tryz.prog 30 Tryz.f30:=fkz Tryz.func30
theorem fok31:FnOK Tryz.prog 31 Tryz.f31:=fkz Tryz.func31
theorem fok32:FnOK Tryz.prog 32 Tryz.f32:=fkz Tryz.func32
theorem fok33:FnOK Tryz.prog 33 Tryz.f33:=fkz Tryz.func33
theorem fok54:FnOK Tryz.prog 54 Tryz.f54:=fkz Tryz.func54
theorem fok56:FnOK Tryz.prog 56 Tryz.f56:=fkz Tryz.func56
theorem fok58:FnOK Tryz.prog 58 Tryz.f58:=fkz Tryz.func58
theorem fok63:FnOK Tryz.prog 63 Tryz.f63:=fkz Tryz.func63
theorem fok64:FnOK Tryz.prog 64 Tryz.f64:=fkz Tryz.func64
theorem fok65:FnOK Tryz.prog 65 Tryz.f65:=fkz Tryz.func65
theorem fok66:FnOK Tryz.prog 66 Tryz.f66:=fkz Tryz.func66
theorem fok67:FnOK Tryz.prog 67 Tryz.f67:=fkz Tryz.func67
theorem fok71:FnOK Tryz.prog 71 Tryz.f71:=fkz Tryz.func71
theorem fok76:FnOK Tryz.prog 76 Tryz.f76:=fkz Tryz.func76
theorem fok91:FnOK Tryz.prog 91 Tryz.f91:=fkz Tryz.func91
theorem fok92:FnOK Tryz.prog 92 Tryz.f92:=fkz Tryz.func92
theorem fok93:FnOK Tryz.prog 93 Tryz.f93:=fkz Tryz.func93
theorem fok94:FnOK Tryz.prog 94 Tryz.f94:=fkz Tryz.func94
theorem fok95:FnOK Tryz.prog 95 Tryz.f95:=fkz Tryz.func95
theorem fok96:FnOK Tryz.prog 96 Tryz.f96:=fkz Tryz.func96
theorem fok101:FnOK Tryz.prog 101 Tryz.f101:=fkz Tryz.func101
theorem fok105:FnOK Tryz.prog 105 Tryz.f105:=fkz Tryz.func105
theorem fok106:FnOK Tryz.prog 106 Tryz.f106:=fkz Tryz.func106
theorem fok107:FnOK Tryz.prog 107 Tryz.f107:=fkz Tryz.func107
theorem fok108:FnOK Tryz.prog 108 Tryz.f108:=fkz Tryz.func108
theorem fok109:FnOK Tryz.prog 109 Tryz.f109:=fkz Tryz.func109
theorem fok110:FnOK Tryz.prog 110 Tryz.f110:=fkz Tryz.func110
theorem fok111:FnOK Tryz.prog 111 Tryz.f111:=fkz Tryz.func111
theorem fok112:FnOK Tryz.prog 112 Tryz.f112:=fkz Tryz.func112
theorem fok113:FnOK Tryz.prog 113 Tryz.f113:=fkz Tryz.func113
theorem fok114:FnOK Tryz.prog 114 Tryz.f114:=fkz Tryz.func114
theorem fok115:FnOK Tryz.prog 115 Tryz.f115:=fkz Tryz.func115
theorem fok116:FnOK Tryz.prog 116 Tryz.f116:=fkz Tryz.func116
theorem fok117:FnOK Tryz.prog 117 Tryz.f117:=fkz Tryz.func117
theorem fok129:FnOK Tryz.prog 129 Tryz.f129:=fkz Tryz.func129
theorem fok130:FnOK Tryz.prog 130 Tryz.f130:=fkz Tryz.func130
theorem fok134:FnOK Tryz.prog 134 Tryz.f134:=fkz Tryz.func134
theorem fok140:FnOK Tryz.prog 140 Tryz.f140:=fkz Tryz.func140
theorem fok142:FnOK Tryz.prog 142 Tryz.f142:=fkz Tryz.func142
theorem fok143:FnOK Tryz.prog 143 Tryz.f143:=fkz Tryz.func143
theorem fok144:FnOK Tryz.prog 144 Tryz.f144:=fkz Tryz.func144
theorem fok151:FnOK Tryz.prog 151 Tryz.f151:=fkz Tryz.func151
theorem fok163:FnOK Tryz.prog 163 Tryz.f163:=fkz Tryz.func163
theorem fok164:FnOK Tryz.prog 164 Tryz.f164:=fkz Tryz.func164
theorem fok165:FnOK Tryz.prog 165 Tryz.f165:=fkz Tryz.func165
theorem fok166:FnOK Tryz.prog 166 Tryz.f166:=fkz Tryz.func166
theorem fok167:FnOK Tryz.prog 167 Tryz.f167:=fkz Tryz.func167
theorem fok168:FnOK Tryz.prog 168 Tryz.f168:=fkz Tryz.func168
theorem fok169:FnOK Tryz.prog 169 Tryz.f169:=fkz Tryz.func169
theorem fok170:FnOK Tryz.prog 170 Tryz.f170:=fkz Tryz.func170
theorem fok184:FnOK Tryz.prog 184 Tryz.f184:=fkz Tryz.func184
theorem fok185:FnOK Tryz.prog 185 Tryz.f185:=fkz Tryz.func185
theorem fok186:FnOK Tryz.prog 186 Tryz.f186:=fkz Tryz.func186
theorem fok187:FnOK Tryz.prog 187 Tryz.f187:=fkz Tryz.func187
theorem fok188:FnOK Tryz.prog 188 Tryz.f188:=fkz Tryz.func188
theorem fok189:FnOK Tryz.prog 189 Tryz.f189:=fkz Tryz.func189
theorem fok190:FnOK Tryz.prog 190 Tryz.f190:=fkz Tryz.func190
theorem fok191:FnOK Tryz.prog 191 Tryz.f191:=fkz Tryz.func191
theorem fok192:FnOK Tryz.prog 192 Tryz.f192:=fkz Tryz.func192
theorem fok193:FnOK Tryz.prog 193 Tryz.f193:=fkz Tryz.func193
theorem fok194:FnOK Tryz.prog 194 Tryz.f194:=fkz Tryz.func194
theorem fok202:FnOK Tryz.prog 202 Tryz.f202:=fkz Tryz.func202
theorem fok203:FnOK Tryz.prog 203 Tryz.f203:=fkz Tryz.func203
theorem fok204:FnOK Tryz.prog 204 Tryz.f204:=fkz Tryz.func204
theorem fok208:FnOK Tryz.prog 208 Tryz.f208:=fkz Tryz.func208
theorem fok209:FnOK Tryz.prog 209 Tryz.f209:=fkz Tryz.func209
theorem fok210:FnOK Tryz.prog 210 Tryz.f210:=fkz Tryz.func210
theorem fok211:FnOK Tryz.prog 211 Tryz.f211:=fkz Tryz.func211
theorem fok212:FnOK Tryz.prog 212 Tryz.f212:=fkz Tryz.func212
theorem fok213:FnOK Tryz.prog 213 Tryz.f213:=fkz Tryz.func213
theorem fok214:FnOK Tryz.prog 214 Tryz.f214:=fkz Tryz.func214
theorem fok220:FnOK Tryz.prog 220 Tryz.f220:=fkz Tryz.func220
theorem fok221:FnOK Tryz.prog 221 Tryz.f221:=fkz Tryz.func221
theorem fok222:FnOK Tryz.prog 222 Tryz.f222:=fkz Tryz.func222
theorem fok223:FnOK Tryz.prog 223 Tryz.f223:=fkz Tryz.func223
theorem fok224:FnOK Tryz.prog 224 Tryz.f224:=fkz Tryz.func224
theorem fok225:FnOK Tryz.prog 225 Tryz.f225:=fkz Tryz.func225
theorem fok226:FnOK Tryz.prog 226 Tryz.f226:=fkz Tryz.func226
theorem fok227:FnOK Tryz.prog 227 Tryz.f227:=fkz Tryz.func227
theorem fok228:FnOK Tryz.prog 228 Tryz.f228:=fkz Tryz.func228
theorem fok229:FnOK Tryz.prog 229 Tryz.f229:=fkz Tryz.func229
theorem fok231:FnOK Tryz.prog 231 Tryz.f231:=fkz Tryz.func231
theorem fok232:FnOK Tryz.prog 232 Tryz.f232:=fkz Tryz.func232
theorem fok233:FnOK Tryz.prog 233 Tryz.f233:=fkz Tryz.func233
theorem fok245:FnOK Tryz.prog 245 Tryz.f245:=fkz Tryz.func245
theorem fok246:FnOK Tryz.prog 246 Tryz.f246:=fkz Tryz.func246
theorem fok247:FnOK Tryz.prog 247 Tryz.f247:=fkz Tryz.func247
theorem fok248:FnOK Tryz.prog 248 Tryz.f248:=fkz Tryz.func248
theorem fok249:FnOK Tryz.prog 249 Tryz.f249:=fkz Tryz.func249
theorem fok250:FnOK Tryz.prog 250 Tryz.f250:=fkz Tryz.func250
theorem fok251:FnOK Tryz.prog 251 Tryz.f251:=fkz Tryz.func251
theorem fok252:FnOK Tryz.prog 252 Tryz.f252:=fkz Tryz.func252
theorem fok254:FnOK Tryz.prog 254 Tryz.f254:=fkz Tryz.func254
theorem fok256:FnOK Tryz.prog 256 Tryz.f256:=fkz Tryz.func256
theorem fok257:FnOK Tryz.prog 257 Tryz.f257:=fkz Tryz.func257
theorem fok258:FnOK Tryz.prog 258 Tryz.f258:=fkz Tryz.func258
theorem fok260:FnOK Tryz.prog 260 Tryz.f260:=fkz Tryz.func260
theorem fok261:FnOK Tryz.prog 261 Tryz.f261:=fkz Tryz.func261
theorem fok264:FnOK Tryz.prog 264 Tryz.f264:=fkz Tryz.func264
theorem fok265:FnOK Tryz.prog 265 Tryz.f265:=fkz Tryz.func265
theorem fok266:FnOK Tryz.prog 266 Tryz.f266:=fkz Tryz.func266
theorem fok267:FnOK Tryz.prog 267 Tryz.f267:=fkz Tryz.func267
theorem fok268:FnOK Tryz.prog 268 Tryz.f268:=fkz Tryz.func268
theorem fok274:FnOK Tryz.prog 274 Tryz.f274:=fkz Tryz.func274
theorem fok275:FnOK Tryz.prog 275 Tryz.f275:=fkz Tryz.func275
theorem fok276:FnOK Tryz.prog 276 Tryz.f276:=fkz Tryz.func276
theorem fok279:FnOK Tryz.prog 279 Tryz.f279:=fkz Tryz.func279
theorem fok281:FnOK Tryz.prog 281 Tryz.f281:=fkz Tryz.func281
theorem fok282:FnOK Tryz.prog 282 Tryz.f282:=fkz Tryz.func282
theorem fok283:FnOK Tryz.prog 283 Tryz.f283:=fkz Tryz.func283
theorem fok284:FnOK Tryz.prog 284 Tryz.f284:=fkz Tryz.func284
theorem fok285:FnOK Tryz.prog 285 Tryz.f285:=fkz Tryz.func285
theorem fok286:FnOK Tryz.prog 286 Tryz.f286:=fkz Tryz.func286
theorem fok287:FnOK Tryz.prog 287 Tryz.f287:=fkz Tryz.func287
theorem fok289:FnOK Tryz.prog 289 Tryz.f289:=fkz Tryz.func289
theorem fok290:FnOK Tryz.prog 290 Tryz.f290:=fkz Tryz.func290
theorem fok291:FnOK Tryz.prog 291 Tryz.f291:=fkz Tryz.func291
theorem fok296:FnOK Tryz.prog 296 Tryz.f296:=fkz Tryz.func296
theorem fok297:FnOK Tryz.prog 297 Tryz.f297:=fkz Tryz.func297
theorem tyAll:Tr.All (fun t i=>TyOK Tryz.prog t i) (fun k=>k) tyT:=(.skip (.here tok1 (.here tok3 (.here tok7 (.skip (.skip (.skip .nil (.here tok191 .nil .nil)) .nil) (.skip (.skip .nil (.skip (.here tok335 .nil .nil) .nil)) .nil)) (.skip (.skip (.skip (.skip .nil (.here tok391 .nil .nil)) .nil) (.skip .nil (.here tok231 .nil .nil))) (.skip (.skip (.here tok151 .nil .nil) .nil) .nil))) (.here tok11 (.skip (.skip (.skip (.skip (.here tok259 .nil .nil) .nil) .nil) (.skip .nil (.here tok227 .nil .nil))) (.here tok51 (.skip (.skip (.here tok275 .nil .nil) .nil) (.here tok211 .nil .nil)) (.skip (.skip (.here tok307 .nil .nil) .nil) (.skip (.here tok371 .nil .nil) .nil)))) (.skip (.skip (.here tok75 .nil (.skip (.here tok331 .nil .nil) .nil)) (.skip .nil (.skip (.here tok363 .nil .nil) .nil))) (.skip .nil (.skip (.skip (.here tok315 .nil .nil) .nil) (.here tok251 .nil .nil)))))) (.here tok5 (.here tok9 (.here tok17 (.skip (.skip .nil (.here tok193 .nil .nil)) .nil) (.skip (.here tok81 .nil .nil) .nil)) (.here tok25 (.here tok41 (.here tok73 (.skip .nil (.here tok393 .nil .nil)) (.here tok201 .nil .nil)) (.skip .nil (.skip (.here tok361 .nil .nil) .nil))) (.here tok57 .nil (.skip (.here tok185 .nil .nil) .nil)))) (.skip (.skip (.here tok37 (.skip (.skip .nil (.here tok389 .nil .nil)) (.here tok197 .nil .nil)) (.skip (.here tok165 .nil .nil) (.here tok229 .nil .nil))) (.here tok53 .nil .nil)) (.here tok29 (.skip (.skip (.skip (.here tok269 .nil .nil) .nil) .nil) (.skip (.here tok173 .nil .nil) .nil)) (.skip (.skip .nil (.here tok221 .nil .nil)) .nil))))) (.here tok2 (.here tok4 (.here tok8 (.skip (.here tok32 .nil .nil) (.skip (.skip (.skip (.here tok272 .nil .nil) .nil) (.skip (.here tok336 .nil .nil) .nil)) (.skip (.here tok176 .nil .nil) (.skip (.here tok368 .nil .nil) .nil)))) (.here tok24 (.skip (.skip (.skip .nil (.here tok392 .nil .nil)) (.here tok200 .nil .nil)) (.skip (.here tok168 .nil .nil) (.here tok232 .nil .nil))) (.skip (.skip .nil (.skip (.here tok344 .nil .nil) .nil)) .nil))) (.here tok12 (.here tok20 (.skip (.here tok68 (.here tok132 .nil (.here tok388 .nil .nil)) (.here tok196 .nil .nil)) (.skip (.skip (.here tok292 .nil .nil) .nil) (.here tok228 .nil .nil))) (.here tok52 .nil (.skip (.skip (.here tok308 .nil .nil) .nil) .nil))) (.here tok28 (.skip .nil (.skip .nil (.skip (.here tok364 .nil .nil) .nil))) .nil))) (.here tok6 (.skip (.skip (.skip (.skip (.here tok130 .nil .nil) .nil) (.skip (.skip (.here tok290 .nil .nil) .nil) (.skip (.here tok354 .nil .nil) .nil))) (.skip (.here tok82 (.skip (.here tok274 .nil .nil) .nil) .nil) (.skip .nil (.skip (.here tok370 .nil .nil) .nil)))) (.here tok26 (.skip .nil (.skip (.here tok170 (.here tok298 .nil .nil) .nil) .nil)) (.skip (.skip .nil (.skip (.here tok346 .nil .nil) .nil)) (.skip (.skip (.here tok314 .nil .nil) .nil) .nil)))) (.skip (.here tok22 (.here tok38 (.here tok70 (.skip .nil (.here tok390 .nil .nil)) .nil) .nil) (.skip (.skip (.here tok150 .nil .nil) .nil) .nil)) (.here tok30 (.skip (.skip (.skip (.here tok270 .nil .nil) .nil) .nil) (.skip (.here tok174 .nil .nil) .nil)) .nil)))))
theorem fnAll:Tr.All (fun f fn=>FnOK Tryz.prog f fn) (fun k=>k) fnT:=(.skip (.skip (.skip (.skip (.here fok15 (.here fok31 (.here fok63 .nil (.here fok191 .nil .nil)) (.here fok95 (.skip (.here fok287 .nil .nil) .nil) (.here fok223 .nil .nil))) (.skip (.skip (.here fok143 .nil .nil) .nil) (.here fok111 .nil .nil))) (.here fok23 (.skip (.here fok71 .nil .nil) (.skip (.here fok167 .nil .nil) (.here fok231 .nil .nil))) (.skip (.skip (.here fok151 (.here fok279 .nil .nil) .nil) .nil) (.skip .nil (.here fok247 .nil .nil))))) (.skip (.here fok19 (.skip (.here fok67 .nil .nil) (.skip (.here fok163 (.here fok291 .nil .nil) .nil) (.here fok227 .nil .nil))) (.skip (.skip (.skip (.here fok275 .nil .nil) .nil) (.here fok211 .nil .nil)) (.here fok115 .nil .nil))) (.skip (.skip (.skip (.skip (.here fok267 .nil .nil) .nil) (.here fok203 .nil .nil)) (.here fok107 .nil .nil)) (.skip (.here fok91 (.skip (.here fok283 .nil .nil) .nil) .nil) (.skip (.here fok187 .nil .nil) (.here fok251 .nil .nil)))))) (.skip (.here fok9 (.skip (.here fok33 (.here fok65 (.here fok129 (.here fok257 .nil .nil) .nil) (.here fok193 .nil .nil)) (.skip (.skip (.here fok289 .nil .nil) .nil) (.here fok225 .nil .nil))) (.skip (.skip .nil (.here fok209 .nil .nil)) (.here fok113 .nil .nil))) (.here fok25 (.skip (.skip (.skip (.here fok265 .nil .nil) .nil) .nil) (.here fok105 (.here fok169 (.here fok297 .nil .nil) .nil) (.here fok233 .nil .nil))) (.skip (.skip (.skip (.here fok281 .nil .nil) .nil) .nil) (.skip (.here fok185 .nil .nil) (.here fok249 .nil .nil))))) (.skip (.here fok21 (.skip (.skip (.skip (.here fok261 .nil .nil) .nil) .nil) (.here fok101 (.here fok165 .nil .nil) (.here fok229 .nil .nil))) (.skip (.skip .nil (.here fok213 .nil .nil)) (.here fok117 .nil (.here fok245 .nil .nil)))) (.here fok29 (.skip .nil (.here fok109 .nil .nil)) (.skip (.here fok93 (.skip (.here fok285 .nil .nil) .nil) (.here fok221 .nil .nil)) (.skip (.here fok189 .nil .nil) .nil)))))) (.skip (.skip (.skip (.here fok16 (.here fok32 (.here fok64 (.skip (.here fok256 .nil .nil) .nil) (.here fok192 .nil .nil)) (.here fok96 .nil (.here fok224 .nil .nil))) (.skip (.skip (.here fok144 .nil .nil) (.here fok208 .nil .nil)) (.here fok112 .nil .nil))) (.skip (.skip (.skip (.skip (.here fok264 .nil .nil) .nil) .nil) (.skip (.here fok168 (.here fok296 .nil .nil) .nil) (.here fok232 .nil .nil))) (.here fok56 .nil (.skip (.here fok184 .nil .nil) (.here fok248 .nil .nil))))) (.skip (.skip (.skip (.skip (.skip (.here fok260 .nil .nil) .nil) .nil) (.skip (.here fok164 .nil .nil) (.here fok228 .nil .nil))) (.skip (.skip (.skip (.here fok276 .nil .nil) .nil) (.here fok212 .nil .nil)) (.here fok116 .nil .nil))) (.here fok28 (.skip (.here fok76 (.here fok140 (.here fok268 .nil .nil) .nil) (.here fok204 .nil .nil)) (.here fok108 .nil .nil)) (.skip (.here fok92 (.skip (.here fok284 .nil .nil) .nil) (.here fok220 .nil .nil)) (.skip (.here fok188 .nil .nil) (.here fok252 .nil .nil)))))) (.skip (.skip (.skip (.skip (.here fok66 (.here fok130 (.here fok258 .nil .nil) .nil) (.here fok194 .nil .nil)) (.skip (.skip (.here fok290 .nil .nil) .nil) (.here fok226 .nil .nil))) (.skip (.skip (.skip (.here fok274 .nil .nil) .nil) (.here fok210 .nil .nil)) (.here fok114 .nil .nil))) (.skip (.skip (.skip (.skip (.here fok266 .nil .nil) .nil) (.here fok202 .nil .nil)) (.here fok106 (.here fok170 .nil .nil) .nil)) (.here fok58 (.skip (.skip (.here fok282 .nil .nil) .nil) .nil) (.skip (.here fok186 .nil .nil) (.here fok250 .nil .nil))))) (.skip (.skip (.skip (.skip (.here fok134 .nil .nil) .nil) (.skip (.here fok166 .nil .nil) .nil)) (.here fok54 (.skip .nil (.here fok214 .nil .nil)) (.skip .nil (.here fok246 .nil .nil)))) (.here fok30 (.skip (.skip (.here fok142 .nil .nil) .nil) (.here fok110 .nil .nil)) (.skip (.here fok94 (.skip (.here fok286 .nil .nil) .nil) (.here fok222 .nil .nil)) (.skip (.here fok190 .nil .nil) (.here fok254 .nil .nil))))))))
theorem xok230:ExtOK Tryz.prog 230 add64V:=add64_ok (run_callFunc_extern Tryz.func230 Xw Xw Xw (e:=add64Entry) Xw)
theorem extAll:Tr.All (fun f e=>ExtOK Tryz.prog f e) (fun k=>k) extT:=(.skip .nil (.skip .nil (.skip .nil (.skip (.skip (.skip .nil (.skip .nil (.here xok230 .nil .nil))) .nil) .nil))))
theorem mtAll:Tr.All (fun t l=>MtOK Tryz.prog t l) (fun k=>k) mtT:=.nil
theorem mpAll:Tr.All (fun t p=>Tryz.prog.underlying t=some (.map p.1 p.2)) (fun k=>k) mpT:=.nil
theorem cfgOK:CfgOK Tryz.prog cfg:=⟨fun t i h=>tyAll.at_ h,fun f e h=>extAll.at_ h,fun t k e h=>mpAll.at_ h,mtOf_ok fun t l h=>mtAll.at_ h⟩
theorem fnsOK:FnsOK Tryz.prog cfg:=fnsOK_of fun f fn h=>fnAll.at_ h
theorem mixed:Tryz.prog.follows .mixedOrders=true:=by kernel_rfl
end
end
end Go.Proofs.YtjmekaoadfmkfaaGreatDoor

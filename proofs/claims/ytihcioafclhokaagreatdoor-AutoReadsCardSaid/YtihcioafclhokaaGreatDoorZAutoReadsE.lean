/-
  What the proof of AutoReads stands on, part 5. No condition.
-/
import Derived.Test.YtihcioafclhokaaGreatDoorZAutoReadsD
set_option linter.unusedSimpArgs false
set_option linter.unusedVariables false
namespace Go.Proofs.YtihcioafclhokaaGreatDoor
section
open Go.RowKit
section
set_option maxRecDepth 100000
theorem tkO{P:Program}{t:TypeId}{i:TyI}(d:i.d.Is P t)(s:(P.info? t).map (·.size)=some i.size:=by kernel_rfl)(b:(P.info? t).map (·.bytes)=some i.bytes:=by kernel_rfl)(z:∀ρ,(P.info? t).bind (·.zero)=some (conc ρ i.zero):=by intro ρ;kernel_rfl)(y:bare i.zero=true:=by kernel_rfl)(v:i.zero.isAgg=i.agg:=by kernel_rfl)(x:i.zero.size=i.size:=by kernel_rfl)(g:i.agg=false:=by kernel_rfl)(l:i.zero.leaf=true:=by kernel_rfl):TyOK P t i:=⟨s,b,z,zin_of y,d,λh=>(by rw[g] at h;cases h),v,λ_=>l,x⟩
theorem tkU{P:Program}{t:TypeId}{i:TyI}(d:i.d.Is P t:=by show Program.underlying _ _=_;kernel_rfl)(s:(P.info? t).map (·.size)=some i.size:=by kernel_rfl)(b:(P.info? t).map (·.bytes)=some i.bytes:=by kernel_rfl)(z:∀ρ,(P.info? t).bind (·.zero)=some (conc ρ i.zero):=by intro ρ;kernel_rfl)(y:bare i.zero=true:=by kernel_rfl)(v:i.zero.isAgg=i.agg:=by kernel_rfl)(x:i.zero.size=i.size:=by kernel_rfl)(g:i.agg=false:=by kernel_rfl)(l:i.zero.leaf=true:=by kernel_rfl):TyOK P t i:=⟨s,b,z,zin_of y,d,λh=>(by rw[g] at h;cases h),v,λ_=>l,x⟩
theorem tkR{P:Program}{t:TypeId}{i:TyI}(d:i.d.Is P t:=by exact⟨by kernel_rfl,by kernel_rfl⟩)(s:(P.info? t).map (·.size)=some i.size:=by kernel_rfl)(b:(P.info? t).map (·.bytes)=some i.bytes:=by kernel_rfl)(z:∀ρ,(P.info? t).bind (·.zero)=some (conc ρ i.zero):=by intro ρ;kernel_rfl)(y:bare i.zero=true:=by kernel_rfl)(v:i.zero.isAgg=i.agg:=by kernel_rfl)(x:i.zero.size=i.size:=by kernel_rfl)(e:P.eqGuardType P.depth t=false:=by kernel_rfl)(g:i.agg=true:=by kernel_rfl):TyOK P t i:=⟨s,b,z,zin_of y,d,λ_=>e,v,λh=>(by rw[g] at h;cases h),x⟩
theorem tkS{P:Program}{t:TypeId}{i:TyI}(d:i.d.Is P t:=by exact⟨by kernel_rfl,by kernel_rfl,by kernel_rfl,by kernel_rfl,by kernel_rfl⟩)(s:(P.info? t).map (·.size)=some i.size:=by kernel_rfl)(b:(P.info? t).map (·.bytes)=some i.bytes:=by kernel_rfl)(z:∀ρ,(P.info? t).bind (·.zero)=some (conc ρ i.zero):=by intro ρ;kernel_rfl)(y:bare i.zero=true:=by kernel_rfl)(v:i.zero.isAgg=i.agg:=by kernel_rfl)(x:i.zero.size=i.size:=by kernel_rfl)(e:P.eqGuardType P.depth t=false:=by kernel_rfl)(g:i.agg=true:=by kernel_rfl):TyOK P t i:=⟨s,b,z,zin_of y,d,λ_=>e,v,λh=>(by rw[g] at h;cases h),x⟩
theorem fkz{P:Program}{f:FuncId}{n:Func}(h:P.funcs[f]? =some n)(a:(n.name== "runtime.NumGoroutine")=false:=by kernel_rfl)(b:n.body.isSome=true:=by kernel_rfl)(k:(match n.body with|some c=>yAq n.ntmps c|none=>true)=true:=by kernel_rfl):FnOK P f n:=by
 obtain⟨c,e⟩:=Option.isSome_iff_exists.1 b;exact⟨h,Go.Proofs.enters_of h a e,k⟩
theorem tok1:TyOK Tryz.prog 1 ti1:=tkO (zCq Xt)
theorem tok2:TyOK Tryz.prog 2 ti2:=tkU
theorem tok3:TyOK Tryz.prog 3 ti3:=tkU
theorem tok4:TyOK Tryz.prog 4 ti4:=tkU
theorem tok5:TyOK Tryz.prog 5 ti5:=tkU
theorem tok6:TyOK Tryz.prog 6 ti6:=tkU
theorem tok7:TyOK Tryz.prog 7 ti7:=tkS
theorem tok8:TyOK Tryz.prog 8 ti8:=tkS
theorem tok9:TyOK Tryz.prog 9 ti9:=tkU
theorem tok10:TyOK Tryz.prog 10 ti10:=tkU
theorem tok11:TyOK Tryz.prog 11 ti11:=tkU
theorem tok12:TyOK Tryz.prog 12 ti12:=tkU
theorem tok15:TyOK Tryz.prog 15 ti15:=tkU
theorem tok16:TyOK Tryz.prog 16 ti16:=tkU
theorem tok17:TyOK Tryz.prog 17 ti17:=tkU
theorem tok20:TyOK Tryz.prog 20 ti20:=tkO (iface_of Xt)
theorem tok21:TyOK Tryz.prog 21 ti21:=tkU
theorem tok22:TyOK Tryz.prog 22 ti22:=tkU
theorem tok23:TyOK Tryz.prog 23 ti23:=tkS
theorem tok24:TyOK Tryz.prog 24 ti24:=tkS
theorem tok25:TyOK Tryz.prog 25 ti25:=tkU
theorem tok26:TyOK Tryz.prog 26 ti26:=tkS
theorem tok27:TyOK Tryz.prog 27 ti27:=tkS
theorem tok28:TyOK Tryz.prog 28 ti28:=tkR
theorem tok29:TyOK Tryz.prog 29 ti29:=tkR
theorem tok30:TyOK Tryz.prog 30 ti30:=tkO (zCq Xt)
theorem tok31:TyOK Tryz.prog 31 ti31:=tkO (zCq Xt)
theorem tok32:TyOK Tryz.prog 32 ti32:=tkS
theorem tok33:TyOK Tryz.prog 33 ti33:=tkS
theorem tok34:TyOK Tryz.prog 34 ti34:=tkU
theorem tok36:TyOK Tryz.prog 36 ti36:=tkO (zCq Xt)
theorem tok38:TyOK Tryz.prog 38 ti38:=tkO (zCq Xt)
theorem tok40:TyOK Tryz.prog 40 ti40:=tkO (zCq Xt)
theorem tok42:TyOK Tryz.prog 42 ti42:=tkO (zCq Xt)
theorem tok44:TyOK Tryz.prog 44 ti44:=tkO (zCq Xt)
theorem tok46:TyOK Tryz.prog 46 ti46:=tkO (zCq Xt)
theorem tok47:TyOK Tryz.prog 47 ti47:=tkO (zCq Xt)
theorem tok48:TyOK Tryz.prog 48 ti48:=tkO (zCq Xt)
theorem tok49:TyOK Tryz.prog 49 ti49:=tkO (zCq Xt)
theorem tok50:TyOK Tryz.prog 50 ti50:=tkO (zCq Xt)
theorem tok51:TyOK Tryz.prog 51 ti51:=tkO (zCq Xt)
theorem tok52:TyOK Tryz.prog 52 ti52:=tkO (zCq Xt)
theorem tok53:TyOK Tryz.prog 53 ti53:=tkU
theorem tok54:TyOK Tryz.prog 54 ti54:=tkU
theorem tok55:TyOK Tryz.prog 55 ti55:=tkU
theorem tok56:TyOK Tryz.prog 56 ti56:=tkS
theorem tok57:TyOK Tryz.prog 57 ti57:=tkS
theorem tok58:TyOK Tryz.prog 58 ti58:=tkO (zCq Xt)
theorem tok59:TyOK Tryz.prog 59 ti59:=tkO (zCq Xt)
theorem tok60:TyOK Tryz.prog 60 ti60:=tkO (zCq Xt)
theorem tok61:TyOK Tryz.prog 61 ti61:=tkO (zCq Xt)
theorem tok62:TyOK Tryz.prog 62 ti62:=tkO (zCq Xt)
theorem tok63:TyOK Tryz.prog 63 ti63:=tkO (zCq Xt)
theorem tok67:TyOK Tryz.prog 67 ti67:=tkS
theorem tok88:TyOK Tryz.prog 88 ti88:=tkS
theorem tok89:TyOK Tryz.prog 89 ti89:=tkU
theorem tok91:TyOK Tryz.prog 91 ti91:=tkS
theorem tok93:TyOK Tryz.prog 93 ti93:=tkS
theorem tok96:TyOK Tryz.prog 96 ti96:=tkS
theorem tok98:TyOK Tryz.prog 98 ti98:=tkS
theorem tok99:TyOK Tryz.prog 99 ti99:=tkU
theorem tok100:TyOK Tryz.prog 100 ti100:=tkU
theorem tok102:TyOK Tryz.prog 102 ti102:=tkS
theorem tok104:TyOK Tryz.prog 104 ti104:=tkS
theorem tok106:TyOK Tryz.prog 106 ti106:=tkS
theorem tok108:TyOK Tryz.prog 108 ti108:=tkS
theorem tok128:TyOK Tryz.prog 128 ti128:=tkO (zCq Xt)
theorem tok153:TyOK Tryz.prog 153 ti153:=tkU
theorem tok155:TyOK Tryz.prog 155 ti155:=tkS
theorem tok163:TyOK Tryz.prog 163 ti163:=tkS
theorem tok165:TyOK Tryz.prog 165 ti165:=tkO (zCq Xt)
theorem tok166:TyOK Tryz.prog 166 ti166:=tkO (zCq Xt)
theorem tok167:TyOK Tryz.prog 167 ti167:=tkO (zCq Xt)
theorem tok186:TyOK Tryz.prog 186 ti186:=tkS
theorem tok191:TyOK Tryz.prog 191 ti191:=tkS
theorem tok206:TyOK Tryz.prog 206 ti206:=tkO (zCq Xt)
theorem tok211:TyOK Tryz.prog 211 ti211:=tkO (zCq Xt)
theorem tok212:TyOK Tryz.prog 212 ti212:=tkO (zCq Xt)
theorem tok223:TyOK Tryz.prog 223 ti223:=tkU
theorem tok243:TyOK Tryz.prog 243 ti243:=tkU
theorem tok274:TyOK Tryz.prog 274 ti274:=tkO (zCq Xt)
theorem tok276:TyOK Tryz.prog 276 ti276:=tkO (zCq Xt)
theorem tok277:TyOK Tryz.prog 277 ti277:=tkO (zCq Xt)
theorem tok298:TyOK Tryz.prog 298 ti298:=tkR
theorem tok316:TyOK Tryz.prog 316 ti316:=tkO (zCq Xt)
theorem tok319:TyOK Tryz.prog 319 ti319:=tkU
theorem tok320:TyOK Tryz.prog 320 ti320:=tkS
theorem tok321:TyOK Tryz.prog 321 ti321:=tkS
theorem tok360:TyOK Tryz.prog 360 ti360:=tkO (zCq Xt)
theorem tok374:TyOK Tryz.prog 374 ti374:=tkO (zCq Xt)
theorem tok375:TyOK Tryz.prog 375 ti375:=tkO (zCq Xt)
theorem tok388:TyOK Tryz.prog 388 ti388:=tkO (zCq Xt)
theorem tok389:TyOK Tryz.prog 389 ti389:=tkO (zCq Xt)
theorem tok416:TyOK Tryz.prog 416 ti416:=tkR
theorem tok417:TyOK Tryz.prog 417 ti417:=tkU
theorem tok418:TyOK Tryz.prog 418 ti418:=tkR
theorem tok419:TyOK Tryz.prog 419 ti419:=tkR
theorem tok436:TyOK Tryz.prog 436 ti436:=tkO (zCq Xt)
theorem tok444:TyOK Tryz.prog 444 ti444:=tkO (zCq Xt)
theorem tok450:TyOK Tryz.prog 450 ti450:=tkU
theorem tok453:TyOK Tryz.prog 453 ti453:=tkO (zCq Xt)
theorem tok455:TyOK Tryz.prog 455 ti455:=tkU
theorem tok456:TyOK Tryz.prog 456 ti456:=tkO (zCq Xt)
theorem tok458:TyOK Tryz.prog 458 ti458:=tkU
theorem tok459:TyOK Tryz.prog 459 ti459:=tkR
theorem tok473:TyOK Tryz.prog 473 ti473:=tkR
theorem tok482:TyOK Tryz.prog 482 ti482:=tkR
theorem tok486:TyOK Tryz.prog 486 ti486:=tkU
theorem tok487:TyOK Tryz.prog 487 ti487:=tkU
theorem tok488:TyOK Tryz.prog 488 ti488:=tkO (zCq Xt)
theorem tok489:TyOK Tryz.prog 489 ti489:=tkU
theorem tok490:TyOK Tryz.prog 490 ti490:=tkU
theorem tok491:TyOK Tryz.prog 491 ti491:=tkU
theorem fok6:FnOK Tryz.prog 6 Tryz.f6:=fkz Tryz.func6
theorem fok9:FnOK Tryz.prog 9 Tryz.f9:=fkz Tryz.func9
theorem fok11:FnOK Tryz.prog 11 Tryz.f11:=fkz Tryz.func11
theorem fok13:FnOK Tryz.prog 13 Tryz.f13:=fkz Tryz.func13
theorem fok19:FnOK Tryz.prog 19 Tryz.f19:=fkz Tryz.func19
theorem fok26:FnOK Tryz.prog 26 Tryz.f26:=fkz Tryz.func26
theorem fok31:FnOK Tryz.prog 31 Tryz.f31:=fkz Tryz.func31
theorem fok33:FnOK Tryz.prog 33 Tryz.f33:=fkz Tryz.func33
theorem fok43:FnOK Tryz.prog 43 Tryz.f43:=fkz Tryz.func43
theorem fok47:FnOK Tryz.prog 47 Tryz.f47:=fkz Tryz.func47
theorem fok48:FnOK Tryz.prog 48 Tryz.f48:=fkz Tryz.func48
theorem fok49:FnOK Tryz.prog 49 Tryz.f49:=fkz Tryz.func49
theorem fok50:FnOK Tryz.prog 50 Tryz.f50:=fkz Tryz.func50
theorem fok52:FnOK Tryz.prog 52 Tryz.f52:=fkz Tryz.func52
theorem fok53:FnOK Tryz.prog 53 Tryz.f53:=fkz Tryz.func53
theorem fok54:FnOK Tryz.prog 54 Tryz.f54:=fkz Tryz.func54
theorem fok55:FnOK Tryz.prog 55 Tryz.f55:=fkz Tryz.func55
theorem fok56:FnOK Tryz.prog 56 Tryz.f56:=fkz Tryz.func56
theorem fok57:FnOK Tryz.prog 57 Tryz.f57:=fkz Tryz.func57
theorem fok58:FnOK Tryz.prog 58 Tryz.f58:=fkz Tryz.func58
theorem fok59:FnOK Tryz.prog 59 Tryz.f59:=fkz Tryz.func59
theorem fok70:FnOK Tryz.prog 70 Tryz.f70:=fkz Tryz.func70
theorem fok74:FnOK Tryz.prog 74 Tryz.f74:=fkz Tryz.func74
theorem fok75:FnOK Tryz.prog 75 Tryz.f75:=fkz Tryz.func75
theorem fok76:FnOK Tryz.prog 76 Tryz.f76:=fkz Tryz.func76
theorem fok78:FnOK Tryz.prog 78 Tryz.f78:=fkz Tryz.func78
theorem fok80:FnOK Tryz.prog 80 Tryz.f80:=fkz Tryz.func80
theorem fok81:FnOK Tryz.prog 81 Tryz.f81:=fkz Tryz.func81
theorem fok82:FnOK Tryz.prog 82 Tryz.f82:=fkz Tryz.func82
theorem fok83:FnOK Tryz.prog 83 Tryz.f83:=fkz Tryz.func83
theorem fok84:FnOK Tryz.prog 84 Tryz.f84:=fkz Tryz.func84
theorem fok86:FnOK Tryz.prog 86 Tryz.f86:=fkz Tryz.func86
theorem fok91:FnOK Tryz.prog 91 Tryz.f91:=fkz Tryz.func91
theorem fok102:FnOK Tryz.prog 102 Tryz.f102:=fkz Tryz.func102
theorem fok107:FnOK Tryz.prog 107 Tryz.f107:=fkz Tryz.func107
theorem fok108:FnOK Tryz.prog 108 Tryz.f108:=fkz Tryz.func108
theorem fok109:FnOK Tryz.prog 109 Tryz.f109:=fkz Tryz.func109
theorem fok110:FnOK Tryz.prog 110 Tryz.f110:=fkz Tryz.func110
theorem fok120:FnOK Tryz.prog 120 Tryz.f120:=fkz Tryz.func120
theorem fok123:FnOK Tryz.prog 123 Tryz.f123:=fkz Tryz.func123
theorem fok124:FnOK Tryz.prog 124 Tryz.f124:=fkz Tryz.func124
theorem fok125:FnOK Tryz.prog 125 Tryz.f125:=fkz Tryz.func125
theorem fok126:FnOK Tryz.prog 126 Tryz.f126:=fkz Tryz.func126
theorem fok127:FnOK Tryz.prog 127 Tryz.f127:=fkz Tryz.func127
theorem fok128:FnOK Tryz.prog 128 Tryz.f128:=fkz Tryz.func128
theorem fok129:FnOK Tryz.prog 129 Tryz.f129:=fkz Tryz.func129
theorem fok130:FnOK Tryz.prog 130 Tryz.f130:=fkz Tryz.func130
theorem fok131:FnOK Tryz.prog 131 Tryz.f131:=fkz Tryz.func131
theorem fok132:FnOK Tryz.prog 132 Tryz.f132:=fkz Tryz.func132
theorem fok133:FnOK Tryz.prog 133 Tryz.f133:=fkz Tryz.func133
theorem fok164:FnOK Tryz.prog 164 Tryz.f164:=fkz Tryz.func164
theorem fok165:FnOK Tryz.prog 165 Tryz.f165:=fkz Tryz.func165
theorem fok166:FnOK Tryz.prog 166 Tryz.f166:=fkz Tryz.func166
theorem fok167:FnOK Tryz.prog 167 Tryz.f167:=fkz Tryz.func167
theorem fok168:FnOK Tryz.prog 168 Tryz.f168:=fkz Tryz.func168
theorem fok169:FnOK Tryz.prog 169 Tryz.f169:=fkz Tryz.func169
theorem fok170:FnOK Tryz.prog 170 Tryz.f170:=fkz Tryz.func170
theorem fok171:FnOK Tryz.prog 171 Tryz.f171:=fkz Tryz.func171
theorem fok172:FnOK Tryz.prog 172 Tryz.f172:=fkz Tryz.func172
theorem fok173:FnOK Tryz.prog 173 Tryz.f173:=fkz Tryz.func173
theorem fok174:FnOK Tryz.prog 174 Tryz.f174:=fkz Tryz.func174
theorem fok181:FnOK Tryz.prog 181 Tryz.f181:=fkz Tryz.func181
theorem fok183:FnOK Tryz.prog 183 Tryz.f183:=fkz Tryz.func183
theorem fok184:FnOK Tryz.prog 184 Tryz.f184:=fkz Tryz.func184
theorem fok185:FnOK Tryz.prog 185 Tryz.f185:=fkz Tryz.func185
theorem fok191:FnOK Tryz.prog 191 Tryz.f191:=fkz Tryz.func191
theorem fok193:FnOK Tryz.prog 193 Tryz.f193:=fkz Tryz.func193
theorem fok194:FnOK Tryz.prog 194 Tryz.f194:=fkz Tryz.func194
theorem fok195:FnOK Tryz.prog 195 Tryz.f195:=fkz Tryz.func195
theorem fok198:FnOK Tryz.prog 198 Tryz.f198:=fkz Tryz.func198
theorem fok200:FnOK Tryz.prog 200 Tryz.f200:=fkz Tryz.func200
theorem fok201:FnOK Tryz.prog 201 Tryz.f201:=fkz Tryz.func201
theorem fok203:FnOK Tryz.prog 203 Tryz.f203:=fkz Tryz.func203
theorem fok204:FnOK Tryz.prog 204 Tryz.f204:=fkz Tryz.func204
theorem fok205:FnOK Tryz.prog 205 Tryz.f205:=fkz Tryz.func205
theorem fok206:FnOK Tryz.prog 206 Tryz.f206:=fkz Tryz.func206
theorem fok207:FnOK Tryz.prog 207 Tryz.f207:=fkz Tryz.func207
theorem fok208:FnOK Tryz.prog 208 Tryz.f208:=fkz Tryz.func208
theorem fok209:FnOK Tryz.prog 209 Tryz.f209:=fkz Tryz.func209
theorem fok210:FnOK Tryz.prog 210 Tryz.f210:=fkz Tryz.func210
theorem fok211:FnOK Tryz.prog 211 Tryz.f211:=fkz Tryz.func211
theorem fok212:FnOK Tryz.prog 212 Tryz.f212:=fkz Tryz.func212
theorem fok241:FnOK Tryz.prog 241 Tryz.f241:=fkz Tryz.func241
theorem fok242:FnOK Tryz.prog 242 Tryz.f242:=fkz Tryz.func242
theorem fok243:FnOK Tryz.prog 243 Tryz.f243:=fkz Tryz.func243
theorem fok244:FnOK Tryz.prog 244 Tryz.f244:=fkz Tryz.func244
theorem fok245:FnOK Tryz.prog 245 Tryz.f245:=fkz Tryz.func245
theorem fok246:FnOK Tryz.prog 246 Tryz.f246:=fkz Tryz.func246
theorem fok253:FnOK Tryz.prog 253 Tryz.f253:=fkz Tryz.func253
theorem fok256:FnOK Tryz.prog 256 Tryz.f256:=fkz Tryz.func256
theorem fok257:FnOK Tryz.prog 257 Tryz.f257:=fkz Tryz.func257
theorem fok260:FnOK Tryz.prog 260 Tryz.f260:=fkz Tryz.func260
theorem fok261:FnOK Tryz.prog 261 Tryz.f261:=fkz Tryz.func261
theorem fok262:FnOK Tryz.prog 262 Tryz.f262:=fkz Tryz.func262
theorem fok263:FnOK Tryz.prog 263 Tryz.f263:=fkz Tryz.func263
theorem fok271:FnOK Tryz.prog 271 Tryz.f271:=fkz Tryz.func271
theorem fok273:FnOK Tryz.prog 273 Tryz.f273:=fkz Tryz.func273
theorem fok275:FnOK Tryz.prog 275 Tryz.f275:=fkz Tryz.func275
theorem fok277:FnOK Tryz.prog 277 Tryz.f277:=fkz Tryz.func277
theorem fok278:FnOK Tryz.prog 278 Tryz.f278:=fkz Tryz.func278
theorem fok279:FnOK Tryz.prog 279 Tryz.f279:=fkz Tryz.func279
theorem fok280:FnOK Tryz.prog 280 Tryz.f280:=fkz Tryz.func280
theorem fok281:FnOK Tryz.prog 281 Tryz.f281:=fkz Tryz.func281
theorem fok282:FnOK Tryz.prog 282 Tryz.f282:=fkz Tryz.func282
theorem fok283:FnOK Tryz.prog 283 Tryz.f283:=fkz Tryz.func283
theorem fok284:FnOK Tryz.prog 284 Tryz.f284:=fkz Tryz.func284
theorem fok285:FnOK Tryz.prog 285 Tryz.f285:=fkz Tryz.func285
theorem fok286:FnOK Tryz.prog 286 Tryz.f286:=fkz Tryz.func286
theorem fok287:FnOK Tryz.prog 287 Tryz.f287:=fkz Tryz.func287
theorem fok302:FnOK Tryz.prog 302 Tryz.f302:=fkz Tryz.func302
theorem fok303:FnOK Tryz.prog 303 Tryz.f303:=fkz Tryz.func303
theorem fok304:FnOK Tryz.prog 304 Tryz.f304:=fkz Tryz.func304
theorem fok305:FnOK Tryz.prog 305 Tryz.f305:=fkz Tryz.func305
theorem fok319:FnOK Tryz.prog 319 Tryz.f319:=fkz Tryz.func319
theorem fok320:FnOK Tryz.prog 320 Tryz.f320:=fkz Tryz.func320
theorem fok321:FnOK Tryz.prog 321 Tryz.f321:=fkz Tryz.func321
theorem fok322:FnOK Tryz.prog 322 Tryz.f322:=fkz Tryz.func322
theorem fok329:FnOK Tryz.prog 329 Tryz.f329:=fkz Tryz.func329
theorem fok330:FnOK Tryz.prog 330 Tryz.f330:=fkz Tryz.func330
theorem fok331:FnOK Tryz.prog 331 Tryz.f331:=fkz Tryz.func331
theorem fok332:FnOK Tryz.prog 332 Tryz.f332:=fkz Tryz.func332
theorem fok333:FnOK Tryz.prog 333 Tryz.f333:=fkz Tryz.func333
theorem fok334:FnOK Tryz.prog 334 Tryz.f334:=fkz Tryz.func334
theorem fok337:FnOK Tryz.prog 337 Tryz.f337:=fkz Tryz.func337
theorem fok338:FnOK Tryz.prog 338 Tryz.f338:=fkz Tryz.func338
theorem fok339:FnOK Tryz.prog 339 Tryz.f339:=fkz Tryz.func339
theorem fok340:FnOK Tryz.prog 340 Tryz.f340:=fkz Tryz.func340
theorem fok341:FnOK Tryz.prog 341 Tryz.f341:=fkz Tryz.func341
theorem fok342:FnOK Tryz.prog 342 Tryz.f342:=fkz Tryz.func342
theorem fok348:FnOK Tryz.prog 348 Tryz.f348:=fkz Tryz.func348
theorem fok349:FnOK Tryz.prog 349 Tryz.f349:=fkz Tryz.func349
theorem fok350:FnOK Tryz.prog 350 Tryz.f350:=fkz Tryz.func350
theorem fok351:FnOK Tryz.prog 351 Tryz.f351:=fkz Tryz.func351
theorem fok357:FnOK Tryz.prog 357 Tryz.f357:=fkz Tryz.func357
theorem fok358:FnOK Tryz.prog 358 Tryz.f358:=fkz Tryz.func358
theorem fok362:FnOK Tryz.prog 362 Tryz.f362:=fkz Tryz.func362
theorem tyAll:Tr.All (λt i=>TyOK Tryz.prog t i) (λk=>k) tyT:=(.skip (.here tok1 (.here tok3 (.here tok7 (.here tok15 (.here tok31 (.here tok63 .nil (.here tok191 (.here tok319 .nil .nil) .nil)) (.skip .nil (.here tok223 .nil .nil))) (.here tok47 .nil .nil)) (.here tok23 (.skip (.skip .nil (.skip .nil (.here tok455 .nil .nil))) (.skip (.here tok167 .nil .nil) (.skip .nil (.here tok487 .nil .nil)))) (.here tok55 .nil (.skip .nil (.skip (.here tok375 .nil .nil) .nil))))) (.here tok11 (.skip (.skip (.here tok67 .nil .nil) (.here tok99 (.here tok163 .nil (.here tok419 .nil .nil)) .nil)) (.here tok51 (.skip .nil (.here tok211 .nil .nil)) (.skip .nil (.here tok243 .nil .nil)))) (.here tok27 (.skip (.skip .nil (.skip .nil (.here tok459 .nil .nil))) (.skip .nil (.skip .nil (.here tok491 .nil .nil)))) (.here tok59 (.here tok91 (.here tok155 .nil .nil) .nil) .nil)))) (.here tok5 (.here tok9 (.here tok17 (.here tok33 (.skip .nil (.skip (.here tok321 .nil .nil) .nil)) (.skip (.skip .nil (.here tok417 .nil .nil)) .nil)) (.here tok49 .nil .nil)) (.here tok25 (.skip .nil (.skip .nil (.skip .nil (.here tok489 .nil .nil)))) (.here tok57 (.here tok89 (.here tok153 .nil .nil) (.skip .nil (.here tok473 .nil .nil))) .nil))) (.skip (.here tok21 (.skip (.skip (.skip .nil (.here tok389 .nil .nil)) (.skip .nil (.here tok453 .nil .nil))) (.skip (.here tok165 .nil .nil) .nil)) (.here tok53 (.skip (.skip (.here tok277 .nil .nil) .nil) .nil) .nil)) (.here tok29 .nil (.here tok61 (.here tok93 .nil .nil) .nil))))) (.here tok2 (.here tok4 (.here tok8 (.here tok16 (.here tok32 (.skip (.here tok128 .nil .nil) (.skip (.here tok320 .nil .nil) .nil)) (.here tok96 (.skip .nil (.here tok416 .nil .nil)) .nil)) (.here tok48 .nil .nil)) (.here tok24 (.here tok40 (.skip .nil (.skip .nil (.here tok456 .nil .nil))) (.here tok104 .nil (.skip (.here tok360 .nil .nil) (.here tok488 .nil .nil)))) (.here tok56 (.here tok88 .nil .nil) .nil))) (.here tok12 (.here tok20 (.here tok36 (.skip (.skip .nil (.here tok388 .nil .nil)) .nil) (.here tok100 .nil .nil)) (.here tok52 (.skip (.skip (.here tok276 .nil .nil) .nil) (.here tok212 .nil .nil)) (.skip (.skip .nil (.here tok436 .nil .nil)) .nil))) (.here tok28 (.here tok44 .nil (.here tok108 .nil .nil)) (.here tok60 .nil (.skip (.skip (.here tok316 .nil .nil) (.here tok444 .nil .nil)) .nil))))) (.here tok6 (.here tok10 (.skip (.here tok34 (.skip .nil (.skip .nil (.here tok450 .nil .nil))) (.here tok98 (.skip .nil (.here tok418 .nil .nil)) (.skip .nil (.here tok482 .nil .nil)))) (.here tok50 (.skip (.skip (.here tok274 .nil .nil) .nil) .nil) .nil)) (.here tok26 (.here tok42 (.skip .nil (.skip .nil (.here tok458 .nil .nil))) (.here tok106 (.skip (.here tok298 .nil .nil) .nil) (.skip .nil (.here tok490 .nil .nil)))) (.here tok58 .nil (.skip (.here tok186 .nil .nil) .nil)))) (.skip (.here tok22 (.here tok38 .nil (.here tok102 (.here tok166 .nil .nil) (.skip .nil (.here tok486 .nil .nil)))) (.here tok54 .nil (.skip .nil (.skip (.here tok374 .nil .nil) .nil)))) (.here tok30 (.here tok46 (.skip .nil (.here tok206 .nil .nil)) .nil) (.here tok62 .nil .nil))))))
theorem fnAll:Tr.All (λf fn=>FnOK Tryz.prog f fn) (λk=>k) fnT:=(.skip (.skip (.skip (.skip (.skip (.here fok31 (.skip (.here fok127 .nil .nil) (.here fok191 (.here fok319 .nil .nil) .nil)) (.skip (.skip (.here fok287 .nil .nil) .nil) (.skip (.here fok351 .nil .nil) .nil))) (.here fok47 (.skip (.skip (.here fok271 .nil .nil) .nil) (.here fok207 .nil .nil)) (.skip (.skip (.here fok303 .nil .nil) .nil) .nil))) (.skip (.skip (.skip (.skip (.here fok263 .nil .nil) .nil) .nil) (.skip (.here fok167 .nil .nil) .nil)) (.here fok55 (.skip (.skip (.here fok279 .nil .nil) .nil) .nil) (.skip (.here fok183 .nil .nil) .nil)))) (.here fok11 (.here fok19 (.skip (.skip (.here fok131 .nil .nil) (.here fok195 .nil .nil)) .nil) (.skip (.here fok83 (.skip (.here fok275 .nil .nil) .nil) (.here fok211 (.here fok339 .nil .nil) .nil)) (.skip .nil (.here fok243 .nil .nil)))) (.skip (.here fok43 (.here fok75 .nil (.here fok203 (.here fok331 .nil .nil) .nil)) (.here fok107 (.here fok171 .nil .nil) .nil)) (.here fok59 (.here fok91 (.skip (.here fok283 .nil .nil) .nil) .nil) (.here fok123 .nil .nil))))) (.skip (.here fok9 (.skip (.here fok33 (.skip (.here fok129 (.here fok257 .nil .nil) .nil) (.here fok193 (.here fok321 .nil .nil) .nil)) .nil) (.here fok49 (.here fok81 (.skip (.here fok273 .nil .nil) .nil) (.here fok209 (.here fok337 .nil .nil) .nil)) (.skip (.skip (.here fok305 .nil .nil) .nil) (.here fok241 .nil .nil)))) (.skip (.skip (.skip .nil (.here fok201 (.here fok329 .nil .nil) .nil)) (.skip (.here fok169 .nil .nil) .nil)) (.here fok57 (.skip (.skip (.here fok281 .nil .nil) .nil) .nil) (.skip (.here fok185 .nil .nil) .nil)))) (.here fok13 (.skip (.skip (.skip (.here fok133 (.here fok261 .nil .nil) .nil) .nil) (.skip (.here fok165 .nil .nil) (.skip (.here fok357 .nil .nil) .nil))) (.here fok53 (.skip (.skip (.here fok277 .nil .nil) .nil) (.skip (.here fok341 .nil .nil) .nil)) (.skip (.here fok181 .nil .nil) (.here fok245 .nil .nil)))) (.skip (.skip (.skip .nil (.here fok205 (.here fok333 .nil .nil) .nil)) (.here fok109 (.here fok173 .nil .nil) .nil)) (.skip (.skip (.skip (.here fok285 .nil .nil) .nil) (.skip (.here fok349 .nil .nil) .nil)) (.here fok125 .nil (.here fok253 .nil .nil))))))) (.skip (.skip (.skip (.skip (.skip (.skip (.here fok128 (.here fok256 .nil .nil) .nil) (.skip (.here fok320 .nil .nil) .nil)) .nil) (.here fok48 (.here fok80 .nil (.here fok208 .nil .nil)) (.skip (.skip (.here fok304 .nil .nil) .nil) .nil))) (.skip (.skip (.skip .nil (.here fok200 .nil .nil)) (.skip (.here fok168 .nil .nil) .nil)) (.here fok56 (.skip (.skip (.here fok280 .nil .nil) .nil) .nil) (.here fok120 (.here fok184 .nil .nil) .nil)))) (.skip (.skip (.skip (.skip (.here fok132 (.here fok260 .nil .nil) .nil) .nil) (.skip (.here fok164 .nil .nil) .nil)) (.here fok52 (.here fok84 .nil (.here fok212 (.here fok340 .nil .nil) .nil)) (.skip .nil (.here fok244 .nil .nil)))) (.skip (.skip (.here fok76 .nil (.here fok204 (.here fok332 .nil .nil) .nil)) (.here fok108 (.here fok172 .nil .nil) .nil)) (.skip (.skip (.skip (.here fok284 .nil .nil) .nil) (.skip (.here fok348 .nil .nil) .nil)) (.here fok124 .nil .nil))))) (.here fok6 (.skip (.skip (.skip (.skip (.here fok130 .nil .nil) (.here fok194 (.here fok322 .nil .nil) .nil)) .nil) (.here fok50 (.here fok82 .nil (.here fok210 (.here fok338 .nil .nil) .nil)) (.skip .nil (.here fok242 .nil .nil)))) (.here fok26 (.skip (.here fok74 .nil (.skip (.here fok330 .nil .nil) .nil)) (.skip (.here fok170 .nil .nil) (.skip (.here fok362 .nil .nil) .nil))) (.here fok58 (.skip (.skip (.here fok282 .nil .nil) .nil) .nil) .nil))) (.skip (.skip (.skip (.here fok70 (.skip (.here fok262 .nil .nil) .nil) (.here fok198 .nil .nil)) (.here fok102 (.here fok166 .nil .nil) (.skip (.here fok358 .nil .nil) .nil))) (.here fok54 (.here fok86 (.skip (.here fok278 .nil .nil) .nil) (.skip (.here fok342 .nil .nil) .nil)) (.skip .nil (.here fok246 .nil .nil)))) (.skip (.skip (.here fok78 .nil (.here fok206 (.here fok334 .nil .nil) .nil)) (.here fok110 (.here fok174 (.here fok302 .nil .nil) .nil) .nil)) (.skip (.skip (.skip (.here fok286 .nil .nil) .nil) (.skip (.here fok350 .nil .nil) .nil)) (.here fok126 .nil .nil)))))))
theorem xok312:ExtOK Tryz.prog 312 add64V:=add64_ok (run_callFunc_extern Tryz.func312 Xt Xt Xt (e:=add64Entry) Xt)
theorem extAll:Tr.All (λf e=>ExtOK Tryz.prog f e) (λk=>k) extT:=(.skip .nil (.skip (.skip (.skip .nil (.skip .nil (.skip .nil (.skip (.skip (.here xok312 .nil .nil) .nil) .nil)))) .nil) .nil))
theorem mtAll:Tr.All (λt l=>MtOK Tryz.prog t l) (λk=>k) mtT:=.nil
theorem mpAll:Tr.All (λt p=>Tryz.prog.underlying t=some (.map p.1 p.2)) (λk=>k) mpT:=.nil
theorem cfgOK:CfgOK Tryz.prog cfg:=⟨λt i h=>tyAll.at_ h,λf e h=>extAll.at_ h,λt k e h=>mpAll.at_ h,mtOf_ok λt l h=>mtAll.at_ h⟩
theorem fnsOK:FnsOK Tryz.prog cfg:=fnsOK_of λf fn h=>fnAll.at_ h
theorem mixed:Tryz.prog.follows .mixedOrders=true:=by kernel_rfl
end
end
end Go.Proofs.YtihcioafclhokaaGreatDoor

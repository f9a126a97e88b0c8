/-
  What the proof of ChainAdds stands on, part 5. No condition.
-/
import Derived.Test.YtihcioafclhokaaGreatDoorZChainAddsD
set_option linter.unusedSimpArgs false
set_option linter.unusedVariables false
namespace Go.Proofs.YtihcioafclhokaaGreatDoor
section
open Go.RowKit
section
set_option maxRecDepth 100000
theorem tkO{P:Program}{t:TypeId}{i:TyI}(d:i.d.Is P t)(s:(P.info? t).map (·.size)=some i.size:=by kernel_rfl)(b:(P.info? t).map (·.bytes)=some i.bytes:=by kernel_rfl)(z:∀ρ,(P.info? t).bind (·.zero)=some (conc ρ i.zero):=by intro ρ;kernel_rfl)(y:bare i.zero=true:=by kernel_rfl)(v:i.zero.isAgg=i.agg:=by kernel_rfl)(x:i.zero.size=i.size:=by kernel_rfl)(g:i.agg=false:=by kernel_rfl)(l:i.zero.leaf=true:=by kernel_rfl):TyOK P t i:=⟨s,b,z,zin_of y,d,λh=>(by rw[g] at h;cases h),v,λ_=>l,x⟩
theorem tkU{P:Program}{t:TypeId}{i:TyI}(d:i.d.Is P t:=by show Program.underlying _ _=_;kernel_rfl)(s:(P.info? t).map (·.size)=some i.size:=by kernel_rfl)(b:(P.info? t).map (·.bytes)=some i.bytes:=by kernel_rfl)(z:∀ρ,(P.info? t).bind (·.zero)=some (conc ρ i.zero):=by intro ρ;kernel_rfl)(y:bare i.zero=true:=by kernel_rfl)(v:i.zero.isAgg=i.agg:=by kernel_rfl)(x:i.zero.size=i.size:=by kernel_rfl)(g:i.agg=false:=by kernel_rfl)(l:i.zero.leaf=true:=by kernel_rfl):TyOK P t i:=⟨s,b,z,zin_of y,d,λh=>(by rw[g] at h;cases h),v,λ_=>l,x⟩
theorem tkR{P:Program}{t:TypeId}{i:TyI}(d:i.d.Is P t:=by exact⟨by kernel_rfl,by kernel_rfl⟩)(s:(P.info? t).map (·.size)=some i.size:=by kernel_rfl)(b:(P.info? t).map (·.bytes)=some i.bytes:=by kernel_rfl)(z:∀ρ,(P.info? t).bind (·.zero)=some (conc ρ i.zero):=by intro ρ;kernel_rfl)(y:bare i.zero=true:=by kernel_rfl)(v:i.zero.isAgg=i.agg:=by kernel_rfl)(x:i.zero.size=i.size:=by kernel_rfl)(e:P.eqGuardType P.depth t=false:=by kernel_rfl)(g:i.agg=true:=by kernel_rfl):TyOK P t i:=⟨s,b,z,zin_of y,d,λ_=>e,v,λh=>(by rw[g] at h;cases h),x⟩
theorem tkS{P:Program}{t:TypeId}{i:TyI}(d:i.d.Is P t:=by exact⟨by kernel_rfl,by kernel_rfl,by kernel_rfl,by kernel_rfl,by kernel_rfl⟩)(s:(P.info? t).map (·.size)=some i.size:=by kernel_rfl)(b:(P.info? t).map (·.bytes)=some i.bytes:=by kernel_rfl)(z:∀ρ,(P.info? t).bind (·.zero)=some (conc ρ i.zero):=by intro ρ;kernel_rfl)(y:bare i.zero=true:=by kernel_rfl)(v:i.zero.isAgg=i.agg:=by kernel_rfl)(x:i.zero.size=i.size:=by kernel_rfl)(e:P.eqGuardType P.depth t=false:=by kernel_rfl)(g:i.agg=true:=by kernel_rfl):TyOK P t i:=⟨s,b,z,zin_of y,d,λ_=>e,v,λh=>(by rw[g] at h;cases h),x⟩
theorem fkz{P:Program}{f:FuncId}{n:Func}(h:P.funcs[f]? =some n)(a:(n.name== "runtime.NumGoroutine")=false:=by kernel_rfl)(b:n.body.isSome=true:=by kernel_rfl)(k:(match n.body with|some c=>y5q n.ntmps c|none=>true)=true:=by kernel_rfl):FnOK P f n:=by
 obtain⟨c,e⟩:=Option.isSome_iff_exists.1 b;exact⟨h,Go.Proofs.enters_of h a e,k⟩
theorem tok1:TyOK Tryz.prog 1 ti1:=tkO (zwq Xp)
theorem tok2:TyOK Tryz.prog 2 ti2:=tkU
theorem tok3:TyOK Tryz.prog 3 ti3:=tkU
theorem tok4:TyOK Tryz.prog 4 ti4:=tkU
theorem tok5:TyOK Tryz.prog 5 ti5:=tkU
theorem tok6:TyOK Tryz.prog 6 ti6:=tkU
theorem tok7:TyOK Tryz.prog 7 ti7:=tkS
theorem tok8:TyOK Tryz.prog 8 ti8:=tkS
theorem tok9:TyOK Tryz.prog 9 ti9:=tkU
theorem tok10:TyOK Tryz.prog 10 ti10:=tkU
theorem tok11:TyOK Tryz.prog 11 ti11:=tkU
theorem tok12:TyOK Tryz.prog 12 ti12:=tkU
theorem tok15:TyOK Tryz.prog 15 ti15:=tkU
theorem tok16:TyOK Tryz.prog 16 ti16:=tkU
theorem tok17:TyOK Tryz.prog 17 ti17:=tkU
theorem tok20:TyOK Tryz.prog 20 ti20:=tkO (iface_of Xp)
theorem tok21:TyOK Tryz.prog 21 ti21:=tkU
theorem tok22:TyOK Tryz.prog 22 ti22:=tkU
theorem tok23:TyOK Tryz.prog 23 ti23:=tkS
theorem tok24:TyOK Tryz.prog 24 ti24:=tkS
theorem tok25:TyOK Tryz.prog 25 ti25:=tkU
theorem tok26:TyOK Tryz.prog 26 ti26:=tkS
theorem tok27:TyOK Tryz.prog 27 ti27:=tkS
theorem tok28:TyOK Tryz.prog 28 ti28:=tkR
theorem tok29:TyOK Tryz.prog 29 ti29:=tkR
theorem tok30:TyOK Tryz.prog 30 ti30:=tkO (zwq Xp)
theorem tok31:TyOK Tryz.prog 31 ti31:=tkO (zwq Xp)
theorem tok32:TyOK Tryz.prog 32 ti32:=tkS
theorem tok33:TyOK Tryz.prog 33 ti33:=tkS
theorem tok34:TyOK Tryz.prog 34 ti34:=tkU
theorem tok36:TyOK Tryz.prog 36 ti36:=tkO (zwq Xp)
theorem tok38:TyOK Tryz.prog 38 ti38:=tkO (zwq Xp)
theorem tok40:TyOK Tryz.prog 40 ti40:=tkO (zwq Xp)
theorem tok42:TyOK Tryz.prog 42 ti42:=tkO (zwq Xp)
theorem tok44:TyOK Tryz.prog 44 ti44:=tkO (zwq Xp)
theorem tok46:TyOK Tryz.prog 46 ti46:=tkO (zwq Xp)
theorem tok47:TyOK Tryz.prog 47 ti47:=tkO (zwq Xp)
theorem tok48:TyOK Tryz.prog 48 ti48:=tkO (zwq Xp)
theorem tok49:TyOK Tryz.prog 49 ti49:=tkO (zwq Xp)
theorem tok50:TyOK Tryz.prog 50 ti50:=tkO (zwq Xp)
theorem tok51:TyOK Tryz.prog 51 ti51:=tkO (zwq Xp)
theorem tok52:TyOK Tryz.prog 52 ti52:=tkO (zwq Xp)
theorem tok53:TyOK Tryz.prog 53 ti53:=tkU
theorem tok54:TyOK Tryz.prog 54 ti54:=tkU
theorem tok55:TyOK Tryz.prog 55 ti55:=tkU
theorem tok56:TyOK Tryz.prog 56 ti56:=tkS
theorem tok57:TyOK Tryz.prog 57 ti57:=tkS
theorem tok58:TyOK Tryz.prog 58 ti58:=tkO (zwq Xp)
theorem tok59:TyOK Tryz.prog 59 ti59:=tkO (zwq Xp)
theorem tok60:TyOK Tryz.prog 60 ti60:=tkO (zwq Xp)
theorem tok61:TyOK Tryz.prog 61 ti61:=tkO (zwq Xp)
theorem tok62:TyOK Tryz.prog 62 ti62:=tkO (zwq Xp)
theorem tok63:TyOK Tryz.prog 63 ti63:=tkO (zwq Xp)
theorem tok89:TyOK Tryz.prog 89 ti89:=tkU
theorem tok91:TyOK Tryz.prog 91 ti91:=tkS
theorem tok96:TyOK Tryz.prog 96 ti96:=tkS
theorem tok98:TyOK Tryz.prog 98 ti98:=tkS
theorem tok99:TyOK Tryz.prog 99 ti99:=tkU
theorem tok100:TyOK Tryz.prog 100 ti100:=tkU
theorem tok102:TyOK Tryz.prog 102 ti102:=tkS
theorem tok104:TyOK Tryz.prog 104 ti104:=tkS
theorem tok106:TyOK Tryz.prog 106 ti106:=tkS
theorem tok128:TyOK Tryz.prog 128 ti128:=tkO (zwq Xp)
theorem tok150:TyOK Tryz.prog 150 ti150:=tkO (zwq Xp)
theorem tok151:TyOK Tryz.prog 151 ti151:=tkO (zwq Xp)
theorem tok153:TyOK Tryz.prog 153 ti153:=tkU
theorem tok155:TyOK Tryz.prog 155 ti155:=tkS
theorem tok163:TyOK Tryz.prog 163 ti163:=tkS
theorem tok165:TyOK Tryz.prog 165 ti165:=tkO (zwq Xp)
theorem tok166:TyOK Tryz.prog 166 ti166:=tkO (zwq Xp)
theorem tok167:TyOK Tryz.prog 167 ti167:=tkO (zwq Xp)
theorem tok176:TyOK Tryz.prog 176 ti176:=tkO (zwq Xp)
theorem tok178:TyOK Tryz.prog 178 ti178:=tkO (zwq Xp)
theorem tok186:TyOK Tryz.prog 186 ti186:=tkS
theorem tok189:TyOK Tryz.prog 189 ti189:=tkO (zwq Xp)
theorem tok191:TyOK Tryz.prog 191 ti191:=tkS
theorem tok223:TyOK Tryz.prog 223 ti223:=tkU
theorem tok230:TyOK Tryz.prog 230 ti230:=tkO (zwq Xp)
theorem tok243:TyOK Tryz.prog 243 ti243:=tkU
theorem tok273:TyOK Tryz.prog 273 ti273:=tkO (zwq Xp)
theorem tok274:TyOK Tryz.prog 274 ti274:=tkO (zwq Xp)
theorem tok276:TyOK Tryz.prog 276 ti276:=tkO (zwq Xp)
theorem tok277:TyOK Tryz.prog 277 ti277:=tkO (zwq Xp)
theorem tok281:TyOK Tryz.prog 281 ti281:=tkU
theorem tok283:TyOK Tryz.prog 283 ti283:=tkS
theorem tok285:TyOK Tryz.prog 285 ti285:=tkO (zwq Xp)
theorem tok298:TyOK Tryz.prog 298 ti298:=tkR
theorem tok302:TyOK Tryz.prog 302 ti302:=tkO (zwq Xp)
theorem tok305:TyOK Tryz.prog 305 ti305:=tkU
theorem tok307:TyOK Tryz.prog 307 ti307:=tkS
theorem tok311:TyOK Tryz.prog 311 ti311:=tkO (zwq Xp)
theorem tok313:TyOK Tryz.prog 313 ti313:=tkO (zwq Xp)
theorem tok314:TyOK Tryz.prog 314 ti314:=tkO (zwq Xp)
theorem tok320:TyOK Tryz.prog 320 ti320:=tkS
theorem tok344:TyOK Tryz.prog 344 ti344:=tkU
theorem tok346:TyOK Tryz.prog 346 ti346:=tkS
theorem tok360:TyOK Tryz.prog 360 ti360:=tkO (zwq Xp)
theorem tok374:TyOK Tryz.prog 374 ti374:=tkO (zwq Xp)
theorem tok375:TyOK Tryz.prog 375 ti375:=tkO (zwq Xp)
theorem tok388:TyOK Tryz.prog 388 ti388:=tkO (zwq Xp)
theorem tok389:TyOK Tryz.prog 389 ti389:=tkO (zwq Xp)
theorem tok416:TyOK Tryz.prog 416 ti416:=tkR
theorem tok417:TyOK Tryz.prog 417 ti417:=tkU
theorem tok418:TyOK Tryz.prog 418 ti418:=tkR
theorem tok419:TyOK Tryz.prog 419 ti419:=tkR
theorem tok421:TyOK Tryz.prog 421 ti421:=tkU
theorem tok422:TyOK Tryz.prog 422 ti422:=tkS
theorem tok427:TyOK Tryz.prog 427 ti427:=tkO (zwq Xp)
theorem tok429:TyOK Tryz.prog 429 ti429:=tkS
theorem tok430:TyOK Tryz.prog 430 ti430:=tkU
theorem tok432:TyOK Tryz.prog 432 ti432:=tkO (zwq Xp)
theorem tok433:TyOK Tryz.prog 433 ti433:=tkO (zwq Xp)
theorem tok436:TyOK Tryz.prog 436 ti436:=tkO (zwq Xp)
theorem tok444:TyOK Tryz.prog 444 ti444:=tkO (zwq Xp)
theorem tok450:TyOK Tryz.prog 450 ti450:=tkU
theorem tok453:TyOK Tryz.prog 453 ti453:=tkO (zwq Xp)
theorem tok455:TyOK Tryz.prog 455 ti455:=tkU
theorem tok456:TyOK Tryz.prog 456 ti456:=tkO (zwq Xp)
theorem tok458:TyOK Tryz.prog 458 ti458:=tkU
theorem tok459:TyOK Tryz.prog 459 ti459:=tkR
theorem tok473:TyOK Tryz.prog 473 ti473:=tkR
theorem tok482:TyOK Tryz.prog 482 ti482:=tkR
theorem tok486:TyOK Tryz.prog 486 ti486:=tkU
theorem tok487:TyOK Tryz.prog 487 ti487:=tkU
theorem tok488:TyOK Tryz.prog 488 ti488:=tkO (zwq Xp)
theorem tok489:TyOK Tryz.prog 489 ti489:=tkU
theorem tok490:TyOK Tryz.prog 490 ti490:=tkU
theorem tok491:TyOK Tryz.prog 491 ti491:=tkU
theorem tyAll:Tr.All (λt i=>TyOK Tryz.prog t i) (λk=>k) tyT:=(.skip (.here tok1 (.here tok3 (.here tok7 (.here tok15 (.here tok31 (.here tok63 .nil (.here tok191 .nil .nil)) (.skip .nil (.here tok223 .nil .nil))) (.here tok47 .nil .nil)) (.here tok23 (.skip (.skip .nil (.skip .nil (.here tok455 .nil .nil))) (.skip (.here tok167 .nil .nil) (.skip .nil (.here tok487 .nil .nil)))) (.here tok55 (.skip (.here tok151 .nil .nil) .nil) (.skip (.skip (.here tok311 .nil .nil) .nil) (.skip (.here tok375 .nil .nil) .nil))))) (.here tok11 (.skip (.skip .nil (.here tok99 (.here tok163 .nil (.here tok419 .nil .nil)) .nil)) (.here tok51 .nil (.skip (.skip (.here tok307 .nil .nil) .nil) (.here tok243 .nil .nil)))) (.here tok27 (.skip (.skip .nil (.skip .nil (.here tok459 .nil .nil))) (.skip (.skip .nil (.here tok427 .nil .nil)) (.skip .nil (.here tok491 .nil .nil)))) (.here tok59 (.here tok91 (.here tok155 (.here tok283 .nil .nil) .nil) .nil) .nil)))) (.here tok5 (.here tok9 (.here tok17 (.here tok33 .nil (.skip (.skip .nil (.here tok417 .nil .nil)) .nil)) (.here tok49 (.skip (.skip (.here tok273 .nil .nil) .nil) .nil) (.skip (.skip (.here tok305 .nil .nil) (.here tok433 .nil .nil)) .nil))) (.here tok25 (.skip .nil (.skip .nil (.skip .nil (.here tok489 .nil .nil)))) (.here tok57 (.here tok89 (.here tok153 (.here tok281 .nil .nil) .nil) (.skip .nil (.here tok473 .nil .nil))) (.skip (.skip (.here tok313 .nil .nil) .nil) .nil)))) (.skip (.here tok21 (.skip (.skip (.skip .nil (.here tok389 .nil .nil)) (.skip .nil (.here tok453 .nil .nil))) (.skip (.here tok165 .nil (.here tok421 .nil .nil)) .nil)) (.here tok53 (.skip (.skip (.here tok277 .nil .nil) .nil) .nil) .nil)) (.here tok29 (.skip .nil (.skip (.skip .nil (.here tok429 .nil .nil)) .nil)) (.here tok61 (.skip (.skip (.here tok285 .nil .nil) .nil) .nil) (.skip (.here tok189 .nil .nil) .nil)))))) (.here tok2 (.here tok4 (.here tok8 (.here tok16 (.here tok32 (.skip (.here tok128 .nil .nil) (.skip (.here tok320 .nil .nil) .nil)) (.here tok96 (.skip .nil (.here tok416 .nil .nil)) .nil)) (.here tok48 .nil (.skip (.here tok176 .nil (.here tok432 .nil .nil)) .nil))) (.here tok24 (.here tok40 (.skip .nil (.skip .nil (.here tok456 .nil .nil))) (.here tok104 .nil (.skip (.here tok360 .nil .nil) (.here tok488 .nil .nil)))) (.here tok56 (.skip .nil (.skip (.here tok344 .nil .nil) .nil)) .nil))) (.here tok12 (.here tok20 (.here tok36 (.skip (.skip .nil (.here tok388 .nil .nil)) .nil) (.here tok100 .nil .nil)) (.here tok52 (.skip (.skip (.here tok276 .nil .nil) .nil) .nil) (.skip (.skip .nil (.here tok436 .nil .nil)) .nil))) (.here tok28 (.here tok44 .nil .nil) (.here tok60 .nil (.skip (.skip .nil (.here tok444 .nil .nil)) .nil))))) (.here tok6 (.here tok10 (.skip (.here tok34 (.skip .nil (.skip .nil (.here tok450 .nil .nil))) (.here tok98 (.skip .nil (.here tok418 .nil .nil)) (.skip .nil (.here tok482 .nil .nil)))) (.here tok50 (.skip (.skip (.here tok274 .nil .nil) .nil) .nil) (.skip (.here tok178 .nil .nil) .nil))) (.here tok26 (.here tok42 (.skip .nil (.skip .nil (.here tok458 .nil .nil))) (.here tok106 (.skip (.here tok298 .nil .nil) .nil) (.skip .nil (.here tok490 .nil .nil)))) (.here tok58 (.skip .nil (.skip (.here tok346 .nil .nil) .nil)) (.skip (.here tok186 (.here tok314 .nil .nil) .nil) .nil)))) (.skip (.here tok22 (.here tok38 .nil (.here tok102 (.here tok166 .nil (.here tok422 .nil .nil)) (.here tok230 .nil (.here tok486 .nil .nil)))) (.here tok54 (.skip (.here tok150 .nil .nil) .nil) (.skip .nil (.skip (.here tok374 .nil .nil) .nil)))) (.here tok30 (.here tok46 .nil (.skip (.skip (.here tok302 .nil .nil) (.here tok430 .nil .nil)) .nil)) (.here tok62 .nil .nil))))))
theorem fnAll:Tr.All (λf fn=>FnOK Tryz.prog f fn) (λk=>k) fnT:=(.skip (.skip (.skip (.skip (.skip (.here (fkz Tryz.func31) (.skip (.skip (.here (fkz Tryz.func255) .nil .nil) .nil) (.here (fkz Tryz.func191) (.here (fkz Tryz.func319) .nil .nil) .nil)) (.skip (.skip (.here (fkz Tryz.func287) .nil .nil) .nil) (.skip (.here (fkz Tryz.func351) .nil .nil) .nil))) (.skip (.here (fkz Tryz.func79) (.skip (.here (fkz Tryz.func271) .nil .nil) .nil) .nil) (.skip (.here (fkz Tryz.func175) (.here (fkz Tryz.func303) .nil .nil) .nil) .nil))) (.skip (.skip (.here (fkz Tryz.func71) (.skip (.here (fkz Tryz.func263) .nil .nil) .nil) (.here (fkz Tryz.func199) (.here (fkz Tryz.func327) .nil .nil) .nil)) (.here (fkz Tryz.func103) (.here (fkz Tryz.func167) .nil .nil) (.skip (.here (fkz Tryz.func359) .nil .nil) .nil))) (.skip (.here (fkz Tryz.func87) (.skip (.here (fkz Tryz.func279) .nil .nil) .nil) (.skip (.here (fkz Tryz.func343) .nil .nil) .nil)) (.skip (.here (fkz Tryz.func183) (.here (fkz Tryz.func311) .nil .nil) .nil) (.here (fkz Tryz.func247) .nil .nil))))) (.here (fkz Tryz.func11) (.here (fkz Tryz.func19) (.skip (.skip (.here (fkz Tryz.func131) .nil .nil) (.here (fkz Tryz.func195) (.here (fkz Tryz.func323) .nil .nil) .nil)) (.skip (.here (fkz Tryz.func163) .nil .nil) (.skip (.here (fkz Tryz.func355) .nil .nil) .nil))) (.skip (.here (fkz Tryz.func83) (.skip (.here (fkz Tryz.func275) .nil .nil) .nil) (.here (fkz Tryz.func211) (.here (fkz Tryz.func339) .nil .nil) .nil)) (.skip (.here (fkz Tryz.func179) (.here (fkz Tryz.func307) .nil .nil) .nil) (.here (fkz Tryz.func243) .nil .nil)))) (.here (fkz Tryz.func27) (.skip (.here (fkz Tryz.func75) (.skip (.here (fkz Tryz.func267) .nil .nil) .nil) (.here (fkz Tryz.func203) (.here (fkz Tryz.func331) .nil .nil) .nil)) (.here (fkz Tryz.func107) (.here (fkz Tryz.func171) .nil .nil) (.skip (.here (fkz Tryz.func363) .nil .nil) .nil))) (.skip (.here (fkz Tryz.func91) (.skip (.here (fkz Tryz.func283) .nil .nil) .nil) (.skip (.here (fkz Tryz.func347) .nil .nil) .nil)) (.skip (.here (fkz Tryz.func187) (.here (fkz Tryz.func315) .nil .nil) .nil) (.here (fkz Tryz.func251) .nil .nil)))))) (.skip (.here (fkz Tryz.func9) (.here (fkz Tryz.func17) (.skip (.skip (.skip (.here (fkz Tryz.func257) .nil .nil) .nil) (.here (fkz Tryz.func193) (.here (fkz Tryz.func321) .nil .nil) .nil)) (.skip .nil (.skip (.here (fkz Tryz.func353) .nil .nil) .nil))) (.skip (.here (fkz Tryz.func81) (.skip (.here (fkz Tryz.func273) .nil .nil) .nil) (.skip (.here (fkz Tryz.func337) .nil .nil) .nil)) (.skip (.here (fkz Tryz.func177) (.here (fkz Tryz.func305) .nil .nil) .nil) (.here (fkz Tryz.func241) .nil .nil)))) (.here (fkz Tryz.func25) (.skip (.here (fkz Tryz.func73) (.skip (.here (fkz Tryz.func265) .nil .nil) .nil) (.here (fkz Tryz.func201) (.here (fkz Tryz.func329) .nil .nil) .nil)) (.here (fkz Tryz.func105) (.here (fkz Tryz.func169) .nil .nil) (.skip (.here (fkz Tryz.func361) .nil .nil) .nil))) (.skip (.skip (.skip (.here (fkz Tryz.func281) .nil .nil) .nil) (.skip (.here (fkz Tryz.func345) .nil .nil) .nil)) (.skip (.here (fkz Tryz.func185) (.here (fkz Tryz.func313) .nil .nil) .nil) (.here (fkz Tryz.func249) .nil .nil))))) (.skip (.skip (.skip (.skip (.skip (.here (fkz Tryz.func261) .nil .nil) .nil) (.here (fkz Tryz.func197) (.here (fkz Tryz.func325) .nil .nil) .nil)) (.here (fkz Tryz.func101) (.here (fkz Tryz.func165) .nil .nil) (.skip (.here (fkz Tryz.func357) .nil .nil) .nil))) (.skip (.here (fkz Tryz.func85) (.skip (.here (fkz Tryz.func277) .nil .nil) .nil) (.skip (.here (fkz Tryz.func341) .nil .nil) .nil)) (.skip (.here (fkz Tryz.func181) (.here (fkz Tryz.func309) .nil .nil) .nil) (.here (fkz Tryz.func245) .nil .nil)))) (.here (fkz Tryz.func29) (.skip (.skip (.skip (.here (fkz Tryz.func269) .nil .nil) .nil) (.here (fkz Tryz.func205) (.here (fkz Tryz.func333) .nil .nil) .nil)) (.here (fkz Tryz.func109) (.here (fkz Tryz.func173) .nil .nil) (.skip (.here (fkz Tryz.func365) .nil .nil) .nil))) (.skip (.here (fkz Tryz.func93) (.skip (.here (fkz Tryz.func285) .nil .nil) .nil) (.skip (.here (fkz Tryz.func349) .nil .nil) .nil)) (.skip (.skip (.here (fkz Tryz.func317) .nil .nil) .nil) (.here (fkz Tryz.func253) .nil .nil))))))) (.skip (.here (fkz Tryz.func4) (.skip (.skip (.here (fkz Tryz.func32) (.skip (.skip (.here (fkz Tryz.func256) .nil .nil) .nil) (.here (fkz Tryz.func192) (.here (fkz Tryz.func320) .nil .nil) .nil)) (.skip .nil (.skip (.here (fkz Tryz.func352) .nil .nil) .nil))) (.skip (.here (fkz Tryz.func80) (.skip (.here (fkz Tryz.func272) .nil .nil) .nil) .nil) (.skip (.here (fkz Tryz.func176) (.here (fkz Tryz.func304) .nil .nil) .nil) .nil))) (.here (fkz Tryz.func24) (.skip (.here (fkz Tryz.func72) (.skip (.here (fkz Tryz.func264) .nil .nil) .nil) (.here (fkz Tryz.func200) (.here (fkz Tryz.func328) .nil .nil) .nil)) (.here (fkz Tryz.func104) (.here (fkz Tryz.func168) .nil .nil) (.skip (.here (fkz Tryz.func360) .nil .nil) .nil))) (.skip (.skip (.skip (.here (fkz Tryz.func280) .nil .nil) .nil) (.skip (.here (fkz Tryz.func344) .nil .nil) .nil)) (.skip (.here (fkz Tryz.func184) .nil .nil) (.here (fkz Tryz.func248) .nil .nil))))) (.skip (.skip (.skip (.skip (.here (fkz Tryz.func132) (.here (fkz Tryz.func260) .nil .nil) .nil) (.here (fkz Tryz.func196) (.here (fkz Tryz.func324) .nil .nil) .nil)) (.here (fkz Tryz.func100) (.here (fkz Tryz.func164) .nil .nil) .nil)) (.skip (.here (fkz Tryz.func84) (.skip (.here (fkz Tryz.func276) .nil .nil) .nil) (.here (fkz Tryz.func212) (.here (fkz Tryz.func340) .nil .nil) .nil)) (.skip (.here (fkz Tryz.func180) (.here (fkz Tryz.func308) .nil .nil) .nil) (.here (fkz Tryz.func244) .nil .nil)))) (.here (fkz Tryz.func28) (.skip (.here (fkz Tryz.func76) (.skip (.here (fkz Tryz.func268) .nil .nil) .nil) (.here (fkz Tryz.func204) (.here (fkz Tryz.func332) .nil .nil) .nil)) (.here (fkz Tryz.func108) (.here (fkz Tryz.func172) .nil .nil) (.skip (.here (fkz Tryz.func364) .nil .nil) .nil))) (.skip (.here (fkz Tryz.func92) (.skip (.here (fkz Tryz.func284) .nil .nil) .nil) (.skip (.here (fkz Tryz.func348) .nil .nil) .nil)) (.here (fkz Tryz.func124) (.skip (.here (fkz Tryz.func316) .nil .nil) .nil) (.here (fkz Tryz.func252) .nil .nil)))))) (.skip (.here (fkz Tryz.func10) (.here (fkz Tryz.func18) (.skip (.skip .nil (.here (fkz Tryz.func194) (.here (fkz Tryz.func322) .nil .nil) .nil)) (.skip (.here (fkz Tryz.func162) .nil .nil) (.skip (.here (fkz Tryz.func354) .nil .nil) .nil))) (.skip (.here (fkz Tryz.func82) (.skip (.here (fkz Tryz.func274) .nil .nil) .nil) (.here (fkz Tryz.func210) (.here (fkz Tryz.func338) .nil .nil) .nil)) (.skip (.here (fkz Tryz.func178) (.here (fkz Tryz.func306) .nil .nil) .nil) (.here (fkz Tryz.func242) .nil .nil)))) (.here (fkz Tryz.func26) (.skip (.here (fkz Tryz.func74) (.skip (.here (fkz Tryz.func266) .nil .nil) .nil) (.skip (.here (fkz Tryz.func330) .nil .nil) .nil)) (.here (fkz Tryz.func106) (.here (fkz Tryz.func170) .nil .nil) (.skip (.here (fkz Tryz.func362) .nil .nil) .nil))) (.skip (.here (fkz Tryz.func90) (.skip (.here (fkz Tryz.func282) .nil .nil) .nil) (.skip (.here (fkz Tryz.func346) .nil .nil) .nil)) (.here (fkz Tryz.func122) (.here (fkz Tryz.func186) (.here (fkz Tryz.func314) .nil .nil) .nil) (.here (fkz Tryz.func250) .nil .nil))))) (.skip (.skip (.skip (.here (fkz Tryz.func70) (.skip (.here (fkz Tryz.func262) .nil .nil) .nil) (.here (fkz Tryz.func198) (.here (fkz Tryz.func326) .nil .nil) .nil)) (.here (fkz Tryz.func102) (.here (fkz Tryz.func166) .nil .nil) (.skip (.here (fkz Tryz.func358) .nil .nil) .nil))) (.skip (.here (fkz Tryz.func86) (.skip (.here (fkz Tryz.func278) .nil .nil) .nil) (.skip (.here (fkz Tryz.func342) .nil .nil) .nil)) (.skip (.skip (.here (fkz Tryz.func310) .nil .nil) .nil) (.here (fkz Tryz.func246) .nil .nil)))) (.here (fkz Tryz.func30) (.skip (.here (fkz Tryz.func78) (.skip (.here (fkz Tryz.func270) .nil .nil) .nil) (.skip (.here (fkz Tryz.func334) .nil .nil) .nil)) (.here (fkz Tryz.func110) (.here (fkz Tryz.func174) (.here (fkz Tryz.func302) .nil .nil) .nil) (.skip (.here (fkz Tryz.func366) .nil .nil) .nil))) (.skip (.here (fkz Tryz.func94) (.skip (.here (fkz Tryz.func286) .nil .nil) .nil) (.skip (.here (fkz Tryz.func350) .nil .nil) .nil)) (.skip (.skip (.here (fkz Tryz.func318) .nil .nil) .nil) (.here (fkz Tryz.func254) .nil .nil))))))))
theorem xok312:ExtOK Tryz.prog 312 add64V:=add64_ok (run_callFunc_extern Tryz.func312 Xp Xp Xp (e:=add64Entry) Xp)
theorem extAll:Tr.All (λf e=>ExtOK Tryz.prog f e) (λk=>k) extT:=(.skip .nil (.skip (.skip (.skip .nil (.skip .nil (.skip .nil (.skip (.skip (.here xok312 .nil .nil) .nil) .nil)))) .nil) .nil))
theorem mtAll:Tr.All (λt l=>MtOK Tryz.prog t l) (λk=>k) mtT:=.nil
theorem mpAll:Tr.All (λt p=>Tryz.prog.underlying t=some (.map p.1 p.2)) (λk=>k) mpT:=.nil
theorem cfgOK:CfgOK Tryz.prog cfg:=⟨λt i h=>tyAll.at_ h,λf e h=>extAll.at_ h,λt k e h=>mpAll.at_ h,mtOf_ok λt l h=>mtAll.at_ h⟩
theorem fnsOK:FnsOK Tryz.prog cfg:=fnsOK_of λf fn h=>fnAll.at_ h
theorem mixed:Tryz.prog.follows .mixedOrders=true:=by kernel_rfl
end
end
end Go.Proofs.YtihcioafclhokaaGreatDoor

/-
  What the proof of TaleNames stands on, part 5. No condition.
-/
import Derived.Test.YthicobhmmikngaaGreatDoorZTaleNamesD
set_option linter.unusedSimpArgs false
set_option linter.unusedVariables false
namespace Go.Proofs.YthicobhmmikngaaGreatDoor
section
open Go.RowKit
section
set_option maxRecDepth 100000
theorem tkO{P:Program}{t:TypeId}{i:TyI}(d:i.d.Is P t)(s:(P.info? t).map (·.size)=some i.size:=by kernel_rfl)(b:(P.info? t).map (·.bytes)=some i.bytes:=by kernel_rfl)(z:∀ρ,(P.info? t).bind (·.zero)=some (conc ρ i.zero):=by intro ρ;kernel_rfl)(y:bare i.zero=true:=by kernel_rfl)(v:i.zero.isAgg=i.agg:=by kernel_rfl)(x:i.zero.size=i.size:=by kernel_rfl)(g:i.agg=false:=by kernel_rfl)(l:i.zero.leaf=true:=by kernel_rfl):TyOK P t i:=⟨s,b,z,zin_of y,d,λh=>(by rw[g] at h;cases h),v,λ_=>l,x⟩
theorem tkU{P:Program}{t:TypeId}{i:TyI}(d:i.d.Is P t:=by show Program.underlying _ _=_;kernel_rfl)(s:(P.info? t).map (·.size)=some i.size:=by kernel_rfl)(b:(P.info? t).map (·.bytes)=some i.bytes:=by kernel_rfl)(z:∀ρ,(P.info? t).bind (·.zero)=some (conc ρ i.zero):=by intro ρ;kernel_rfl)(y:bare i.zero=true:=by kernel_rfl)(v:i.zero.isAgg=i.agg:=by kernel_rfl)(x:i.zero.size=i.size:=by kernel_rfl)(g:i.agg=false:=by kernel_rfl)(l:i.zero.leaf=true:=by kernel_rfl):TyOK P t i:=⟨s,b,z,zin_of y,d,λh=>(by rw[g] at h;cases h),v,λ_=>l,x⟩
theorem tkR{P:Program}{t:TypeId}{i:TyI}(d:i.d.Is P t:=by exact⟨by kernel_rfl,by kernel_rfl⟩)(s:(P.info? t).map (·.size)=some i.size:=by kernel_rfl)(b:(P.info? t).map (·.bytes)=some i.bytes:=by kernel_rfl)(z:∀ρ,(P.info? t).bind (·.zero)=some (conc ρ i.zero):=by intro ρ;kernel_rfl)(y:bare i.zero=true:=by kernel_rfl)(v:i.zero.isAgg=i.agg:=by kernel_rfl)(x:i.zero.size=i.size:=by kernel_rfl)(e:P.eqGuardType P.depth t=false:=by kernel_rfl)(g:i.agg=true:=by kernel_rfl):TyOK P t i:=⟨s,b,z,zin_of y,d,λ_=>e,v,λh=>(by rw[g] at h;cases h),x⟩
theorem tkS{P:Program}{t:TypeId}{i:TyI}(d:i.d.Is P t:=by exact⟨by kernel_rfl,by kernel_rfl,by kernel_rfl,by kernel_rfl,by kernel_rfl⟩)(s:(P.info? t).map (·.size)=some i.size:=by kernel_rfl)(b:(P.info? t).map (·.bytes)=some i.bytes:=by kernel_rfl)(z:∀ρ,(P.info? t).bind (·.zero)=some (conc ρ i.zero):=by intro ρ;kernel_rfl)(y:bare i.zero=true:=by kernel_rfl)(v:i.zero.isAgg=i.agg:=by kernel_rfl)(x:i.zero.size=i.size:=by kernel_rfl)(e:P.eqGuardType P.depth t=false:=by kernel_rfl)(g:i.agg=true:=by kernel_rfl):TyOK P t i:=⟨s,b,z,zin_of y,d,λ_=>e,v,λh=>(by rw[g] at h;cases h),x⟩
theorem fkz{P:Program}{f:FuncId}{n:Func}(h:P.funcs[f]? =some n)(a:(n.name== "runtime.NumGoroutine")=false:=by kernel_rfl)(b:n.body.isSome=true:=by kernel_rfl)(k:(match n.body with|some c=>z8q n.ntmps c|none=>true)=true:=by kernel_rfl):FnOK P f n:=by
 obtain⟨c,e⟩:=Option.isSome_iff_exists.1 b;exact⟨h,Go.Proofs.enters_of h a e,k⟩
theorem tyAll:Tr.All (λt i=>TyOK Tryz.prog t i) (λk=>k) tyT:=by repeat' first|exact .nil|refine .skip ?_ ?_|refine .here (by first|exact tkU|exact tkS|exact tkR|exact tkO (other_of Xb)|exact tkO (iface_of Xb)) ?_ ?_
theorem fnAll:Tr.All (λf fn=>FnOK Tryz.prog f fn) (λk=>k) fnT:=by repeat' first|exact .nil|refine .skip ?_ ?_|refine .here (fkz Xb) ?_ ?_
theorem xok87:vaq Tryz.prog 87 sameV:=same_ok (run_callFunc_extern Tryz.func87 Xb Xb Xb (e:=Extern.AbiNoEscape.same) Xb)
theorem xok148:vaq Tryz.prog 148 countV:=count_ok (run_callFunc_extern Tryz.func148 Xb Xb Xb (e:=Extern.BytealgCount.count) Xb)
theorem xok175:vaq Tryz.prog 175 noV:=no_ok
theorem xok243:vaq Tryz.prog 243 indexV:=index_ok (run_callFunc_extern Tryz.func243 Xb Xb Xb (e:=Extern.BytealgIndexByte.indexByte) Xb)
theorem xok445:vaq Tryz.prog 445 add64V:=add64_ok (run_callFunc_extern Tryz.func445 Xb Xb Xb (e:=add64Entry) Xb)
theorem uxk392:UxOK Tryz.prog 392 .raw:=by show Program.underlying _ _=_;kernel_rfl
theorem uxk130:UxOK Tryz.prog 130 (.ptr 68):=by show Program.underlying _ _=_;kernel_rfl
theorem uxk272:UxOK Tryz.prog 272 (.ptr 5):=by show Program.underlying _ _=_;kernel_rfl
theorem uxk351:UxOK Tryz.prog 351 (.mk 5):=mk_of (ps:=Tryz.f175.params) (rs:=Tryz.f175.resultTypes) (t:=66) (run_callFunc_extern Tryz.func175 Xb Xb Xb Xb) Xb Xb Xb
theorem uxk126:UxOK Tryz.prog 126 .fnc:=fnc_of Xb
theorem uxAll:Tr.All (λk x=>UxOK Tryz.prog k x) (λk=>k) uxT:=(.skip (.skip (.skip (.skip (.skip (.skip .nil (.skip .nil (.skip (.here uxk351 .nil .nil) .nil))) .nil) .nil) .nil) .nil) (.skip (.skip (.skip (.skip .nil (.skip (.skip (.skip (.here uxk272 .nil .nil) .nil) .nil) .nil)) (.skip (.skip (.skip (.skip .nil (.here uxk392 .nil .nil)) .nil) .nil) .nil)) .nil) (.skip (.skip (.skip (.skip (.skip (.here uxk130 .nil .nil) .nil) .nil) .nil) .nil) (.skip .nil (.skip .nil (.skip .nil (.here uxk126 .nil .nil)))))))
theorem extAll:Tr.All (λf e=>vaq Tryz.prog f e) (λk=>k) extT:=(.skip (.skip (.skip (.skip (.skip .nil (.skip .nil (.skip (.here xok175 .nil .nil) .nil))) (.skip .nil (.skip (.here xok87 .nil .nil) .nil))) (.skip (.skip .nil (.skip .nil (.skip .nil (.here xok243 .nil .nil)))) .nil)) (.skip .nil (.skip .nil (.skip .nil (.skip .nil (.skip (.skip .nil (.here xok445 .nil .nil)) .nil)))))) (.skip (.skip .nil (.skip (.skip .nil (.skip (.skip (.here xok148 .nil .nil) .nil) .nil)) .nil)) .nil))
theorem mto236:MtOK Tryz.prog 236 [("beadroll/node.can",281),("beadroll/node.step",282)]:=jcq (vAq (pr:=false) Xb Xb) (jcq (vAq (pr:=false) Xb Xb) (Zkq))
theorem mto238:MtOK Tryz.prog 238 [("beadroll/node.can",365),("beadroll/node.step",366)]:=jcq (vAq (pr:=false) Xb Xb) (jcq (vAq (pr:=false) Xb Xb) (Zkq))
theorem mto239:MtOK Tryz.prog 239 [("beadroll/node.can",369),("beadroll/node.step",370)]:=jcq (vAq (pr:=false) Xb Xb) (jcq (vAq (pr:=false) Xb Xb) (Zkq))
theorem mtAll:Tr.All (λt l=>MtOK Tryz.prog t l) (λk=>k) mtT:=(.skip (.skip (.skip (.skip (.skip .nil (.skip .nil (.skip .nil (.here mto239 .nil .nil)))) .nil) .nil) .nil) (.skip (.skip .nil (.skip .nil (.skip (.skip .nil (.skip .nil (.here mto236 .nil .nil))) .nil))) (.skip .nil (.skip .nil (.skip (.skip .nil (.skip .nil (.here mto238 .nil .nil))) .nil)))))
theorem mok28:Tryz.prog.underlying 28=some (.map 9 50):=by kernel_rfl
theorem mok64:Tryz.prog.underlying 64=some (.map 9 63):=by kernel_rfl
theorem mok104:Tryz.prog.underlying 104=some (.map 9 103):=by kernel_rfl
theorem mpAll:Tr.All (λt p=>Tryz.prog.underlying t=some (.map p.1 p.2)) (λk=>k) mpT:=(.skip .nil (.skip (.skip (.skip (.skip (.skip (.here mok64 .nil .nil) .nil) .nil) (.skip (.skip .nil (.here mok104 .nil .nil)) .nil)) (.skip .nil (.here mok28 .nil .nil))) .nil))
theorem cfgOK:CfgOK Tryz.prog cfg:=⟨λt i h=>tyAll.at_ h,λf e h=>extAll.at_ h,λt k e h=>mpAll.at_ h,mtOf_ok λt l h=>mtAll.at_ h,ux_ptr λk x h=>uxAll.at_ h,ux_raw λk x h=>uxAll.at_ h,ux_fnc λk x h=>uxAll.at_ h,ux_mk λk x h=>uxAll.at_ h⟩
theorem fnsOK:khq Tryz.prog cfg:=fnsOK_of λf fn h=>fnAll.at_ h
theorem mixed:Tryz.prog.follows .mixedOrders=true:=by kernel_rfl
end
end
end Go.Proofs.YthicobhmmikngaaGreatDoor

/- CallAlone's ground, part 5. No condition. -/
import Derived.Test.YtcoldbcijgmidaaGreatDoorYCallAloneD
set_option linter.unusedSimpArgs false
set_option linter.unusedVariables false
namespace Go.Proofs.YtcoldbcijgmidaaGreatDoor
noncomputable section
section
open Go.RowKit
section
set_option maxRecDepth 100000
theorem tkO{P:Program}{t:TypeId}{i:TyI}(d:i.d.Is P t)(s:(P.info? t).map (·.size)=some i.size:=by kernel_rfl)(b:(P.info? t).map (·.bytes)=some i.bytes:=by kernel_rfl)(z:∀c,(P.info? t).bind (·.zero)=some (abq c i.zero):=by intro c;kernel_rfl)(y:ciq i.zero=true:=by kernel_rfl)(v:i.zero.isAgg=i.agg:=by kernel_rfl)(x:i.zero.size=i.size:=by kernel_rfl)(g:i.agg=false:=by kernel_rfl)(l:i.zero.leaf=true:=by kernel_rfl):TyOK P t i:=⟨s,b,z,dPq y,d,λh=>(by rw[g] at h;cases h),v,λ_=>l,x⟩
theorem tkU{P:Program}{t:TypeId}{i:TyI}(d:i.d.Is P t:=by show Program.underlying _ _=_;kernel_rfl)(s:(P.info? t).map (·.size)=some i.size:=by kernel_rfl)(b:(P.info? t).map (·.bytes)=some i.bytes:=by kernel_rfl)(z:∀c,(P.info? t).bind (·.zero)=some (abq c i.zero):=by intro c;kernel_rfl)(y:ciq i.zero=true:=by kernel_rfl)(v:i.zero.isAgg=i.agg:=by kernel_rfl)(x:i.zero.size=i.size:=by kernel_rfl)(g:i.agg=false:=by kernel_rfl)(l:i.zero.leaf=true:=by kernel_rfl):TyOK P t i:=⟨s,b,z,dPq y,d,λh=>(by rw[g] at h;cases h),v,λ_=>l,x⟩
theorem tkR{P:Program}{t:TypeId}{i:TyI}(d:i.d.Is P t:=by exact⟨by kernel_rfl,by kernel_rfl⟩)(s:(P.info? t).map (·.size)=some i.size:=by kernel_rfl)(b:(P.info? t).map (·.bytes)=some i.bytes:=by kernel_rfl)(z:∀c,(P.info? t).bind (·.zero)=some (abq c i.zero):=by intro c;kernel_rfl)(y:ciq i.zero=true:=by kernel_rfl)(v:i.zero.isAgg=i.agg:=by kernel_rfl)(x:i.zero.size=i.size:=by kernel_rfl)(e:P.eqGuardType P.depth t=false:=by kernel_rfl)(g:i.agg=true:=by kernel_rfl):TyOK P t i:=⟨s,b,z,dPq y,d,λ_=>e,v,λh=>(by rw[g] at h;cases h),x⟩
theorem tkS{P:Program}{t:TypeId}{i:TyI}(d:i.d.Is P t:=by exact⟨by kernel_rfl,by kernel_rfl,by kernel_rfl,by kernel_rfl,by kernel_rfl⟩)(s:(P.info? t).map (·.size)=some i.size:=by kernel_rfl)(b:(P.info? t).map (·.bytes)=some i.bytes:=by kernel_rfl)(z:∀c,(P.info? t).bind (·.zero)=some (abq c i.zero):=by intro c;kernel_rfl)(y:ciq i.zero=true:=by kernel_rfl)(v:i.zero.isAgg=i.agg:=by kernel_rfl)(x:i.zero.size=i.size:=by kernel_rfl)(e:P.eqGuardType P.depth t=false:=by kernel_rfl)(g:i.agg=true:=by kernel_rfl):TyOK P t i:=⟨s,b,z,dPq y,d,λ_=>e,v,λh=>(by rw[g] at h;cases h),x⟩
theorem fkz{P:Program}{f:FuncId}{n:Func}(h:P.funcs[f]? =some n)(a:(n.name== "runtime.NumGoroutine")=false:=by kernel_rfl)(b:n.body.isSome=true:=by kernel_rfl)(k:(match n.body with|some c=>yQq n.ntmps c|none=>true)=true:=by kernel_rfl):FnOK P f n:=by
 obtain⟨c,e⟩:=Option.isSome_iff_exists.1 b;exact⟨h,Go.Proofs.enters_of h a e,k⟩
theorem tyAll:Tr.All (λt i=>TyOK Tryz.prog t i) (λk=>k) tyT:=by repeat' first|exact .nil|refine .skip ?_ ?_|refine .here (by first|exact tkU|exact tkS|exact tkR|exact tkO (nrq Xp)|exact tkO (n3q Xp)) ?_ ?_
theorem fnAll:Tr.All (λf a=>FnOK Tryz.prog f a) (λk=>k) fnT:=by repeat' first|exact .nil|refine .skip ?_ ?_|refine .here (fkz Xp) ?_ ?_
theorem wnq:l6q Tryz.prog 286 frq:=o1q (run_callFunc_extern Tryz.func286 Xp Xp Xp (e:=add64Entry) Xp)
theorem wmq:l6q Tryz.prog 294 noV:=C7q
theorem uxAll:Tr.All (λk x=>o3q Tryz.prog k x) (λk=>k) uxT:=.nil
theorem extAll:Tr.All (λf e=>l6q Tryz.prog f e) (λk=>k) extT:=(.skip .nil (.skip .nil (.skip .nil (.skip (.skip (.skip .nil (.skip (.skip (.here wmq .nil .nil) .nil) .nil)) .nil) (.skip .nil (.skip (.skip (.skip (.here wnq .nil .nil) .nil) .nil) .nil))))))
theorem mtAll:Tr.All (λt l=>Enq Tryz.prog t l) (λk=>k) mtT:=.nil
theorem mpAll:Tr.All (λt p=>Tryz.prog.underlying t=some (.map p.1 p.2)) (λk=>k) mpT:=.nil
theorem rcq(k:List V->Heap->Option (V×Heap)):CfgOK Tryz.prog (gmq k):=⟨λt i h=>tyAll.at_ h,λf e h=>extAll.at_ h,λt k e h=>mpAll.at_ h,ikq λt l h=>mtAll.at_ h,peq λk x h=>uxAll.at_ h,pdq λk x h=>uxAll.at_ h,pfq λk x h=>uxAll.at_ h,wEq λk x h=>uxAll.at_ h⟩
theorem pXq(k:List V->Heap->Option (V×Heap)):Ycq Tryz.prog (gmq k):=oeq λf a h=>fnAll.at_ h
theorem cfgOK:CfgOK Tryz.prog cfg:=rcq _
theorem ofq:Ycq Tryz.prog cfg:=pXq _
theorem rdq:CfgOK Tryz.prog tGq:=⟨λt i h=>tyAll.at_ h,λf e h=>extAll.at_ h,λt k e h=>mpAll.at_ h,ikq λt l h=>mtAll.at_ h,peq λk x h=>uxAll.at_ h,pdq λk x h=>uxAll.at_ h,pfq λk x h=>uxAll.at_ h,wEq λk x h=>uxAll.at_ h⟩
theorem mixed:Tryz.prog.follows .mixedOrders=true:=by kernel_rfl
end
end
end
end Go.Proofs.YtcoldbcijgmidaaGreatDoor

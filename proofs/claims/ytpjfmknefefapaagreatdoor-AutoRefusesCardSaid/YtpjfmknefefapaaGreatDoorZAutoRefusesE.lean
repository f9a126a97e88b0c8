/-
  What the proof of AutoRefuses stands on, part 5. No condition.
-/
import Derived.Test.YtpjfmknefefapaaGreatDoorZAutoRefusesD
set_option linter.unusedSimpArgs false
set_option linter.unusedVariables false
namespace Go.Proofs.YtpjfmknefefapaaGreatDoor
section
open Go.RowKit
section
set_option maxRecDepth 100000
theorem tkO{P:Program}{t:TypeId}{i:TyI}(d:i.d.Is P t)(s:(P.info? t).map (·.size)=some i.size:=by kernel_rfl)(b:(P.info? t).map (·.bytes)=some i.bytes:=by kernel_rfl)(z:∀ρ,(P.info? t).bind (·.zero)=some (aaq ρ i.zero):=by intro ρ;kernel_rfl)(y:b2q i.zero=true:=by kernel_rfl)(v:i.zero.isAgg=i.agg:=by kernel_rfl)(x:i.zero.size=i.size:=by kernel_rfl)(g:i.agg=false:=by kernel_rfl)(l:i.zero.leaf=true:=by kernel_rfl):TyOK P t i:=⟨s,b,z,drq y,d,λh=>(by rw[g] at h;cases h),v,λ_=>l,x⟩
theorem tkU{P:Program}{t:TypeId}{i:TyI}(d:i.d.Is P t:=by show Program.underlying _ _=_;kernel_rfl)(s:(P.info? t).map (·.size)=some i.size:=by kernel_rfl)(b:(P.info? t).map (·.bytes)=some i.bytes:=by kernel_rfl)(z:∀ρ,(P.info? t).bind (·.zero)=some (aaq ρ i.zero):=by intro ρ;kernel_rfl)(y:b2q i.zero=true:=by kernel_rfl)(v:i.zero.isAgg=i.agg:=by kernel_rfl)(x:i.zero.size=i.size:=by kernel_rfl)(g:i.agg=false:=by kernel_rfl)(l:i.zero.leaf=true:=by kernel_rfl):TyOK P t i:=⟨s,b,z,drq y,d,λh=>(by rw[g] at h;cases h),v,λ_=>l,x⟩
theorem tkR{P:Program}{t:TypeId}{i:TyI}(d:i.d.Is P t:=by exact⟨by kernel_rfl,by kernel_rfl⟩)(s:(P.info? t).map (·.size)=some i.size:=by kernel_rfl)(b:(P.info? t).map (·.bytes)=some i.bytes:=by kernel_rfl)(z:∀ρ,(P.info? t).bind (·.zero)=some (aaq ρ i.zero):=by intro ρ;kernel_rfl)(y:b2q i.zero=true:=by kernel_rfl)(v:i.zero.isAgg=i.agg:=by kernel_rfl)(x:i.zero.size=i.size:=by kernel_rfl)(e:P.eqGuardType P.depth t=false:=by kernel_rfl)(g:i.agg=true:=by kernel_rfl):TyOK P t i:=⟨s,b,z,drq y,d,λ_=>e,v,λh=>(by rw[g] at h;cases h),x⟩
theorem tkS{P:Program}{t:TypeId}{i:TyI}(d:i.d.Is P t:=by exact⟨by kernel_rfl,by kernel_rfl,by kernel_rfl,by kernel_rfl,by kernel_rfl⟩)(s:(P.info? t).map (·.size)=some i.size:=by kernel_rfl)(b:(P.info? t).map (·.bytes)=some i.bytes:=by kernel_rfl)(z:∀ρ,(P.info? t).bind (·.zero)=some (aaq ρ i.zero):=by intro ρ;kernel_rfl)(y:b2q i.zero=true:=by kernel_rfl)(v:i.zero.isAgg=i.agg:=by kernel_rfl)(x:i.zero.size=i.size:=by kernel_rfl)(e:P.eqGuardType P.depth t=false:=by kernel_rfl)(g:i.agg=true:=by kernel_rfl):TyOK P t i:=⟨s,b,z,drq y,d,λ_=>e,v,λh=>(by rw[g] at h;cases h),x⟩
theorem fkz{P:Program}{f:FuncId}{n:Func}(h:P.funcs[f]? =some n)(a:(n.name== "runtime.NumGoroutine")=false:=by kernel_rfl)(b:n.body.isSome=true:=by kernel_rfl)(k:(match n.body with|some c=>yAq n.ntmps c|none=>true)=true:=by kernel_rfl):FnOK P f n:=by
 obtain⟨c,e⟩:=Option.isSome_iff_exists.1 b;exact⟨h,Go.Proofs.enters_of h a e,k⟩
theorem tyAll:Tr.All (λt i=>TyOK Tryz.prog t i) (λk=>k) tyT:=by repeat' first|exact .nil|refine .skip ?_ ?_|refine .here (by first|exact tkU|exact tkS|exact tkR|exact tkO (l9q Xp)|exact tkO (mGq Xp)) ?_ ?_
theorem fnAll:Tr.All (λf fn=>FnOK Tryz.prog f fn) (λk=>k) fnT:=by repeat' first|exact .nil|refine .skip ?_ ?_|refine .here (fkz Xp) ?_ ?_
theorem sTq:iXq Tryz.prog 232 noV:=A0q
theorem sSq:iXq Tryz.prog 279 eMq:=nFq (run_callFunc_extern Tryz.func279 Xp Xp Xp (e:=add64Entry) Xp)
theorem uxAll:Tr.All (λk x=>nGq Tryz.prog k x) (λk=>k) uxT:=.nil
theorem extAll:Tr.All (λf e=>iXq Tryz.prog f e) (λk=>k) extT:=(.skip (.skip (.skip (.skip .nil (.skip .nil (.skip (.skip (.skip (.here sSq .nil .nil) .nil) .nil) .nil))) .nil) .nil) (.skip (.skip (.skip .nil (.skip (.skip .nil (.skip .nil (.here sTq .nil .nil))) .nil)) .nil) .nil))
theorem mtAll:Tr.All (λt l=>Ccq Tryz.prog t l) (λk=>k) mtT:=.nil
theorem mpAll:Tr.All (λt p=>Tryz.prog.underlying t=some (.map p.1 p.2)) (λk=>k) mpT:=.nil
theorem oCq(k:List V->Heap->Option (V×Heap)):CfgOK Tryz.prog (fEq k):=⟨λt i h=>tyAll.at_ h,λf e h=>extAll.at_ h,λt k e h=>mpAll.at_ h,hdq λt l h=>mtAll.at_ h,nOq λk x h=>uxAll.at_ h,nNq λk x h=>uxAll.at_ h,nPq λk x h=>uxAll.at_ h,s3q λk x h=>uxAll.at_ h⟩
theorem opq(k:List V->Heap->Option (V×Heap)):vJq Tryz.prog (fEq k):=mTq λf fn h=>fnAll.at_ h
theorem cfgOK:CfgOK Tryz.prog cfg:=oCq _
theorem hOq:vJq Tryz.prog cfg:=opq _
theorem oDq:CfgOK Tryz.prog sbq:=⟨λt i h=>tyAll.at_ h,λf e h=>extAll.at_ h,λt k e h=>mpAll.at_ h,hdq λt l h=>mtAll.at_ h,nOq λk x h=>uxAll.at_ h,nNq λk x h=>uxAll.at_ h,nPq λk x h=>uxAll.at_ h,s3q λk x h=>uxAll.at_ h⟩
theorem mixed:Tryz.prog.follows .mixedOrders=true:=by kernel_rfl
end
end
end Go.Proofs.YtpjfmknefefapaaGreatDoor

/-
  What the proof of AutoRolls stands on, part 4. No condition.
-/
import Derived.OpenShut
import Derived.Handed
import Derived.ChangeArms
import Derived.ChangeOld
import Derived.OpenVars
import Derived.Carry
import Derived.Test.YtpjfmknefefapaaGreatDoorProg
import Derived.Test.YtpjfmknefefapaaGreatDoorZAutoRollsC
set_option linter.unusedSimpArgs false
set_option linter.unusedVariables false
namespace Go.Proofs.YtpjfmknefefapaaGreatDoor
section
open Go.RowKit
section
theorem jUq{m n:Int}:(!ltI n m)=true↔m<=n:=by
 have:= @ltI_not n m;cases h:ltI n m<;>simp[h] at this⊢<;>omega
theorem jVq{m n:Int}:(!eqI m n)=true↔¬m=n:=by
 have:= @eqI_iff m n;cases h:eqI m n<;>simp[h] at this⊢<;>exact this
theorem yAq{p:Prop} [Decidable p]:decide p=true↔p:=by simp
theorem jHq{b:Bool}{p:Prop}(h:b=true↔p):(!b)=true↔¬p:=by
 cases b<;>simp at h⊢<;>exact h
theorem q3q{b:Bool}:b=true↔b=true:=Iff.rfl
section
variable {C:Cfg} {G:Nat->Option W} {m:Nat} {ops:Array Oper} {l:List Oper} {i:Nat} {es:List (Nat×EvW)} {fr:FrW} {hp:HpW} {nw:Nat} {R:Res} {K:FrW->HpW->Nat->Res->Prop} {o:Oper}
theorem op_dec{b:Bool}{p:Prop}(hw:y5q ops fr o=some true)(hx:yuq C G fr o.op=some (.bool b))(hb:b=true↔p)(ht:p->OpW C G m ops l (putW fr o.dst (.bool true)) hp nw R K)(hf:¬p->OpW C G m ops l (putW fr o.dst (.bool false)) hp nw R K):OpW C G m ops (o::l) fr hp nw R K:=by
 cases b with
 |true=>exact yVq hw hx (ht (hb.1 rfl))
 |false=>exact yVq hw hx (hf λh=>by have:=hb.2 h;cases this)
theorem fl_dec{b:Bool}{p:Prop}(hw:y5q ops fr o=some true)(hx:yuq C G fr o.op=some (.bool b))(hb:b=true↔p)(ht:p->FlW C G m ops l (i+1) es (putW fr o.dst (.bool true)) hp nw R K)(hf:¬p->FlW C G m ops l (i+1) es (putW fr o.dst (.bool false)) hp nw R K):FlW C G m ops (o::l) i es fr hp nw R K:=by
 cases b with
 |true=>exact kpq hw hx (ht (hb.1 rfl))
 |false=>exact kpq hw hx (hf λh=>by have:=hb.2 h;cases this)
theorem op_bs{b:Bool}{p:Prop}{d:Nat}(hb:b=true↔p)(ht:p->OpW C G m ops l ((d,.bool true)::fr) hp nw R K)(hf:¬p->OpW C G m ops l ((d,.bool false)::fr) hp nw R K):OpW C G m ops l ((d,.bool b)::fr) hp nw R K:=by
 cases b with
 |true=>exact ht (hb.1 rfl)
 |false=>exact hf λh=>by have:=hb.2 h;cases this
theorem fl_bs{b:Bool}{p:Prop}{d:Nat}(hb:b=true↔p)(ht:p->FlW C G m ops l i es ((d,.bool true)::fr) hp nw R K)(hf:¬p->FlW C G m ops l i es ((d,.bool false)::fr) hp nw R K):FlW C G m ops l i es ((d,.bool b)::fr) hp nw R K:=by
 cases b with
 |true=>exact ht (hb.1 rfl)
 |false=>exact hf λh=>by have:=hb.2 h;cases this
theorem op_cmp{b:Bool}{p:Prop} [Decidable p](hw:y5q ops fr o=some true)(hx:yuq C G fr o.op=some (.bool b))(hb:b=true↔p)(h:OpW C G m ops l (putW fr o.dst (.bool (decide p))) hp nw R K):OpW C G m ops (o::l) fr hp nw R K:=
 yVq hw (by rw[hx];congr 2;rw[Bool.eq_iff_iff,hb];simp) h
theorem fl_cmp{b:Bool}{p:Prop} [Decidable p](hw:y5q ops fr o=some true)(hx:yuq C G fr o.op=some (.bool b))(hb:b=true↔p)(h:FlW C G m ops l (i+1) es (putW fr o.dst (.bool (decide p))) hp nw R K):FlW C G m ops (o::l) i es fr hp nw R K:=
 kpq hw (by rw[hx];congr 2;rw[Bool.eq_iff_iff,hb];simp) h
theorem yCq{t t':TypeId}{x y:Operand}{u v:W}{b:Bool}(hx:evW C G fr x=some u)(hy:evW C G fr y=some v)(ha:u.isAgg=true)(hb:v.isAgg=true)(he:eqW C 300 t u v=some b):yuq C G fr (.binOp .eql t x y t')=some (.bool b):=by
 simp only[yuq,wBin,hx,hy];cases u<;>simp[W.isAgg] at ha<;>cases v<;>simp[W.isAgg] at hb<;>simp only[binW,uUq,W.isAgg,Bool.and_self,he]
theorem jcq{t t':TypeId}{x y:Operand}{u v:W}{b:Bool}(hx:evW C G fr x=some u)(hy:evW C G fr y=some v)(ha:u.isAgg=true)(hb:v.isAgg=true)(he:eqW C 300 t u v=some b):yuq C G fr (.binOp .neq t x y t')=some (.bool (!b)):=by
 simp only[yuq,wBin,hx,hy];cases u<;>simp[W.isAgg] at ha<;>cases v<;>simp[W.isAgg] at hb<;>simp only[binW,uUq,W.isAgg,Bool.and_self,he]
end
theorem ix_str{C:Cfg}{G:Nat->Option W}{fr:FrW}{t:TypeId}{x y:Operand}{j:TyI}{s:List UInt8}{u:W}{i:Nat}{c:UInt8}(hj:C.ty t=some j)(hd:j.d= .str)(hx:evW C G fr x=some (.str s))(hy:evW C G fr y=some u)(hn:natW u=some i)(hi:s[i]? =some c):
  yuq C G fr (.index t x y)=some (.int .u8 (.ofNat c.toNat)):=by
 simp only[yuq,wIndex,hj,hd,hx,hy,hn,hi]
theorem mk_slice{C:Cfg}{G:Nat->Option W}{fr:FrW}{hp:HpW}{nw:Nat}{t e:TypeId}{x y:Operand}{j k:TyI}{u v z:W}{l c:Nat}(hj:C.ty t=some j)(hd:j.d= .slice e)(hx:evW C G fr x=some u)(hy:evW C G fr y=some v)(hl:natW u=some l)(hc:natW v=some c)(hk:C.ty e=some k)(h0:Nat.beq k.size 0=false)(h1:l<=c)(h2:k.bytes*c<=281474976710656)(h3:c<=9223372036854775807)(hz:embW k.zero=some z)(hs:Nat.beq z.size k.size=true):
  opHW C G fr hp nw (.makeSlice t x y)=some (.sl nw 0 0 l k.size none,(nw,e,.arr (c*k.size) k.size (List.replicate c z))::hp,nw+1,.gen):=by
 have:(Nat.beq k.size 0||!Nat.ble l c||!Nat.ble (k.bytes*c) 281474976710656||!Nat.ble c 9223372036854775807)=false:=by
  rw[h0,Nat.ble_eq_true_of_le h1,Nat.ble_eq_true_of_le h2,Nat.ble_eq_true_of_le h3];rfl
 simp only[opHW,hMakeS,hj,hd,hx,hy,hl,hc,hk,this,hz,hs,repW]
theorem uIq{C:Cfg}{hp:HpW}{tx e ty:TypeId}{j:TyI}{esz b base off n:Nat}{lim:Option Nat}{v:W}{l:List W}(hj:C.ty tx=some j)(hd:j.d= .slice e)(hb:hget hp b=some (ty,v))(hl:yFq 50 v off n esz=some l):srcW C hp tx esz (.sl b base off n esz lim)=some l:=by
 simp only[srcW,hj,hd,show Nat.beq esz esz=true by simp,hb,hl]
theorem hset_same{b:Nat}{x:TypeId×W}:∀{hp:HpW},hget hp b=some x->hset hp b x=hp
 |[],h=>rfl
 |(j,z)::hp,h=>by
  rw[zgq] at h;simp only[hset];split
  ·rename_i e;rw[Nat.beq_eq] at e;rw[if_pos e] at h;cases h;rfl
  ·rename_i e;have hne:j≠b:=λe2=>by subst e2;simp at e
   rw[if_neg hne] at h;rw[hset_same h]
theorem st_same{C:Cfg}{G:Nat->Option W}{fr:FrW}{hp:HpW}{nw:Nat}{t:TypeId}{x y:Operand}{b off:Nat}{ti:TyI}{ty:TypeId}{u v:W}(hx:evW C G fr x=some (.ptr b off))(hy:evW C G fr y=some u)(hi:C.ty t=some ti)(hb:hget hp b=some (ty,v))(hs:Nat.beq u.size ti.size=true)(hg:yDq 50 v off u=some v):opHW C G fr hp nw (.store t x y)=some (.undef,hp,nw,.storeO b):=
 qhq hx hy hi hb hs hg (hset_same hb)
theorem jQq{τ:Nat->Nat}{b:Nat}{ty:TypeId}{c:W}(h:purW c=true):renH τ [(b,ty,c)]=[(τ b,ty,c)]:=by simp only[renH,zoq h]
theorem cut_fz{C:Cfg}{G:Nat->Option W}{fr:FrW}{t e:TypeId}{x:Operand}{lo hi:Option Operand}{j k:TyI}{xs ys:List W}{esz l h:Nat}{full g:Bool}(hj:C.ty t=some j)(hd:j.d= .slice e)(hx:evW C G fr x=some (.fz xs esz full))(hk:C.ty e=some k)(hs:Nat.beq k.size esz=true)(hl:bndW C G fr 0 lo=some l)(hh:bndW C G fr xs.length hi=some h)(h1:l<=h)(h2:h<=xs.length)(hy:(xs.drop l).take (h-l)=ys)(hg:(full&&Nat.beq h xs.length)=g):
  yuq C G fr (.slice t x lo hi none)=some (.fz ys esz g):=by
 subst hy;subst hg
 have:(Nat.ble l h&&Nat.ble h xs.length)=true:=by rw[Nat.ble_eq_true_of_le h1,Nat.ble_eq_true_of_le h2];rfl
 simp only[yuq,Zrq,hj,hd,hx,hk,hs,hl,hh,cutF,this]
theorem cut_fz3{C:Cfg}{G:Nat->Option W}{fr:FrW}{t e:TypeId}{x z zm:Operand}{lo:Option Operand}{j k:TyI}{xs ys:List W}{esz l h m:Nat}{full g:Bool}(hj:C.ty t=some j)(hd:j.d= .slice e)(hx:evW C G fr x=some (.fz xs esz full))(hk:C.ty e=some k)(hs:Nat.beq k.size esz=true)(hl:bndW C G fr 0 lo=some l)(hh:bndW C G fr xs.length (some z)=some h)(hm:bndW C G fr 0 (some zm)=some m)(h1:l<=h)(h2:h<=m)(h3:m<=xs.length)(h4:1<=m)(hy:(xs.drop l).take (h-l)=ys)(hg:Nat.beq h m=g):
  yuq C G fr (.slice t x lo (some z) (some zm))=some (.fz ys esz g):=by
 subst hy;subst hg
 have:(Nat.ble l h&&Nat.ble h m&&Nat.ble m xs.length&&Nat.ble 1 m)=true:=by rw[Nat.ble_eq_true_of_le h1,Nat.ble_eq_true_of_le h2,Nat.ble_eq_true_of_le h3,Nat.ble_eq_true_of_le h4];rfl
 simp only[yuq,Zrq,hj,hd,hx,hk,hs,hl,hh,hm,cutF,this]
theorem co_dec{C:Cfg}{G:Nat->Option W}{m k0:Nat}{rd:Bool}{fr:FrW}{hp:HpW}{nw:Nat}{R:Res}{Q:qaq}{c:Operand}{x y:Code}{b:Bool}{p:Prop}(hc:evW C G fr c=some (.bool b))(hb:b=true↔p)(ht:p->CoW C G m k0 rd x fr hp nw R Q)(hf:¬p->CoW C G m k0 rd y fr hp nw R Q):CoW C G m k0 rd (.cond c x y) fr hp nw R Q:=
 co_cond hc (λh=>ht (hb.1 h)) (λh=>hf λhp=>by have:=hb.2 hp;rw[h] at this;cases this)
theorem qUq{C:Cfg}{G:Nat->Option W}{o:Oper}{fr:FrW}{hp:HpW}{nw:Nat}{R:Res}{post:W->HpW->Nat->Res->Option EvW->Prop}{t t' e0:TypeId}{x y:Operand}{j:TyI}{l:List W}{e:Nat}{f:Bool}(ho:o.op= .binOp .eql t x y t')(hj:C.ty t=some j)(hd:j.d= .slice e0)(hx:evW C G fr x=some (.fz l e f))(hy:evW C G fr y=some .nils)
  (h:∀b,(b=true->l=[]) ->post (.bool b) hp nw R none):Step C G o fr hp nw R post:=λΓ X frv hnw s hf=>by
 subst hnw;obtain⟨u,e1,e2⟩:=zUq hf s.gl hx;obtain⟨v,e3,e4⟩:=zUq hf s.gl hy;rw[RV_nils] at e4;subst e4
 have h1:=e2.one rfl;simp only[RS,List.cons.injEq,and_true] at h1;rcases h1 with ⟨rfl,rfl⟩|⟨b,base,off,lim,bv,rfl,_⟩
 ·have hp':z4q C frv o.type o.op=some (.bool true):=by
   rw[ho];simp only[z4q,yaq,e1,e3,binV,uhq,eqV,hj,hd]
  exact⟨0,.bool true,hp,R,none,.bool true,Γ.h,Γ,X,h true (λ_=>rfl),by simp only[opV,hp'],⟨hp',rfl⟩,rfl,Ctx.Le.refl _,s,Frm.refl _ _ _ _,RV_bool.2 rfl⟩
 ·have hp':z4q C frv o.type o.op=some (.bool false):=by
   rw[ho];simp only[z4q,yaq,e1,e3,binV,uhq,eqV,hj,hd]
  exact⟨0,.bool false,hp,R,none,.bool false,Γ.h,Γ,X,h false (λh=>by cases h),by simp only[opV,hp'],⟨hp',rfl⟩,rfl,Ctx.Le.refl _,s,Frm.refl _ _ _ _,RV_bool.2 rfl⟩
noncomputable def PS(C:Cfg)(G:Nat->Option W)(f:FuncId)(ws:List W)(w:W):Prop:=qbq C G f 0 ws [] λw' _ _=>w'=w
section
variable {C:Cfg} {G:Nat->Option W} {m:Nat} {ops:Array Oper} {l:List Oper} {i:Nat} {es:List (Nat×EvW)} {fr:FrW} {hp:HpW} {nw:Nat} {R:Res} {K:FrW->HpW->Nat->Res->Prop} {o:Oper} {x:Operand} {xs:Array Operand} {ats:Array TypeId} {f:FuncId} {a us c ws:List W} {w:W}
theorem QIq{post:W->HpW->Nat->Res->Option EvW->Prop}(ho:o.op= .call ⟨.value x,xs,ats⟩)(hx:evW C G fr x=some (.fn f a c))(he:C.ext f=none)(hxs:evLW C G fr xs.toList=some us)(hws:a++us++c=ws)(sp:PS C G f ws w)(hpw:purL ws=true)(hw:purW w=true)(h:post w hp nw R (some .gen)):Step C G o fr hp nw R post:=by
 subst hws;exact vqq ho hx he hxs sp hpw λw' _ _ hq=>by subst hq;exact⟨hw,h⟩
theorem YFq(hg:y5q ops fr o=some true)(ho:o.op= .call ⟨.value x,xs,ats⟩)(hx:evW C G fr x=some (.fn f a c))(he:C.ext f=none)(hxs:evLW C G fr xs.toList=some us)(hws:a++us++c=ws)(sp:PS C G f ws w)(hpw:purL ws=true)(hw:purW w=true)(h:OpW C G m ops l (putW fr o.dst w) hp nw R K):OpW C G m ops (o::l) fr hp nw R K:=
 z5q hg (QIq ho hx he hxs hws sp hpw hw h)
theorem fl_ps(hg:y5q ops fr o=some true)(ho:o.op= .call ⟨.value x,xs,ats⟩)(hx:evW C G fr x=some (.fn f a c))(he:C.ext f=none)(hxs:evLW C G fr xs.toList=some us)(hws:a++us++c=ws)(sp:PS C G f ws w)(hpw:purL ws=true)(hw:purW w=true)(hc:evsW ops i .gen es=true)(h:FlW C G m ops l (i+1) ((i,.gen)::es) (putW fr o.dst w) hp nw R K):FlW C G m ops (o::l) i es fr hp nw R K:=
 qfq hg (QIq ho hx he hxs hws sp hpw hw ⟨hc,h⟩)
theorem step_lk{post:W->HpW->Nat->Res->Option EvW->Prop}(ho:o.op= .call ⟨.value x,xs,ats⟩)(hx:evW C G fr x=some (.fn f a c))(he:C.ext f=none)(hxs:evLW C G fr xs.toList=some us)(hws:ViewL (blkA hp) (a++us++c) ws)(sp:PS C G f ws w)(hpw:purL ws=true)(hw:x3q w=true)(h:post w hp nw R (some .gen)):Step C G o fr hp nw R post:=
 step_look ho hx he hxs hws sp hpw λw' _ _ hq=>by subst hq;exact⟨hw,h⟩
theorem op_lk(hg:y5q ops fr o=some true)(ho:o.op= .call ⟨.value x,xs,ats⟩)(hx:evW C G fr x=some (.fn f a c))(he:C.ext f=none)(hxs:evLW C G fr xs.toList=some us)(hws:ViewL (blkA hp) (a++us++c) ws)(sp:PS C G f ws w)(hpw:purL ws=true)(hw:x3q w=true)(h:OpW C G m ops l (putW fr o.dst w) hp nw R K):OpW C G m ops (o::l) fr hp nw R K:=
 z5q hg (step_lk ho hx he hxs hws sp hpw hw h)
end
theorem renWL_pur{τ:Nat->Nat}{l:List W}(h:purL l=true):yKq τ l=l:=by
 have:=zoq (τ:=τ) (w:=.tup l) h;simpa only[renW,W.tup.injEq] using this
theorem jhq{C:Cfg}{G:Nat->Option W}{o:Oper}{fr:FrW}{hp:HpW}{nw:Nat}{R:Res}{post:W->HpW->Nat->Res->Option EvW->Prop}{x:Operand}{xs:Array Operand}{ats:Array TypeId}{f:FuncId}{a us c ws:List W}{Q:W->HpW->Nat->Prop}(ho:o.op= .call ⟨.value x,xs,ats⟩)(hx:evW C G fr x=some (.fn f a c))(he:C.ext f=none)(hxs:evLW C G fr xs.toList=some us)(hws:a++us++c=ws)(hpw:purL ws=true)(sp:qbq C G f 0 ws [] Q)
  (hpost:∀w hp1 nw1,Q w hp1 nw1->post (renW (numC [] nw) w) (renH (numC [] nw) hp1++hp) (nw+nw1) R (some .dirty)):Step C G o fr hp nw R post:=
 yNq (ext:=[]) (ws:=ws) (hp0:=[]) ho hx he hxs (by rw[hws,renWL_pur hpw]) sp List.nodup_nil Xl Xl (λi ty w h=>by simp[hget] at h) (zfq (w:=.tup ws) hpw) hpost
noncomputable def refF(n:Nat):FrW->Prop
 |[]=>True
 |(_,w)::l=>refB n w=true/\refF n l
theorem QQq{n:Nat}:∀{l:FrW},refF n l->l.all (λp=>refB n p.2)=true
 |[],_=>rfl
 |(t,w)::l,h=>by simp only[List.all_cons,h.1,Bool.true_and];exact QQq h.2
theorem uPq{n:Nat}:∀{a b:FrW},refF n a->refF n b->refF n (a++b)
 |[],b,_,h=>h
 |(t,w)::a,b,h,k=>⟨h.1,uPq h.2 k⟩
theorem jgq{fr:FrW}:∀{a b:FrW},subF fr a->subF fr b->subF fr (a++b)
 |[],b,_,h=>h
 |(t,w)::a,b,h,k=>⟨h.1,jgq h.2 k⟩
mutual
theorem Qoq{Γ:Ctx}:∀{w:W} {s:List V},RS Γ w s->refB Γ.nw w=true
 |.undef,_,_=>rfl
 |.bool _,_,_=>rfl
 |.int _ _,_,_=>rfl
 |.str _,_,_=>rfl
 |.nilp,_,_=>rfl
 |.ptr b off,_,h=>by simp only[RS] at h;exact decide_eq_true h.1
 |.nils,_,_=>rfl
 |.sl b _ _ _ _ _,_,h=>by simp only[RS] at h;exact decide_eq_true h.1
 |.fz l e full,_,h=>by
  simp only[RS] at h;simp only[refB];rcases h with ⟨rfl,_⟩|⟨b,base,off,lim,bv,_,_,_,_,_,_,_,h⟩
  ·rfl
  ·exact JAq h
 |.fel x,_,h=>by
  simp only[RS] at h;obtain⟨b,off,bv,_,_,_,_,_,_,h⟩:=h;exact Qoq (w:=x) h
 |.nilm,_,_=>rfl
 |.fn f a c,_,h=>by
  simp only[RS] at h;obtain⟨a',c',_,h1,h2⟩:=h;simp only[refB,Jyq h1,Jyq h2,Bool.and_self]
 |.yield _,_,_=>rfl
 |.nilf,_,_=>rfl
 |.iface t x,_,h=>by
  simp only[RS] at h;obtain⟨v,_,_,h⟩:=h;exact Qoq (w:=x) h
 |.nili,_,_=>rfl
 |.agg n l,_,h=>by simp only[RS] at h;exact JAq (l:=l) h.2
 |.arr n e l,_,h=>by simp only[RS] at h;exact JAq (l:=l) h.2.2
 |.tup l,_,h=>by
  simp only[RS] at h;obtain⟨vs,_,h⟩:=h;exact Jyq (l:=l) h
theorem JAq{Γ:Ctx}:∀{l:List W} {s:List V},RSL Γ l s->refL Γ.nw l=true
 |[],_,_=>rfl
 |w::l,s,h=>by
  simp only[RSL] at h;simp only[refL,Qoq h.1,JAq h.2,Bool.and_self]
theorem Jyq{Γ:Ctx}:∀{l:List W} {vs:List V},RVL Γ l vs->refL Γ.nw l=true
 |[],_,_=>rfl
 |w::l,_,h=>by
  simp only[RVL] at h;obtain⟨v,vs,_,h1,h2⟩:=h;simp only[refL,Qoq h1.2,Jyq h2,Bool.and_self]
end
section
variable {C:Cfg} {G:Nat->Option W} {m k0:Nat} {rd:Bool} {fr:FrW} {hp hp':HpW} {nw nw':Nat} {R:Res} {Q:qaq} {c:Code}
theorem co_facts(h:m<=nw->(∀t w,getW fr t=some w->refB nw w=true) ->(∀b x,hget hp b=some x->b<nw/\refB nw x.2=true) ->(hp.map (·.1)).Nodup->CoW C G m k0 rd c fr hp nw R Q):CoW C G m k0 rd c fr hp nw R Q:=λΓ X st h1 h2 h3 h4 h5=>
 h h2 (λt w hw=>by obtain⟨v,_,hv⟩:=h5.fr t w hw;exact h1▸Qoq hv.2) (λb x hb=>by
  obtain⟨q1,_,_,v,_,q5⟩:=h5.sat.own b x.1 x.2 hb;exact⟨h1▸q1,h1▸Qoq q5.2⟩) h5.sat.nd Γ X st h1 h2 h3 h4 h5
noncomputable def v8q(hp' hp:HpW)(nw:Nat):Prop:=∀b x,b<nw->hget hp b=some x->hget hp' b=some x
theorem xRq:v8q hp hp nw:=λ_ _ _ h=>h
theorem xUq{k:Nat}{y:TypeId×W}(hk:nw<=k)(h:v8q hp' hp nw):v8q ((k,y)::hp') hp nw:=λb x hb hx=>by
 rw[zgq,if_neg Xd];exact h b x hb hx
theorem vUq{k b:Nat}{y:TypeId×W}(hne:k≠b):∀{hp:HpW},hget (hset hp k y) b=hget hp b
 |[]=>rfl
 |(j,z)::hp=>by
  simp only[hset];split
  ·rename_i e;rw[Nat.beq_eq] at e;subst e;rw[zgq,zgq,if_neg hne,if_neg hne]
  ·rw[zgq,zgq,vUq hne]
theorem xSq{k:Nat}{y:TypeId×W}(hk:nw<=k)(h:v8q hp' hp nw):v8q (hset hp' k y) hp nw:=λb x hb hx=>by
 rw[vUq Xd];exact h b x hb hx
theorem xrq{k b:Nat}(hne:k≠b):∀{hp:HpW},hget (hdel hp k) b=hget hp b
 |[]=>rfl
 |(j,z)::hp=>by
  simp only[hdel];split
  ·rename_i e;rw[Nat.beq_eq] at e;subst e;rw[zgq,if_neg hne]
  ·rw[zgq,zgq,xrq hne]
theorem xTq{k:Nat}(hk:nw<=k)(h:v8q hp' hp nw):v8q (hdel hp' k) hp nw:=λb x hb hx=>by
 rw[xrq Xd];exact h b x hb hx
noncomputable def QRk{α:Type}(I:α->Prop)(V:α->FrW)(kf:FrW)(hp:HpW)(nw:Nat)(RR:α->Res)(μ:α->Nat)(k:Nat)(Q:qaq):qaq
 |.normal,fr',hp',nw',R'=>∃a,I a/\μ a<k/\subF fr' (V a)/\subF fr' kf/\refF nw (V a)/\nw<=nw'/\v8q hp' hp nw/\R'=RR a
 |x,fr',hp',nw',R'=>Q x fr' hp' nw' R'
theorem Zoq{α:Type}(I:α->Prop)(V:α->FrW)(kf:FrW)(RR:α->Res)(μ:α->Nat)(a0:α)(hk:subF fr kf)(h0:I a0)(hv:subF fr (V a0))(hR:R=RR a0)
  (step:∀a,I a->CoW C G m k0 rd c (V a++kf) hp nw (RR a) (QRk I V kf hp nw RR μ (μ a) Q)):CoW C G m k0 rd (.loop c) fr hp nw R Q:=by
 subst hR
 exact co_facts λhm f1 f2 f3=>jbq I (λa=>V a++kf) (λ_=>hp) (λ_=>nw) RR μ a0 h0 (qgq (jgq hv hk) Z Z) λa ha=>
  Jrq (step a ha) λx fr' hp' nw' R' h=>by
   cases x with
   |normal=>
    obtain⟨a',h1,h2,h3,h4,h5,h6,h7,rfl⟩:=h
    have kref:∀{l:FrW},subF fr l->refF nw l:=λ{l}=>by
     induction l with
     |nil=>intro _;trivial
     |cons p l ih=>
      obtain⟨t,w⟩:=p;intro h;exact⟨f1 t w h.1,ih h.2⟩
    exact⟨a',h1,h2,q2q hm h6 (jgq h3 h4) (QQq (uPq h5 (kref hk))) (λb x hb=>⟨(f2 b x hb).1,h7 b x (f2 b x hb).1 hb,(f2 b x hb).2⟩) f3⟩
   |ret=>exact h
   |exit _=>exact h
   |goto _=>exact h
   |panic _=>exact h
   |outgrown=>exact h
theorem co_loopK{α:Type}(I:α->Prop)(V:α->FrW)(kf:FrW)(μ:α->Nat)(a0:α)(hk:subF fr kf)(h0:I a0)(hv:subF fr (V a0))
  (step:∀a,I a->CoW C G m k0 rd c (V a++kf) hp nw R (QRk I V kf hp nw (λ_=>R) μ (μ a) Q)):CoW C G m k0 rd (.loop c) fr hp nw R Q:=Zoq I V kf (λ_=>R) μ a0 hk h0 hv rfl step
theorem q_outk{α:Type}{I:α->Prop}{V:α->FrW}{kf:FrW}{RR:α->Res}{μ:α->Nat}{k:Nat}{x:Exit}{fr':FrW}{R':Res}(hx:x≠ .normal)(h:Q x fr' hp' nw' R'):QRk I V kf hp nw RR μ k Q x fr' hp' nw' R':=by cases x<;>first|exact h|exact absurd rfl hx
theorem q_againK{α:Type}{I:α->Prop}{V:α->FrW}{kf:FrW}{RR:α->Res}{μ:α->Nat}{k:Nat}{fr':FrW}(a:α)(ha:I a)(hμ:μ a<k)(hv:subF fr' (V a))(hk:subF fr' kf)(hr:refF nw (V a))(hn:nw<=nw')(hh:v8q hp' hp nw)(hR:R=RR a):
  QRk I V kf hp nw RR μ k Q .normal fr' hp' nw' R:=⟨a,ha,hμ,hv,hk,hr,hn,hh,hR⟩
theorem k4q{α:Type}(I:α->Prop)(V:α->FrW)(kf:FrW)(H:α->HpW)(μ:α->Nat)(a0:α)(hk:subF fr kf)(h0:I a0)(hv:subF fr (V a0))(hh:hp=H a0)
  (step:∀a,I a->CoW C G m k0 rd c (V a++kf) (H a) nw R (ubq C G m k0 I (λa=>V a++kf) H (λ_=>nw) (λ_=>R) μ (μ a) Q)):CoW C G m k0 rd (.loop c) fr hp nw R Q:=
 jbq I (λa=>V a++kf) H (λ_=>nw) (λ_=>R) μ a0 h0 (qgq (jgq hv hk) hh rfl) step
theorem kQq{α:Type}{I:α->Prop}{V:α->FrW}{kf:FrW}{H:α->HpW}{μ:α->Nat}{k:Nat}{fr':FrW}(a:α)(ha:I a)(hμ:μ a<k)(hv:subF fr' (V a))(hk:subF fr' kf)(hh:hp=H a):
  ubq C G m k0 I (λa=>V a++kf) H (λ_=>nw) (λ_=>R) μ k Q .normal fr' hp nw R:=
 qwq a ha hμ (qgq (jgq hv hk) hh rfl)
end
theorem ps_in{C:Cfg}{G:Nat->Option W}{f:FuncId}{fn:Func}{c:Code}{ws:List W}{w:W}(hk:C.known f=none)(hf:C.fn f=some fn)(hb:fn.body=some c)(hn:ws.length<=fn.ntmps)
  (h:∀R k0,CoW C G 0 k0 false c (YLq 0 ws) [] 0 R (QFin C G 0 k0 fn.results.toList λw' _ _ R'=>R'=R/\w'=w)):PS C G f ws w:=λR=>spec_in hk hf hb hn (h R)
theorem zxq{C:Cfg}{G:Nat->Option W}{f:FuncId}{ws:List W}{w w':W}(h:PS C G f ws w)(e:w=w'):PS C G f ws w':=e▸h
noncomputable def subV(blk:Nat->Option W)(fr:FrW):FrW->Prop
 |[]=>True
 |(t,w)::l=>(∃w0,getW fr t=some w0/\View blk w0 w)/\subV blk fr l
theorem uFq{blk:Nat->Option W}{fr:FrW}:∀{l:FrW},subV blk fr l->∀t w,getW l t=some w->∃w0,getW fr t=some w0/\View blk w0 w
 |[],_,t,w,h=>by simp[getW] at h
 |(k,u)::l,hs,t,w,h=>by
  simp only[getW] at h;split at h
  ·rename_i e;rw[Nat.beq_eq] at e;subst e;cases h;exact hs.1
  ·exact uFq hs.2 t w h
theorem qFq{blk:Nat->Option W}{b:Nat}{c:W}(hb:blk b=some c)(hc:purW c=true)(ha:(c.isAgg||c.leaf)=true):View blk (.ptr b 0) (.fel c):=by
 refine .ptr (n:=c.size) (ag:=c.isAgg) hb hc ?_;unfold zYq;cases hg:c.isAgg<;>simp[hg] at ha⊢
 rw[ha]
section
variable {C:Cfg} {G:Nat->Option W} {m k0:Nat} {fr fr2:FrW} {hp:HpW} {nw:Nat} {R:Res}
theorem ent_frzA(hf:subV (blkA hp) fr fr2):Ent C G m k0 fr hp nw R fr2 [] nw R:=λΓ X st hnw hmn s=>by
 let Γ2:Ctx:=⟨Γ.nw,Γ.σ,λc=>Γ.D c\/Owns Γ hp c,Γ.h⟩
 have le:Γ.Le Γ2:=⟨Nat.le_refl _,λ_ _=>rfl,λ_ h=>.inl h,λ_ _=>rfl⟩
 have q:Seen (blkA hp) Γ Γ2:=⟨λ_ h _=>h,λ_ _ _=>rfl,λ_ h=>.inl h,λ_ _=>rfl,λb c _ h=>by
  unfold blkA at h;split at h
  ·rename_i ty c' hg;cases h;obtain⟨v,h1,h2,h3⟩:=jTq s.sat hg;exact⟨.inr ⟨b,_,hg,rfl⟩,v,h2,h3⟩
  ·cases h⟩
 have none_:∀{c},¬Owns Γ2 [] c:=λ{c} h=>by
  obtain⟨b,x,h,_⟩:=h;simp[hget] at h
 refine⟨Γ2,X,hnw,⟨s.hh,λt w hw=>?_,⟨s.sat.wf,λk ty' w hk=>by simp[hget] at hk,λk k' x y hx=>by simp[hget] at hx,List.nodup_nil,λd hd hX=>?_,s.sat.xlt,λd hd=>?_,R.st _ _ _ _ _ s.sat.res le.D le.val (λ_ _=>rfl) (Nat.le_refl _),s.sat.gl.mono le⟩,λd hd=>?_,s.nd⟩,⟨λ_ _=>rfl,λh=>h,Nat.le_refl _,λ_ _ _ _=>rfl,λ_ h=>.inl h,λd hd=>?_,λk x hk h=>by simp[hget] at h,λk x hk h=>by simp[hget] at h,λ_ h=>.inl h,λ_ h _ _=>h⟩⟩
 ·obtain⟨w0,g1,g2⟩:=uFq hf t w hw;obtain⟨u,g3,g4⟩:=s.fr _ _ g1;exact⟨u,g3,jMq q g2 g4⟩
 ·rcases hd with h|⟨b,x,h,rfl⟩
  ·exact s.sat.dX d h hX
  ·exact(s.sat.own b x.1 x.2 h).2.2.1 hX
 ·rcases hd with h|⟨b,x,h,rfl⟩
  ·exact s.sat.dlt d h
  ·exact s.sat.own_lt h
 ·obtain⟨q1,q2,q3,q4,q5,q6⟩:=s.ds d hd;refine⟨q1,q2,q3,none_,q5,λh=>?_⟩;rcases h with h|h
  ·exact q6 h
  ·exact q4 h
 ·rcases hd with h|h
  ·exact .inl h
  ·exact .inr (.inl (.inl h))
theorem yHq{rs:List ResultVar}{w w':W}{x:Exit}(hx:x= .normal\/x= .ret)(hv:subV (blkA hp) fr fr2)(ho:outW C fr2 [] rs=some w)(e:w=w'):QFin C G m k0 rs (λv _ _ R'=>R'=R/\v=w') x fr hp nw R:=
 fin hx (ent_frzA hv) ho ⟨rfl,e⟩
end
theorem YRq{C:Cfg}{G:Nat->Option W}{f:FuncId}{m:Nat}{ws:List W}{hp:HpW}{R:Res}{A:W->Prop}(h:Spec C G f m ws hp R λw hp' _ R'=>R'=R/\∃w',View (blkA hp') w w'/\A w'):Spec C G f m ws hp R λw _ _ R'=>R'=R/\A w:=λΓ X vs h1 s hv=>by
 obtain⟨n,v,Γ',X',w,hp',R',g1,g2,g3,g4,rfl,w',g5,gA⟩:=h Γ X vs h1 s hv;let Γ2:Ctx:=⟨Γ'.nw,Γ'.σ,λc=>Γ'.D c\/Owns Γ' hp' c,Γ'.h⟩
 have le:Γ'.Le Γ2:=⟨Nat.le_refl _,λ_ _=>rfl,λ_ h=>.inl h,λ_ _=>rfl⟩
 have q:Seen (blkA hp') Γ' Γ2:=⟨λ_ h _=>h,λ_ _ _=>rfl,λ_ h=>.inl h,λ_ _=>rfl,λb c _ h=>by
  unfold blkA at h;split at h
  ·rename_i ty c' hg;cases h;obtain⟨v,h1,h2,h3⟩:=jTq g2 hg;exact⟨.inr ⟨b,_,hg,rfl⟩,v,h2,h3⟩
  ·cases h⟩
 have hD:∀d,Γ2.D d->Γ'.D d\/Owns Γ' hp' d:=λd h=>h
 refine⟨n,v,Γ2,X',w',[],R',g1,⟨g2.wf,λk ty' w hk=>by simp[hget] at hk,λk k' x y hx=>by simp[hget] at hx,List.nodup_nil,λd hd hX=>?_,g2.xlt,λd hd=>?_,R'.st _ _ _ _ _ g2.res le.D le.val (λ_ _=>rfl) (Nat.le_refl _),g2.gl.mono le⟩,⟨g3.sig,g3.mle,g3.next,g3.keep,λc h=>.inl (g3.dsub c h),λd hd=>?_,λk x hk h=>by simp[hget] at h,λk x hk h=>by simp[hget] at h,g3.xnew,g3.wmin⟩,jMq q g5 g4,rfl,gA⟩
 ·rcases hD d hd with h|⟨b,x,h,rfl⟩
  ·exact g2.dX d h hX
  ·exact(g2.own b x.1 x.2 h).2.2.1 hX
 ·rcases hD d hd with h|⟨b,x,h,rfl⟩
  ·exact g2.dlt d h
  ·exact g2.own_lt h
 ·rcases hD d hd with h|h
  ·exact g3.dnew d h
  ·rcases g3.onew d h with h|h
   ·exact .inr (.inl (.inl h))
   ·exact .inr (.inr h)
theorem uJq{C:Cfg}{G:Nat->Option W}{f:FuncId}{m:Nat}{ws:List W}{hp:HpW}{R:Res}{w':W}(h:Spec C G f m ws hp R λw hp' _ R'=>R'=R/\View (blkA hp') w w'):Spec C G f m ws hp R λw _ _ R'=>R'=R/\w=w':=
 YRq (A:=λw=>w=w') λΓ X vs h1 s hv=>by
  obtain⟨n,v,Γ',X',w,hp',R',g1,g2,g3,g4,g5,g6⟩:=h Γ X vs h1 s hv;exact⟨n,v,Γ',X',w,hp',R',g1,g2,g3,g4,g5,w',g6,rfl⟩
theorem kwq{C:Cfg}{G:Nat->Option W}{f:FuncId}{m:Nat}{ws:List W}{hp:HpW}{P Q:W->HpW->Nat->Prop}(h:qbq C G f m ws hp P)(hi:∀w hp nw,P w hp nw->Q w hp nw):qbq C G f m ws hp Q:=λR Γ X vs h1 s hv=>by
 obtain⟨n,v,Γ',X',w',hp',R',g1,g2,g3,g4,g5,g6⟩:=h R Γ X vs h1 s hv;exact⟨n,v,Γ',X',w',hp',R',g1,g2,g3,g4,g5,hi _ _ _ g6⟩
noncomputable def PE(C:Cfg)(G:Nat->Option W)(f:FuncId)(ws:List W)(A:W->Prop):Prop:=qbq C G f 0 ws [] λw _ _=>purW w=true/\A w
theorem ywq{C:Cfg}{G:Nat->Option W}{m k0:Nat}{rs:List ResultVar}{fr:FrW}{hp:HpW}{nw:Nat}{R:Res}{w w':W}{A:W->Prop}{x:Exit}(hx:x= .normal\/x= .ret)(ho:outW C fr hp rs=some w)(hv:View (blkA hp) w w')(hw:purW w'=true)(ha:A w'):QFin C G m k0 rs (λv hp' _ R'=>R'=R/\∃w,View (blkA hp') v w/\(purW w=true/\A w)) x fr hp nw R:=
 fin hx Ent.refl ho ⟨rfl,w',hv,hw,ha⟩
theorem Zwq{C:Cfg}{G:Nat->Option W}{o:Oper}{fr:FrW}{hp:HpW}{nw:Nat}{R:Res}{post:W->HpW->Nat->Res->Option EvW->Prop}{x:Operand}{xs:Array Operand}{ats:Array TypeId}{f:FuncId}{a us c ws:List W}{A:W->Prop}(ho:o.op= .call ⟨.value x,xs,ats⟩)(hx:evW C G fr x=some (.fn f a c))(he:C.ext f=none)(hxs:evLW C G fr xs.toList=some us)(hws:a++us++c=ws)(sp:PE C G f ws A)(hpw:purL ws=true)(h:∀w,purW w=true->A w->post w hp nw R (some .gen)):Step C G o fr hp nw R post:=by
 subst hws;exact vqq ho hx he hxs sp hpw λw' _ _ hq=>⟨hq.1,h w' hq.1 hq.2⟩
theorem k0q{C:Cfg}{G:Nat->Option W}{m k0:Nat}{rs:List ResultVar}{fr:FrW}{hp:HpW}{nw:Nat}{R:Res}{w w':W}{x:Exit}(hx:x= .normal\/x= .ret)(ho:outW C fr hp rs=some w)(hv:View (blkA hp) w w'):QFin C G m k0 rs (λv hp' _ R'=>R'=R/\View (blkA hp') v w') x fr hp nw R:=
 fin hx Ent.refl ho ⟨rfl,hv⟩
section
variable {C:Cfg} {G:Nat->Option W}
theorem xqq{f:FuncId}{fn:Func}{c:Code}{cs:List W}{l:List (List W)}(hk:C.known f=none)(hf:C.fn f=some fn)(hb:fn.body=some c)(hn:cs.length+1<=fn.ntmps)
  (h:∀L E R,Yl C G L E l R->∀k0,CoW C G 0 k0 false c (YLq 0 (.yield L::cs)) [] 0 R (QFin C G 0 k0 fn.results.toList λ_ _ _ R'=>E R')):qkq C G f cs l:=λL E R hy=>spec_in hk hf hb hn (h L E R hy)
theorem kfq{m k0:Nat}{rs:List ResultVar}{fr:FrW}{hp:HpW}{nw:Nat}{R:Res}{w:W}{x:Exit}{E:Res->Prop}(hx:x= .normal\/x= .ret)(ho:outW C fr hp rs=some w)(h:E R):QFin C G m k0 rs (λ_ _ _ R'=>E R') x fr hp nw R:=fin hx Ent.refl ho h
variable {m k0:Nat} {rd:Bool} {fr:FrW} {hp hp':HpW} {nw nw':Nat} {R:Res} {Q:qaq} {c:Code}
theorem co_loopR{α:Type}(I:α->Prop)(V:α->FrW)(kf:FrW)(H:α->HpW)(RR:α->Res)(μ:α->Nat)(a0:α)(hk:subF fr kf)(h0:I a0)(hv:subF fr (V a0))(hh:hp=H a0)(hR:R=RR a0)
  (step:∀a,I a->CoW C G m k0 rd c (V a++kf) (H a) nw (RR a) (ubq C G m k0 I (λa=>V a++kf) H (λ_=>nw) RR μ (μ a) Q)):CoW C G m k0 rd (.loop c) fr hp nw R Q:=by
 subst hR;exact jbq I (λa=>V a++kf) H (λ_=>nw) RR μ a0 h0 (qgq (jgq hv hk) hh rfl) step
theorem QUq{α:Type}{I:α->Prop}{V:α->FrW}{kf:FrW}{H:α->HpW}{RR:α->Res}{μ:α->Nat}{k:Nat}{fr':FrW}(a:α)(ha:I a)(hμ:μ a<k)(hm:m<=nw)(hv:subF fr' (V a))(hk:subF fr' kf)(hr:refF nw (V a))(hr2:refF nw kf)(hn:nw<=nw')(hh:subH hp' nw (H a))(nd:((H a).map (·.1)).Nodup)(hR:R=RR a):
  ubq C G m k0 I (λa=>V a++kf) H (λ_=>nw) RR μ k Q .normal fr' hp' nw' R:=by
 subst hR;exact qwq a ha hμ (q2q hm hn (jgq hv hk) (QQq (uPq hr hr2)) (qtq hh) nd)
theorem Yoq{β:Type}{g:Operand}{ps:Array Tmp}{asg bd:Code}{gf:FuncId}{cs:List W}(enc:β->List W)(ls:List β)(I:Nat->Prop)
  (hg:evW C G fr g=some (.fn gf [] cs)) (hpu:purL cs=true) (it:qkq C G gf cs (ls.map enc)) (hl:∀y∈ls,purL (enc y)=true/\(enc y).length=ps.size) (h0:I 0)
  (round:∀i y,ls[i]? =some y->I i->CoW C G nw k0 true asg (setPW fr ps.toList (enc y)) hp nw R (QAsg C G nw k0 bd (QBod C G nw k0 (λ_:Unit=>I (i+1)) (λ_=>hp) (λ_=>nw) (λ_=>R) fr Q)))
  (done:I ls.length->Q .normal fr hp nw R):CoW C G m k0 false (.rangeFunc g ps asg bd) fr hp nw R Q:=
 Znq (α:=Unit) (λi _=>I i) (λ_=>hp) (λ_=>nw) (λ_=>R) () hg hpu it (λx hx=>by obtain⟨y,hy,rfl⟩:=List.mem_map.1 hx;exact hl y hy) h0 Z Z Z
  (λi a x hx hi=>by
   rw[List.getElem?_map,Option.map_eq_some_iff] at hx;obtain⟨y,hy,rfl⟩:=hx;exact round i y hy hi) (λa h=>done Yv)
noncomputable def QBk{α:Type}(I:α->Prop)(hp:HpW)(nw:Nat)(RR:α->Res)(fr:FrW)(Q:qaq):qaq
 |.normal,_,hp',nw',R'=>∃a,I a/\nw<=nw'/\v8q hp' hp nw/\R'=RR a
 |.ret,_,hp',nw',R'=>Q .ret fr hp' nw' R'
 |.exit id,_,hp',nw',R'=>Q (.exit id) fr hp' nw' R'
 |.goto l,_,hp',nw',R'=>Q (.goto l) fr hp' nw' R'
 |_,_,_,_,_=>False
theorem QTq{α:Type}{I:α->Prop}{RR:α->Res}{fr':FrW}{R':Res}{x:Exit}(hx:ZOq x≠none)(h:Q x fr hp' nw' R'):QBk I hp nw RR fr Q x fr' hp' nw' R':=by
 cases x<;>first|exact h|exact absurd rfl hx
theorem QSq{α:Type}{I:α->Prop}{RR:α->Res}{fr':FrW}(a:α)(ha:I a)(hn:nw<=nw')(hh:v8q hp' hp nw)(hR:R=RR a):QBk I hp nw RR fr Q .normal fr' hp' nw' R:=⟨a,ha,hn,hh,hR⟩
theorem Ynq{α β:Type}{g:Operand}{ps:Array Tmp}{asg bd:Code}{gf:FuncId}{cs:List W}(enc:β->List W)(ls:List β)(I:Nat->α->Prop)(RR:α->Res)(a0:α)
  (hg:evW C G fr g=some (.fn gf [] cs)) (hpu:purL cs=true) (it:qkq C G gf cs (ls.map enc)) (hl:∀y∈ls,purL (enc y)=true/\(enc y).length=ps.size) (h0:I 0 a0) (hR:R=RR a0)
  (round:∀i a y,ls[i]? =some y->I i a->CoW C G nw k0 true asg (setPW fr ps.toList (enc y)) hp nw (RR a) (QAsg C G nw k0 bd (QBk (I (i+1)) hp nw RR fr Q)))
  (done:∀a,I ls.length a->Q .normal fr hp nw (RR a)):CoW C G m k0 false (.rangeFunc g ps asg bd) fr hp nw R Q:=by
 subst hR;refine co_facts λhm f1 f2 f3=>Znq I (λ_=>hp) (λ_=>nw) RR a0 hg hpu it (λx hx=>by obtain⟨y,hy,rfl⟩:=List.mem_map.1 hx;exact hl y hy) h0 Z Z Z (λi a x hx hi=>?_) (λa h=>done a Yv)
 rw[List.getElem?_map,Option.map_eq_some_iff] at hx;obtain⟨y,hy,rfl⟩:=hx;refine Jrq (round i a y hy hi) λx fr' hp' nw' R' h=>?_
 obtain⟨rfl,h⟩:=h;refine⟨rfl,Jrq h λx fr' hp' nw' R' h=>?_⟩;cases x with
 |normal=>
  obtain⟨a',h1,h2,h3,rfl⟩:=h;exact vuq a' h1 (q2q (Nat.le_refl _) h2 trivial rfl (λb x hb=>⟨(f2 b x hb).1,h3 b x (f2 b x hb).1 hb,(f2 b x hb).2⟩) f3)
 |ret=>exact h
 |exit _=>exact h
 |goto _=>exact h
 |panic _=>exact h.elim
 |outgrown=>exact h.elim
theorem co_rangeG{α β:Type}{g:Operand}{ps:Array Tmp}{asg bd:Code}{gf:FuncId}{cs:List W}(enc:β->List W)(ls:List β)(I:Nat->α->Prop)(H:α->HpW)(RR:α->Res)(a0:α)
  (hg:evW C G fr g=some (.fn gf [] cs)) (hpu:purL cs=true) (it:qkq C G gf cs (ls.map enc)) (hl:∀y∈ls,purL (enc y)=true/\(enc y).length=ps.size) (h0:I 0 a0) (hh:hp=H a0) (hR:R=RR a0)
  (round:∀i a y,ls[i]? =some y->I i a->CoW C G nw k0 true asg (setPW fr ps.toList (enc y)) (H a) nw (RR a) (QAsg C G nw k0 bd (QBod C G nw k0 (I (i+1)) H (λ_=>nw) RR fr Q)))
  (done:∀a,I ls.length a->Q .normal fr (H a) nw (RR a)):CoW C G m k0 false (.rangeFunc g ps asg bd) fr hp nw R Q:=
 Znq I H (λ_=>nw) RR a0 hg hpu it (λx hx=>by obtain⟨y,hy,rfl⟩:=List.mem_map.1 hx;exact hl y hy) h0 hh rfl hR
  (λi a x hx hi=>by
   rw[List.getElem?_map,Option.map_eq_some_iff] at hx;obtain⟨y,hy,rfl⟩:=hx;exact round i a y hy hi) (λa h=>done a Yv)
theorem co_rangeN{α β:Type}{g:Operand}{ps:Array Tmp}{asg bd:Code}{gf:FuncId}{cs:List W}(enc:β->List W)(ls:List β)(I:Nat->α->Prop)(H:α->HpW)(N:α->Nat)(RR:α->Res)(a0:α)
  (hg:evW C G fr g=some (.fn gf [] cs)) (hpu:purL cs=true) (it:qkq C G gf cs (ls.map enc)) (hl:∀y∈ls,purL (enc y)=true/\(enc y).length=ps.size) (h0:I 0 a0) (hh:hp=H a0) (hn:nw=N a0) (hR:R=RR a0)
  (round:∀i a y,ls[i]? =some y->I i a->CoW C G nw k0 true asg (setPW fr ps.toList (enc y)) (H a) (N a) (RR a) (QAsg C G nw k0 bd (QBod C G nw k0 (I (i+1)) H N RR fr Q)))
  (done:∀a,I ls.length a->Q .normal fr (H a) (N a) (RR a)):CoW C G m k0 false (.rangeFunc g ps asg bd) fr hp nw R Q:=
 Znq I H N RR a0 hg hpu it (λx hx=>by obtain⟨y,hy,rfl⟩:=List.mem_map.1 hx;exact hl y hy) h0 hh hn hR
  (λi a x hx hi=>by
   rw[List.getElem?_map,Option.map_eq_some_iff] at hx;obtain⟨y,hy,rfl⟩:=hx;exact round i a y hy hi) (λa h=>done a Yv)
theorem q_roundK{α:Type}{I:α->Prop}{H:α->HpW}{RR:α->Res}{fr':FrW}(a:α)(ha:I a)(hn:nw<=nw')(hh:subH hp' nw (H a))(nd:((H a).map (·.1)).Nodup)(hR:R=RR a):QBod C G nw k0 I H (λ_=>nw) RR fr Q .normal fr' hp' nw' R:=by
 subst hR;exact vuq a ha (q2q (Nat.le_refl _) hn trivial rfl (qtq hh) nd)
end
section
variable {C:Cfg} {G:Nat->Option W} {m:Nat} {ops:Array Oper} {l:List Oper} {i:Nat} {es:List (Nat×EvW)} {fr:FrW} {hp:HpW} {nw:Nat} {R:Res} {K:FrW->HpW->Nat->Res->Prop} {o:Oper} {x:Operand} {xs:Array Operand} {ats:Array TypeId} {f:FuncId} {a us c ws:List W} {w:W} {b:Bool} {p:Prop}
theorem op_cz [Decidable p](hw:y5q ops fr o=some true)(hx:yuq C G fr o.op=some (.bool b))(h:OpW C G m ops l (putW fr o.dst (.bool (decide p))) hp nw R K)(hb:b=true↔p:=by first|exact ltI_iff|exact eqI_iff|exact jUq|exact jVq|exact yAq|exact q3q):OpW C G m ops (o::l) fr hp nw R K:=op_cmp hw hx hb h
theorem fl_cz [Decidable p](hw:y5q ops fr o=some true)(hx:yuq C G fr o.op=some (.bool b))(h:FlW C G m ops l (i+1) es (putW fr o.dst (.bool (decide p))) hp nw R K)(hb:b=true↔p:=by first|exact ltI_iff|exact eqI_iff|exact jUq|exact jVq|exact yAq|exact q3q):FlW C G m ops (o::l) i es fr hp nw R K:=fl_cmp hw hx hb h
theorem op_dz(hw:y5q ops fr o=some true)(hx:yuq C G fr o.op=some (.bool b))(ht:p->OpW C G m ops l (putW fr o.dst (.bool true)) hp nw R K)(hf:¬p->OpW C G m ops l (putW fr o.dst (.bool false)) hp nw R K)(hb:b=true↔p:=by first|exact ltI_iff|exact eqI_iff|exact jUq|exact jVq|exact yAq|exact q3q):OpW C G m ops (o::l) fr hp nw R K:=op_dec hw hx hb ht hf
theorem fl_dz(hw:y5q ops fr o=some true)(hx:yuq C G fr o.op=some (.bool b))(ht:p->FlW C G m ops l (i+1) es (putW fr o.dst (.bool true)) hp nw R K)(hf:¬p->FlW C G m ops l (i+1) es (putW fr o.dst (.bool false)) hp nw R K)(hb:b=true↔p:=by first|exact ltI_iff|exact eqI_iff|exact jUq|exact jVq|exact yAq|exact q3q):FlW C G m ops (o::l) i es fr hp nw R K:=fl_dec hw hx hb ht hf
theorem op_bz{d:Nat}(ht:p->OpW C G m ops l ((d,.bool true)::fr) hp nw R K)(hf:¬p->OpW C G m ops l ((d,.bool false)::fr) hp nw R K)(hb:b=true↔p:=by first|exact ltI_iff|exact eqI_iff|exact jUq|exact jVq|exact yAq|exact q3q):OpW C G m ops l ((d,.bool b)::fr) hp nw R K:=op_bs hb ht hf
theorem fl_bz{d:Nat}(ht:p->FlW C G m ops l i es ((d,.bool true)::fr) hp nw R K)(hf:¬p->FlW C G m ops l i es ((d,.bool false)::fr) hp nw R K)(hb:b=true↔p:=by first|exact ltI_iff|exact eqI_iff|exact jUq|exact jVq|exact yAq|exact q3q):FlW C G m ops l i es ((d,.bool b)::fr) hp nw R K:=fl_bs hb ht hf
theorem co_dz{k0:Nat}{rd:Bool}{Q:qaq}{cc:Operand}{x y:Code}(hc:evW C G fr cc=some (.bool b))(ht:p->CoW C G m k0 rd x fr hp nw R Q)(hf:¬p->CoW C G m k0 rd y fr hp nw R Q)(hb:b=true↔p:=by first|exact ltI_iff|exact eqI_iff|exact jUq|exact jVq|exact yAq|exact q3q):CoW C G m k0 rd (.cond cc x y) fr hp nw R Q:=co_dec hc hb ht hf
theorem j9q(hg:y5q ops fr o=some true)(ho:o.op= .call ⟨.value x,xs,ats⟩)(hx:evW C G fr x=some (.fn f a c))(he:C.ext f=none)(hxs:evLW C G fr xs.toList=some us)(hws:a++us++c=ws)(sp:PS C G f ws w)(h:OpW C G m ops l (putW fr o.dst w) hp nw R K)(hpw:purL ws=true:=by first|rfl|assumption|(simp;done))(hw:purW w=true:=by first|rfl|assumption|(simp;done)):OpW C G m ops (o::l) fr hp nw R K:=YFq hg ho hx he hxs hws sp hpw hw h
theorem fl_pz(hg:y5q ops fr o=some true)(ho:o.op= .call ⟨.value x,xs,ats⟩)(hx:evW C G fr x=some (.fn f a c))(he:C.ext f=none)(hxs:evLW C G fr xs.toList=some us)(hws:a++us++c=ws)(sp:PS C G f ws w)(h:FlW C G m ops l (i+1) ((i,.gen)::es) (putW fr o.dst w) hp nw R K)(hpw:purL ws=true:=by first|rfl|assumption|(simp;done))(hw:purW w=true:=by first|rfl|assumption|(simp;done))(hc:evsW ops i .gen es=true:=by first|rfl|kernel_rfl):FlW C G m ops (o::l) i es fr hp nw R K:=fl_ps hg ho hx he hxs hws sp hpw hw hc h
theorem fl_mz{w:W}{hp2:HpW}{nw2:Nat}{ev:EvW}(hw:y5q ops fr o=some true)(hx:opHW C G fr hp nw o.op=some (w,hp2,nw2,ev))(h:FlW C G m ops l (i+1) ((i,ev)::es) (putW fr o.dst w) hp2 nw2 R K)(hc:evsW ops i ev es=true:=by first|rfl|kernel_rfl):FlW C G m ops (o::l) i es fr hp nw R K:=fl_mem hw hx hc h
theorem op_pq(sp:PS C G f ws w)(h:OpW C G m ops l (putW fr o.dst w) hp nw R K)(hg:y5q ops fr o=some true:=by exact rfl)(ho:o.op= .call ⟨.value x,xs,ats⟩:=by exact rfl)(hx:evW C G fr x=some (.fn f a c):=by exact rfl)(he:C.ext f=none:=by exact rfl)(hxs:evLW C G fr xs.toList=some us:=by exact rfl)(hws:a++us++c=ws:=by exact rfl)(hpw:purL ws=true:=by first|rfl|assumption|(simp;done))(hw:purW w=true:=by first|rfl|assumption|(simp;done)):OpW C G m ops (o::l) fr hp nw R K:=YFq hg ho hx he hxs hws sp hpw hw h
theorem fl_pq(sp:PS C G f ws w)(h:FlW C G m ops l (i+1) ((i,.gen)::es) (putW fr o.dst w) hp nw R K)(hg:y5q ops fr o=some true:=by exact rfl)(ho:o.op= .call ⟨.value x,xs,ats⟩:=by exact rfl)(hx:evW C G fr x=some (.fn f a c):=by exact rfl)(he:C.ext f=none:=by exact rfl)(hxs:evLW C G fr xs.toList=some us:=by exact rfl)(hws:a++us++c=ws:=by exact rfl)(hpw:purL ws=true:=by first|rfl|assumption|(simp;done))(hw:purW w=true:=by first|rfl|assumption|(simp;done))(hc:evsW ops i .gen es=true:=by first|rfl|kernel_rfl):FlW C G m ops (o::l) i es fr hp nw R K:=fl_ps hg ho hx he hxs hws sp hpw hw hc h
theorem op_ix(h:OpW C G m ops l (putW fr o.dst w) hp nw R K)(hw:y5q ops fr o=some true:=by exact rfl)(hx:yuq C G fr o.op=some w:=by first|exact zGq Z Z Z Z Z Z Z (by first|assumption|(simp;done))|exact knq Z Z Z Z Z Z Z Xd|exact kdq Z Z Z Z Z Z Xd|exact rfl):OpW C G m ops (o::l) fr hp nw R K:=yVq hw hx h
theorem fl_ix(h:FlW C G m ops l (i+1) es (putW fr o.dst w) hp nw R K)(hw:y5q ops fr o=some true:=by exact rfl)(hx:yuq C G fr o.op=some w:=by first|exact zGq Z Z Z Z Z Z Z (by first|assumption|(simp;done))|exact knq Z Z Z Z Z Z Z Xd|exact kdq Z Z Z Z Z Z Xd|exact rfl):FlW C G m ops (o::l) i es fr hp nw R K:=kpq hw hx h
end
end
inductive Kt where
 |seq (c:Code)
 |blk (i:Nat)
inductive At where
 |co (c:Code)
 |op (ops:Array Oper) (l:List Oper)
 |fl (ops:Array Oper) (l:List Oper) (i:Nat) (es:List (Nat×EvW))
 |ex (x:Exit)
structure Sit where
 at_:At
 ks:List Kt
 fr:FrW
 hp:HpW
 nw:Nat
@[reducible] noncomputable def QK(C:Cfg)(G:Nat->Option W)(m k0:Nat)(rd:Bool):List Kt->qaq->qaq
 |[],Q=>Q
 |.seq y::l,Q=>QSeq C G m k0 rd y (QK C G m k0 rd l Q)
 |.blk i::l,Q=>v3q i (QK C G m k0 rd l Q)
@[reducible] noncomputable def GoW(C:Cfg)(G:Nat->Option W)(m k0:Nat)(rd:Bool)(s:Sit)(R:Res)(Q:qaq):Prop:=match s with
 |⟨.co c,ks,fr,hp,nw⟩=>CoW C G m k0 rd c fr hp nw R (QK C G m k0 rd ks Q)
 |⟨.op ops l,ks,fr,hp,nw⟩=>OpW C G m ops l fr hp nw R λfr hp nw R=>QK C G m k0 rd ks Q .normal fr hp nw R
 |⟨.fl ops l i es,ks,fr,hp,nw⟩=>FlW C G m ops l i es fr hp nw R λfr hp nw R=>QK C G m k0 rd ks Q .normal fr hp nw R
 |⟨.ex x,ks,fr,hp,nw⟩=>QK C G m k0 rd ks Q x fr hp nw R
noncomputable def advC(C:Cfg)(G:Nat->Option W)(ks:List Kt)(fr:FrW)(hp:HpW)(nw:Nat):Code->Option Sit
 |.seq x y=>some ⟨.co x,.seq y::ks,fr,hp,nw⟩
 |.block i x=>some ⟨.co x,.blk i::ks,fr,hp,nw⟩
 |.skip=>some ⟨.ex .normal,ks,fr,hp,nw⟩
 |.label _=>some ⟨.ex .normal,ks,fr,hp,nw⟩
 |.exit i=>some ⟨.ex (.exit i),ks,fr,hp,nw⟩
 |.goto l=>some ⟨.ex (.goto l),ks,fr,hp,nw⟩
 |.ret=>some ⟨.ex .ret,ks,fr,hp,nw⟩
 |.region _ ops false=>some ⟨.op ops ops.toList,ks,fr,hp,nw⟩
 |.region _ ops true=>some ⟨.fl ops ops.toList 0 [],ks,fr,hp,nw⟩
 |.cond c x y=>match evW C G fr c with
  |some (.bool true)=>some ⟨.co x,ks,fr,hp,nw⟩
  |some (.bool false)=>some ⟨.co y,ks,fr,hp,nw⟩
  |_=>none
 |_=>none
noncomputable def advX(fr:FrW)(hp:HpW)(nw:Nat):Exit->List Kt->Option Sit
 |.normal,.seq y::l=>some ⟨.co y,l,fr,hp,nw⟩
 |x,.seq _::l=>some ⟨.ex x,l,fr,hp,nw⟩
 |.exit j,.blk i::l=>match Nat.beq j i with
  |true=>some ⟨.ex .normal,l,fr,hp,nw⟩
  |false=>some ⟨.ex (.exit j),l,fr,hp,nw⟩
 |x,.blk _::l=>some ⟨.ex x,l,fr,hp,nw⟩
 |_,[]=>none
noncomputable def adv(C:Cfg)(G:Nat->Option W)(b:Bool):Sit->Option (Bool×Sit)
 |⟨.co c,ks,fr,hp,nw⟩=>match advC C G ks fr hp nw c with
  |some s=>some (b,s)
  |none=>none
 |⟨.ex x,ks,fr,hp,nw⟩=>match advX fr hp nw x ks with
  |some s=>some (b,s)
  |none=>none
 |⟨.op _ [],ks,fr,hp,nw⟩=>some (b,⟨.ex .normal,ks,fr,hp,nw⟩)
 | ⟨.op ops (o::l),ks,fr,hp,nw⟩=>match y5q ops fr o with
  |some true=>match yuq C G fr o.op with
   |some w=>some (b,⟨.op ops l,ks,putW fr o.dst w,hp,nw⟩)
   |none=>match opHW C G fr hp nw o.op with
    |some (w,hp2,nw2,_)=>some (b,⟨.op ops l,ks,putW fr o.dst w,hp2,nw2⟩)
    |none=>none
  |some false=>some (b,⟨.op ops l,ks,putW fr o.dst .undef,hp,nw⟩)
  |none=>none
 |⟨.fl _ [] _ _,ks,fr,hp,nw⟩=>some (b,⟨.ex .normal,ks,fr,hp,nw⟩)
 | ⟨.fl ops (o::l) i es,ks,fr,hp,nw⟩=>match y5q ops fr o with
  |some true=>match yuq C G fr o.op with
   |some w=>some (b,⟨.fl ops l (i+1) es,ks,putW fr o.dst w,hp,nw⟩)
   |none=>match opHW C G fr hp nw o.op with
    |some (w,hp2,nw2,ev)=>some (evsW ops i ev es&&b,⟨.fl ops l (i+1) ((i,ev)::es),ks,putW fr o.dst w,hp2,nw2⟩)
    |none=>none
  |some false=>some (b,⟨.fl ops l (i+1) es,ks,putW fr o.dst .undef,hp,nw⟩)
  |none=>none
noncomputable def advN(C:Cfg)(G:Nat->Option W):Nat->Bool->Sit->Option (Bool×Sit)
 |0,b,s=>some (b,s)
 |n+1,b,s=>match adv C G b s with
  |some (b',s')=>advN C G n b' s'
  |none=>none
section
variable {C:Cfg} {G:Nat->Option W} {m k0:Nat} {rd:Bool} {R:Res} {Q:qaq}
theorem advC_ok{ks:List Kt}{fr:FrW}{hp:HpW}{nw:Nat}{c:Code}{s':Sit}(h:advC C G ks fr hp nw c=some s')(g:GoW C G m k0 rd s' R Q):CoW C G m k0 rd c fr hp nw R (QK C G m k0 rd ks Q):=by
 unfold advC at h;split at h
 ·cases h;exact co_seq g
 ·cases h;exact co_block g
 ·cases h;exact co_skip g
 ·cases h;exact co_label g
 ·cases h;exact co_exit g
 ·cases h;exact co_goto g
 ·cases h;exact co_ret g
 ·cases h;exact co_region g
 ·cases h;exact co_flow g
 ·split at h
  ·rename_i hc;cases h;exact co_true hc g
  ·rename_i hc;cases h;exact co_false hc g
  ·cases h
 ·cases h
theorem advX_ok{ks:List Kt}{fr:FrW}{hp:HpW}{nw:Nat}{x:Exit}{s':Sit}(h:advX fr hp nw x ks=some s')(g:GoW C G m k0 rd s' R Q):QK C G m k0 rd ks Q x fr hp nw R:=by
 unfold advX at h;split at h
 ·cases h;exact q_seq g
 ·rename_i x y l hx;cases h;exact q_seqx (λe=>hx e) g
 ·rename_i j i l;cases hb:Nat.beq j i with
  |true=>
   rw[hb] at h;cases h
   obtain rfl:=Nat.eq_of_beq_eq_true hb;exact q_blk g
  |false=>rw[hb] at h;cases h;exact q_blkx hb g
 ·rename_i x i l hx;cases h;exact q_blkn (λj e=>hx j e) g
 ·cases h
theorem adv_ok{b b':Bool}:∀{s s':Sit},adv C G b s=some (b',s') ->(b'=true->b=true)/\(b'=true->GoW C G m k0 rd s' R Q->GoW C G m k0 rd s R Q)
 |⟨.co c,ks,fr,hp,nw⟩,s',h=>by
  simp only[adv] at h;split at h
  ·rename_i h1;cases h;exact⟨λe=>e,λe g=>advC_ok h1 g⟩
  ·cases h
 |⟨.ex x,ks,fr,hp,nw⟩,s',h=>by
  simp only[adv] at h;split at h
  ·rename_i h1;cases h;exact⟨λe=>e,λe g=>advX_ok h1 g⟩
  ·cases h
 |⟨.op _ [],ks,fr,hp,nw⟩,s',h=>by cases h;exact⟨λe=>e,λe g=>op_nil g⟩
 | ⟨.op ops (o::l),ks,fr,hp,nw⟩,s',h=>by
  simp only[adv] at h;split at h
  ·rename_i hw;split at h
   ·rename_i w hx;cases h;exact⟨λe=>e,λe g=>yVq hw hx g⟩
   ·split at h
    ·rename_i hx;cases h;exact⟨λe=>e,λe g=>op_mem hw hx g⟩
    ·cases h
  ·rename_i hw;cases h;exact⟨λe=>e,λe g=>op_skip hw g⟩
  ·cases h
 |⟨.fl _ [] _ _,ks,fr,hp,nw⟩,s',h=>by cases h;exact⟨λe=>e,λe g=>fl_nil g⟩
 | ⟨.fl ops (o::l) i es,ks,fr,hp,nw⟩,s',h=>by
  simp only[adv] at h;split at h
  ·rename_i hw;split at h
   ·rename_i w hx;cases h;exact⟨λe=>e,λe g=>kpq hw hx g⟩
   ·split at h
    ·rename_i hx;cases h;exact⟨λe=>(Bool.and_eq_true_iff.1 e).2,λe g=>fl_mem hw hx (Bool.and_eq_true_iff.1 e).1 g⟩
    ·cases h
  ·rename_i hw;cases h;exact⟨λe=>e,λe g=>fl_skip hw g⟩
  ·cases h
theorem xaq:∀(n:Nat) {b b':Bool} {s s':Sit},advN C G n b s=some (b',s') ->(b'=true->b=true)/\(b'=true->GoW C G m k0 rd s' R Q->GoW C G m k0 rd s R Q)
 |0,_,_,_,_,h=>by cases h;exact⟨λe=>e,λ_ g=>g⟩
 |n+1,b,b',s,s',h=>by
  simp only[advN] at h;split at h
  ·rename_i b1 s1 h1;obtain⟨a1,a2⟩:=adv_ok (m:=m) (k0:=k0) (rd:=rd) (R:=R) (Q:=Q) h1;obtain⟨c1,c2⟩:=xaq n h;exact⟨λe=>a1 (c1 e),λe g=>a2 (c1 e) (c2 e g)⟩
  ·cases h
variable {b:Bool} {s:Sit} {c:Code} {ops:Array Oper} {l:List Oper} {i:Nat} {es:List (Nat×EvW)} {x:Exit} {ks:List Kt} {fr:FrW} {hp:HpW} {nw:Nat}
theorem z9q(n:Nat)(h:advN C G n true ⟨.co c,[],fr,hp,nw⟩=some (b,s))(g:GoW C G m k0 rd s R Q)(hb:b=true:=by first|rfl|kernel_rfl):CoW C G m k0 rd c fr hp nw R Q:=(xaq n h).2 hb g
theorem zLq(n:Nat)(h:advN C G n true ⟨.co c,ks,fr,hp,nw⟩=some (b,s))(g:GoW C G m k0 rd s R Q)(hb:b=true:=by first|rfl|kernel_rfl):CoW C G m k0 rd c fr hp nw R (QK C G m k0 rd ks Q):=(xaq n h).2 hb g
theorem run_p(n:Nat)(h:advN C G n true ⟨.op ops l,[],fr,hp,nw⟩=some (b,s))(g:GoW C G m 0 false s R Q)(hb:b=true:=by first|rfl|kernel_rfl):OpW C G m ops l fr hp nw R λfr hp nw R=>Q .normal fr hp nw R:=(xaq n h).2 hb g
theorem zpq(n:Nat)(h:advN C G n true ⟨.op ops l,ks,fr,hp,nw⟩=some (b,s))(g:GoW C G m k0 rd s R Q)(hb:b=true:=by first|rfl|kernel_rfl):OpW C G m ops l fr hp nw R λfr hp nw R=>QK C G m k0 rd ks Q .normal fr hp nw R:=(xaq n h).2 hb g
theorem run_f(n:Nat)(h:advN C G n true ⟨.fl ops l i es,[],fr,hp,nw⟩=some (b,s))(g:GoW C G m 0 false s R Q)(hb:b=true:=by first|rfl|kernel_rfl):FlW C G m ops l i es fr hp nw R λfr hp nw R=>Q .normal fr hp nw R:=(xaq n h).2 hb g
theorem qiq(n:Nat)(h:advN C G n true ⟨.fl ops l i es,ks,fr,hp,nw⟩=some (b,s))(g:GoW C G m k0 rd s R Q)(hb:b=true:=by first|rfl|kernel_rfl):FlW C G m ops l i es fr hp nw R λfr hp nw R=>QK C G m k0 rd ks Q .normal fr hp nw R:=(xaq n h).2 hb g
theorem zZq(n:Nat)(h:advN C G n true ⟨.ex x,ks,fr,hp,nw⟩=some (b,s))(g:GoW C G m k0 rd s R Q)(hb:b=true:=by first|rfl|kernel_rfl):QK C G m k0 rd ks Q x fr hp nw R:=(xaq n h).2 hb g
end
attribute [simp] purW purL
@[simp] theorem qGq:∀a b:List W,purL (a++b)=(purL a&&purL b)
 |[],b=>by simp
 |x::a,b=>by simp[qGq a b,Bool.and_assoc]
theorem zqq(l:List UInt8):(zcq l).length=l.length:=by simp[zcq]
theorem xCq{l:List UInt8}{i:Nat}{c:UInt8}(h:l[i]? =some c):(zcq l)[i]? =some (.int .u8 (.ofNat c.toNat)):=by simp[zcq,h]
@[simp] theorem qOq:∀l:List UInt8,purL (zcq l)=true
 |[]=>rfl
 |c::l=>by simp only[zcq,List.map_cons,purL,purW,Bool.true_and];exact qOq l
theorem jJq(a b:List UInt8):zcq (a++b)=zcq a++zcq b:=by simp[zcq]
theorem bytesW_take(a:List UInt8)(n:Nat):(zcq a).take n=zcq (a.take n):=by simp[zcq,List.map_take]
theorem bytesW_drop(a:List UInt8)(n:Nat):(zcq a).drop n=zcq (a.drop n):=by simp[zcq,List.map_drop]
theorem sub_whole{l:List W}{n m:Nat}(hn:n=l.length)(hm:m=n):yFq 50 (.arr m 1 l) 0 n 1=some l:=by
 subst hm;subst hn
 rw[uEq Xd,List.drop_zero,List.take_length]
theorem zJq{l:List W}{n m e:Nat}(he:0<e)(hn:n=l.length)(hm:m=n*e):yFq 50 (.arr m e l) 0 n e=some l:=by
 subst hm;subst hn
 unfold yFq
 have:(Nat.beq e e&&Nat.beq (0%e) 0&&Nat.ble (0+l.length*e) (l.length*e)&&Nat.blt 0 e)=true:=by
  simp[Nat.blt_eq,he]
 simp only[this];simp
noncomputable def dW(k:Dig):W:=.arr 32 1 (zcq k.1)
@[simp] theorem dW_pur(k:Dig):purW (dW k)=true:=qOq _
theorem dW_agg(k:Dig):(dW k).isAgg=true:=rfl
theorem dW_at(k:Dig){i:Nat}(h:i<32):(zcq k.1)[i]? =some (.int .u8 (kn k i:Nat)):=by
 have:i<k.1.length:=by rw[k.2];exact h
 rw[xCq (List.getElem?_eq_getElem this)];simp[kn,this]
theorem dW_get(k:Dig){i:Nat}(h:i<32):zYq 50 (dW k) (i*1) 1 false=some (.int .u8 (kn k i:Nat)):=by
 rw[Nat.mul_one];exact qHq (dW_at k h) rfl
theorem dW_set(k:Dig)(i:Nat){n:Nat}(h:n<256):(zcq k.1).set i (.int .u8 (n:Int))=zcq (setD k i (UInt8.ofNat n)).1:=by
 have:(UInt8.ofNat n).toNat=n:=by simp;omega
 simp[zcq,setD,List.map_set,this]
theorem kn_eq{a b:Dig}(i:Nat)(h:i<32):kn a i=kn b i↔a.1[i]? =b.1[i]? :=by
 have ha:i<a.1.length:=by rw[a.2];exact h
 have hb:i<b.1.length:=by rw[b.2];exact h
 simp[kn,ha,hb,UInt8.toNat_inj]
theorem eq_digE{C:Cfg}{e:TypeId}{j:TyI}(he:C.ty e=some j)(hj:j.d= .int .u8)(hs:j.size=1)(hg:j.agg=false)(a b:Dig):∀(n k f:Nat),n+1<f->k+n=32->Yeq C f e j n k (dW a) (dW b)=some (decide (a.1.drop k=b.1.drop k))
 |0,k,0,h,_=>by omega
 |0,k,f+1,h,hk=>by
  simp only[Yeq];rw[List.drop_of_length_le (by rw[a.2];omega),List.drop_of_length_le (by rw[b.2];omega)];simp
 |n+1,k,0,h,_=>by omega
 |n+1,k,1,h,_=>by omega
 |n+1,k,f+2,h,hk=>by
  have ha:k<a.1.length:=by rw[a.2];omega
  have hb:k<b.1.length:=by rw[b.2];omega
  have h1:=dW_get a (i:=k) Xd;have h2:=dW_get b (i:=k) Xd;have ih:=eq_digE he hj hs hg a b n (k+1) (f+1) Xd Xd
  have e3:eqW C (f+1) e (.int .u8 (kn a k:Nat)) (.int .u8 (kn b k:Nat))=some (eqI (kn a k:Nat) (kn b k:Nat)):=by
   simp only[eqW,he,hj,decide_true]
  have e4:=kn_eq (a:=a) (b:=b) k Xd;rw[List.getElem?_eq_getElem ha,List.getElem?_eq_getElem hb,Option.some.injEq] at e4;simp only[Yeq,hs,hg,h1,h2,e3];rw[List.drop_eq_getElem_cons ha,List.drop_eq_getElem_cons hb];rw[eqI_dec];by_cases q:kn a k=kn b k
  ·rw[show decide (((kn a k:Nat):Int)=(kn b k:Nat))=true by simp[q]];simp only[ih];congr 1
   rw[decide_eq_decide,List.cons.injEq];simp only[e4.1 q,true_and]
  ·rw[show decide (((kn a k:Nat):Int)=(kn b k:Nat))=false by simp;omega];simp only;have:¬a.1[k]=b.1[k]:=λh=>q (e4.2 h)
   rw[decide_eq_false λh=>this (List.cons.inj h).1]
theorem y1q{C:Cfg}{t e:TypeId}{i j:TyI}(ht:C.ty t=some i)(hi:i.d= .arr 32 e)(he:C.ty e=some j)(hj:j.d= .int .u8)(hs:j.size=1)(hg:j.agg=false)(a b:Dig)(f:Nat):eqW C (f+50) t (dW a) (dW b)=some (decide (a=b)):=by
 have h:=eq_digE he hj hs hg a b 32 0 (f+49) Xd rfl;rw[show f+50=(f+49)+1 from rfl];simp only[eqW,ht,hi,dW_agg,Bool.and_self,he,h,List.drop_zero];congr 1
 simp[Subtype.ext_iff]
theorem Joq:W.arr 32 1 (List.replicate 32 (.int .u8 (.ofNat 0)))=dW khq:=by
 unfold dW khq;simp[zcq]
theorem jLq{blk:Nat->Option W}:View blk (.arr 32 1 (List.replicate 32 (.int .u8 (.ofNat 0)))) (dW khq):=by rw[Joq];exact .pur (dW_pur _)
noncomputable def bW(l:List UInt8):W:=.fz (zcq l) 1 false
@[simp] theorem bW_pur(l:List UInt8):purW (bW l)=true:=qOq l
theorem znq{α:Type}{l:List α}{i:Nat}{x:α}(f:α->W)(h:l[i]? =some x):(l.map f)[i]? =some (f x):=by simp[h]
theorem zPq{α:Type}{f:α->W}(h:∀x,purW (f x)=true):∀l:List α,purL (l.map f)=true
 |[]=>rfl
 |x::l=>by simp only[List.map_cons,purL,h x,Bool.true_and];exact zPq h l
theorem get_in{n e i off k f:Nat}{ag:Bool}{l:List W}{x y:W}(h:l[i]? =some x)(he:0<e)(hk:off<e)(hne:(Nat.beq (0+i*e+off) 0&&Nat.beq k n&&ag==true)=false)(hx:zYq f x off k ag=some y):zYq (f+1) (.arr n e l) (0+i*e+off) k ag=some y:=by
 unfold zYq;have h1:(Nat.beq (0+i*e+off) 0&&Nat.beq k (W.arr n e l).size&&ag==(W.arr n e l).isAgg)=false:=hne;have h2:(0+i*e+off)/e=i:=by rw[Nat.zero_add,Nat.mul_comm,Nat.mul_add_div he,Nat.div_eq_of_lt hk,Nat.add_zero]
 have h3:(0+i*e+off)%e=off:=by rw[Nat.zero_add,Nat.mul_comm,Nat.mul_add_mod,Nat.mod_eq_of_lt hk]
 rw[h1];simp only[h2,h3,h];exact hx
theorem put_in{n e i off f:Nat}{l:List W}{x x' y:W}(h:l[i]? =some x)(he:0<e)(hk:off<e)(hne:(Nat.beq (0+i*e+off) 0&&Nat.beq y.size n&&y.isAgg==true)=false)(hx:yDq f x off y=some x'):yDq (f+1) (.arr n e l) (0+i*e+off) y=some (.arr n e (l.set i x')):=by
 unfold yDq;have h1:(Nat.beq (0+i*e+off) 0&&Nat.beq y.size (W.arr n e l).size&&y.isAgg==(W.arr n e l).isAgg)=false:=hne;have h2:(0+i*e+off)/e=i:=by rw[Nat.zero_add,Nat.mul_comm,Nat.mul_add_div he,Nat.div_eq_of_lt hk,Nat.add_zero]
 have h3:(0+i*e+off)%e=off:=by rw[Nat.zero_add,Nat.mul_comm,Nat.mul_add_mod,Nat.mod_eq_of_lt hk]
 rw[h1];simp only[h2,h3,h,hx]
theorem QLq{α:Type}{l:List α}{i:Nat}{x:α}(h:l[i]? =some x):l.set i x=l:=by
 apply List.ext_getElem?;intro j;rw[List.getElem?_set];split
 ·rename_i e;subst e
  obtain⟨hl,_⟩:=List.getElem?_eq_some_iff.1 h;rw[if_pos hl,h]
 ·rfl
section
variable {C:Cfg} {f:Nat} {t:TypeId} {i:TyI} {x y a b:W} {p q:Bool}
theorem qcq{k:IntKind}{m n:Int}(hi:C.ty t=some i)(hd:i.d= .int k):eqW C (f+1) t (.int k m) (.int k n)=some (decide (m=n)):=by
 simp only[eqW,hi,hd,decide_true];rw[eqI_dec]
theorem eq_bool{m n:Bool}(hi:C.ty t=some i)(hd:i.d= .bool):eqW C (f+1) t (.bool m) (.bool n)=some (decide (m=n)):=by
 simp only[eqW,hi,hd];cases m<;>cases n<;>rfl
theorem q1q:v5q C (f+1) [] x y=some true:=by simp only[v5q]
theorem zuq{off:Nat}{fs:List (TypeId×Nat)}(hi:C.ty t=some i)(ha:zYq 50 x off i.size i.agg=some a)(hb:zYq 50 y off i.size i.agg=some b)(he:eqW C f t a b=some p)(hr:v5q C f fs x y=some q):v5q C (f+1) ((t,off)::fs) x y=some (p&&q):=by
 simp only[v5q,hi,ha,hb,he];cases p
 ·rfl
 ·simp only[Bool.true_and];exact hr
theorem qrq{fs:List (TypeId×Nat)}(hi:C.ty t=some i)(hd:i.d= .struct fs)(ha:x.isAgg=true)(hb:y.isAgg=true)(h:v5q C f fs x y=some p):eqW C (f+1) t x y=some p:=by
 simp only[eqW,hi,hd,ha,hb,Bool.and_self,h]
end
end
section
open Go.RowKit Go.ChangeShapes Go.WideShapes
mutual
/-- cells of the memory at the start that hold what a value says -/
def HC(W0:World):W->List Value->Prop
 |.bool b,cs=>cs=[.bool b]
 |.int k n,cs=>cs=[.int k n]
 |.agg n l,cs=>cs.length=n/\HCL W0 l cs
 |.arr n e l,cs=>cs.length=n/\(∀x∈l,x.size=e)/\l.length*e=n/\HCL W0 l cs
 |.str x,cs=>cs=[.string ⟨⟨x⟩⟩]
 |.fz l e f,cs=>f=false/\((l=[]/\cs=[.slice none 0 0])\/(l=[]/\0<e/\∃(a:Addr) (bn:Nat) (cs':Array Value) (ty:TypeId) (fz:Nat×Nat),cs=[.slice (some a) 0 0]/\W0.heap[bn]? =some (.cells cs' ty fz))\/∃(a:Addr) (cap:Nat),cs=[.slice (some a) l.length cap]/\l.length<=cap/\a.spot=none/\0<e/\(∀x∈l,x.size=e)/\
   ∃(pre mid tail:List Value) (ty:TypeId) (fz:Nat×Nat),W0.heap[a.block]? =some (.cells (pre++(mid++tail)).toArray ty fz)/\pre.length=a.off/\HCL W0 l mid)
 |_,_=>False
def HCL(W0:World):List W->List Value->Prop
 |[],cs=>cs=[]
 |x::l,cs=>∃a b,cs=a++b/\HC W0 x a/\HCL W0 l b
end
theorem HC.len{W0:World}{w:W}{cs:List Value}(h:HC W0 w cs):cs.length=w.size:=by
 cases w<;>simp only[HC] at h<;>first
  |(subst h;rfl)
  |exact h.1
  |exact h.elim
  |(rcases h with ⟨_,⟨_,rfl⟩|⟨_,_,_,_,_,_,_,rfl,_⟩|⟨a,cap,rfl,_⟩⟩<;>rfl)
structure Start(W0:World)(h:Heap)(ρ:Env):Prop where
 wf:∀i,h.next<=i->h.get i=none
 ro:∀i b,h.get i=some b->∃v o,b= .ro v/\W0.heap[ρ.b i]? =some o/\KnB ρ i b o/\InB (DD (λi=>i<h.next) ρ) b
theorem Start.rel{W0:World}{h:Heap}{ρ:Env}(s:Start W0 h ρ){U:Nat}(hU:h.next<=U):Rel W0 U (λi=>i<h.next) ρ h W0:=by
 refine⟨λi hi=>.inl hi,s.wf,λi b _ hb=>?_,λi b _ hb=>?_,λi j b c _ _ hb _ ho=>?_,λi b _ hb ho=>?_,λi j b c _ _ _ hc _ ho=>?_,Below.refl _ _⟩
 ·obtain⟨v,o,rfl,h1,h2,h3⟩:=s.ro i b hb;exact⟨o,h1,h2⟩
 ·obtain⟨v,o,rfl,h1,h2,h3⟩:=s.ro i b hb;exact h3
 ·obtain⟨v,o,rfl,_⟩:=s.ro i b hb;cases ho
 ·obtain⟨v,o,rfl,_⟩:=s.ro i b hb;cases ho
 ·obtain⟨v,o,rfl,_⟩:=s.ro j c hc;cases ho
theorem law1{P:Program}{C:Cfg}{G:Nat->Option W}(hmx:P.follows .mixedOrders=true)(hC:CfgOK P C)(hF:vMq P C)(hK:jeq P C){f:FuncId}{ws:List W}(sp:PS C G f ws (.bool true)){W0:World}{h:Heap}{ρ:Env}{vs:List V}(s:Start W0 h ρ)
  (gl:GlobOK C (DD (λi=>i<h.next) ρ) ρ) (gr:GRel C G ⟨0,λi=>i,λi=>i<h.next,h⟩) (hin:InDL (DD (λi=>i<h.next) ρ) vs) (hv:RVL ⟨0,λi=>i,λi=>i<h.next,h⟩ ws vs):
  Calls P f (zIq ρ vs).toArray W0 λe w'=>e= .returned (.bool true)/\Below W0.heap.size W0 w':=by
 obtain⟨n,v,Γ',X',w,hp',R',g1,g2,g3,g4,g5,rfl⟩:=sp Res.none ⟨0,λi=>i,λi=>i<h.next,h⟩ (λ_=>False) vs rfl
  ⟨s.wf,λb ty w hb=>by simp[hget] at hb,λb b' x y hb=>by simp[hget] at hb,List.nodup_nil,λ_ _ h=>h,λ_ h=>h.elim,λ_ h=>h,trivial,gr⟩ hv
 refine(run_calls hmx hC hF hK g1 gl hin (s.rel g3.next)).mono λe w'=>?_
 rintro⟨D',ρ',rfl,hb,_⟩
 have hvb:v= .bool true:=by
  have:=g4.one rfl;simpa[RS] using this
 subst hvb;exact⟨rfl,hb⟩
end
section
open Go.RowKit
structure Later(h:Heap)(ρ:Env)(h':Heap)(ρ':Env):Prop where
 next:h.next<=h'.next
 get:∀i,i<h.next->h'.get i=h.get i
 env:∀i,i<h.next->ρ'.b i=ρ.b i/\ρ'.pre i=ρ.pre i/\ρ'.cap i=ρ.cap i/\ρ'.l i=ρ.l i
theorem Later.refl(h:Heap)(ρ:Env):Later h ρ h ρ:=⟨Nat.le_refl _,λ_ _=>rfl,λ_ _=>⟨rfl,rfl,rfl,rfl⟩⟩
theorem Later.trans{h1 h2 h3:Heap}{ρ1 ρ2 ρ3:Env}(a:Later h1 ρ1 h2 ρ2)(b:Later h2 ρ2 h3 ρ3):Later h1 ρ1 h3 ρ3:=
 ⟨Nat.le_trans a.next b.next,λi hi=>(b.get i (Nat.lt_of_lt_of_le hi a.next)).trans (a.get i hi),λi hi=>by
  obtain⟨p1,p2,p3,p4⟩:=a.env i hi;obtain⟨q1,q2,q3,q4⟩:=b.env i (Nat.lt_of_lt_of_le hi a.next);exact⟨q1.trans p1,q2.trans p2,q3.trans p3,q4.trans p4⟩⟩
noncomputable def ctx0(h:Heap):Ctx:=⟨0,λi=>i,λi=>i<h.next,h⟩
theorem Later.le{h h':Heap}{ρ ρ':Env}(a:Later h ρ h' ρ'):(ctx0 h).Le (ctx0 h'):=
 ⟨Nat.le_refl _,λ_ _=>rfl,λc hc=>Nat.lt_of_lt_of_le hc a.next,λc hc=>by
  show h'.val c=h.val c;unfold Heap.val;rw[a.get c hc]⟩
theorem Later.agree{h h':Heap}{ρ ρ':Env}(a:Later h ρ h' ρ'):Env.Agree (DD (λi=>i<h.next) ρ) ρ ρ':=λi m hi=>a.env i hi.1
def Env.more(ρ:Env)(n bn pre cap:Nat)(z:Option Addr):Env:=⟨λi=>if i=n then bn else ρ.b i,λi=>if i=n then pre else ρ.pre i,λi=>if i=n then cap else ρ.cap i,λi=>if i=n then(bn,z) else ρ.l i⟩
theorem vAq(h:Heap)(ρ:Env)(v:V)(bn pre cap:Nat)(z:Option Addr):Later h ρ (h.push (.ro v)) (ρ.more h.next bn pre cap z):=by
 refine⟨Nat.le_succ _,λi hi=>?_,λi hi=>?_⟩
 ·rw[Heap.get_push,if_neg Xd]
 ·have e:i≠h.next:=by omega
  simp only[Env.more,if_neg e,and_self]
theorem Start.push{W0:World}{h:Heap}{ρ:Env}(s:Start W0 h ρ)(z:Option Addr){v:V}{bn cap:Nat}{pre tail:List Value}{ty:TypeId}{fz:Nat×Nat}(ho:W0.heap[bn]? =some (.cells (pre++(cellsV ρ v++tail)).toArray ty fz))(hv:InD (DD (λi=>i<h.next) ρ) v)(hc:v.size<=cap):Start W0 (h.push (.ro v)) (ρ.more h.next bn pre.length cap z):=by
 have la:=vAq h ρ v bn pre.length cap z;have mono:∀i m,DD (λi=>i<h.next) ρ i m->DD (λi=>i<(h.push (.ro v)).next) (ρ.more h.next bn pre.length cap z) i m:=λi m hi=>⟨Nat.lt_of_lt_of_le hi.1 la.next,by rw[(la.env i hi.1).2.2.1];exact hi.2⟩
 refine⟨λi hi=>?_,λi b hb=>?_⟩
 ·have hi:h.next+1<=i:=hi;rw[Heap.get_push,if_neg Xd];exact s.wf i Xd
 ·rw[Heap.get_push] at hb;split at hb
  ·rename_i e;cases hb;subst e;refine⟨v,_,rfl,by simp only[Env.more,if_true];exact ho,⟨pre,tail,ty,fz,?_,by simp[Env.more],by simp only[Env.more,if_true];exact hc⟩,InD.mono mono hv⟩;rw[yQq la.agree hv]
  ·obtain⟨v',o,rfl,h1,h2,h3⟩:=s.ro i b hb;have hi:i<h.next:=Nat.lt_of_not_le λq=>by rw[s.wf i q] at hb;cases hb
   exact⟨v',o,rfl,by rw[(la.env i hi).1];exact h1,h2.agree la.agree (m:=0) ⟨hi,Nat.zero_le _⟩ h3,InB.mono mono h3⟩
theorem Start.ghost{W0:World}{h:Heap}{ρ:Env}(s:Start W0 h ρ){bn:Nat}{cs:Array Value}{ty:TypeId}{fz:Nat×Nat}(ho:W0.heap[bn]? =some (.cells cs ty fz))(a:Addr):Start W0 (h.push (.ro (.agg 0 []))) (ρ.more h.next bn 0 0 (some a)):=by
 refine Start.push s (some a) (v:=.agg 0 []) (pre:=[]) (tail:=cs.toList) (ty:=ty) (fz:=fz) ?_ trivial (Nat.le_refl _);rw[ho];simp[cellsV,fit]
structure Opnd(W0:World)(h:Heap)(ρ:Env)(cs:List Value)(s:List V)(h':Heap)(ρ':Env):Prop where
 la:Later h ρ h' ρ'
 st:Start W0 h' ρ'
 eq:cs=s.map (conc ρ')
 leaf:∀v∈s,v.leaf=true
 ind:InDL (DD (λi=>i<h'.next) ρ') s
theorem Later.dd{h h':Heap}{ρ ρ':Env}(a:Later h ρ h' ρ'):∀i m,DD (λi=>i<h.next) ρ i m->DD (λi=>i<h'.next) ρ' i m:=λi m hi=>⟨Nat.lt_of_lt_of_le hi.1 a.next,by rw[(a.env i hi.1).2.2.1];exact hi.2⟩
theorem Later.map{h h':Heap}{ρ ρ':Env}(a:Later h ρ h' ρ'){s:List V}(hs:InDL (DD (λi=>i<h.next) ρ) s):s.map (conc ρ')=s.map (conc ρ):=by
 rw[<-kgq,<-kgq,y8q a.agree hs]
theorem InDL_app{D:Nat->Nat->Prop}{a b:List V}(ha:InDL D a)(hb:InDL D b):InDL D (a++b):=InDL_iff.2 λv hv=>by
 rcases List.mem_append.1 hv with h|h
 ·exact InDL_iff.1 ha v h
 ·exact InDL_iff.1 hb v h
theorem Qkq{ρ:Env}:∀{s:List V},(∀v∈s,v.leaf=true) ->jrq ρ s=s.map (conc ρ)
 |[],_=>rfl
 |v::s,h=>by
  rw[jrq,j2q (h v (List.mem_cons_self ..)),Qkq (s:=s) λx hx=>h x (List.mem_cons_of_mem _ hx)];rfl
theorem Ysq{ρ:Env}{s:List V}(h:∀v∈s,v.leaf=true):cellsV ρ (.agg s.length s)=s.map (conc ρ):=by
 simp only[cellsV,Qkq h];exact yIq Xl
theorem Y6q{s:List V}(h:∀v∈s,v.leaf=true):zjq (.agg s.length s)=s:=Zjq (λx hx=>V.leaf_agg (h x hx)) rfl
theorem HCL.len{W0:World}:∀{l:List W} {cs:List Value},HCL W0 l cs->cs.length=sumW l
 |[],cs,h=>by simp only[HCL] at h;subst h;rfl
 |x::l,cs,h=>by
  simp only[HCL] at h;obtain⟨a,b,rfl,h1,h2⟩:=h;rw[List.length_append,HC.len h1,HCL.len h2];rfl
mutual
theorem open_w{W0:World}:∀(w:W) {cs:List Value} {h:Heap} {ρ:Env},HC W0 w cs->Start W0 h ρ->∃h' ρ' s,Opnd W0 h ρ cs s h' ρ'/\RS (ctx0 h') w s
 |.bool b,cs,h,ρ,hc,st=>by
  simp only[HC] at hc;subst hc
  exact⟨h,ρ,[.bool b],⟨Later.refl _ _,st,by simp[conc],by simp[V.leaf],⟨trivial,trivial⟩⟩,by simp[RS]⟩
 |.int k n,cs,h,ρ,hc,st=>by
  simp only[HC] at hc;subst hc
  exact⟨h,ρ,[.int k n],⟨Later.refl _ _,st,by simp[conc],by simp[V.leaf],⟨trivial,trivial⟩⟩,by simp[RS]⟩
 |.str x,cs,h,ρ,hc,st=>by
  simp only[HC] at hc;subst hc
  exact⟨h,ρ,[.str x],⟨Later.refl _ _,st,by simp[conc],by simp[V.leaf],⟨trivial,trivial⟩⟩,by simp[RS]⟩
 |.agg n l,cs,h,ρ,hc,st=>by
  simp only[HC] at hc;obtain⟨h',ρ',s,o,r⟩:=open_l l hc.2 st;exact⟨h',ρ',s,o,by simp only[RS];exact⟨by rw[<-hc.1,o.eq];simp,r⟩⟩
 |.arr n e l,cs,h,ρ,hc,st=>by
  simp only[HC] at hc;obtain⟨h',ρ',s,o,r⟩:=open_l l hc.2.2.2 st;exact⟨h',ρ',s,o,by simp only[RS];exact⟨by rw[<-hc.1,o.eq];simp,hc.2.1,r⟩⟩
 |.fz l e f,cs,h,ρ,hc,st=>by
  simp only[HC] at hc;obtain⟨rfl,⟨rfl,rfl⟩|⟨rfl,he,a,bn,cs',ty,fz,rfl,ho⟩|⟨a,cap,rfl,hle,hsp,he,hsz,pre,mid,tail,ty,fz,ho,hpre,hl⟩⟩:=hc
  ·exact⟨h,ρ,[.nils],⟨Later.refl _ _,st,by simp[conc],by simp[V.leaf],⟨trivial,trivial⟩⟩,by simp[RS]⟩
  ·have la:=vAq h ρ (.agg 0 []) bn 0 0 (some a);refine⟨_,_,[.sl h.next 1 0 0 e (some 0)],⟨la,st.ghost ho a,?_,by simp[V.leaf],⟨⟨he,Nat.le_refl _,Nat.lt_succ_self _,by simp⟩,trivial⟩⟩,?_⟩
   ·simp[conc,ylq,ykq,vlq,Env.more]
   ·simp only[RS];refine .inr ⟨h.next,1,0,some 0,.agg 0 [],rfl,λh=>Qd,Nat.lt_succ_self _,?_,rfl,by simp[V.size],by simp,?_⟩
    ·simp[ctx0,Heap.val,Heap.get_push]
    ·simp[RSL]
  ·obtain⟨h1,ρ1,s,o,r⟩:=open_l l hl st
   have hlen:s.length=l.length*e:=by
    have h1:=HCL.len hl;rw[kjq hsz,o.eq,List.length_map] at h1;exact h1
   have la:=vAq h1 ρ1 (.agg s.length s) a.block a.off (cap*e) none;have hcl:l.length*e<=cap*e:=Nat.mul_le_mul_right e hle
   have stp:Start W0 (h1.push (.ro (.agg s.length s))) (ρ1.more h1.next a.block a.off (cap*e) none):=by
    rw[<-hpre];refine o.st.push none (tail:=tail) (ty:=ty) (fz:=fz) ?_ o.ind (by show s.length<=cap*e;omega);rw[Ysq o.leaf,<-o.eq];exact ho
   refine⟨_,_,[.sl h1.next 0 0 l.length e (some cap)],⟨o.la.trans la,stp,?_,by simp[V.leaf],⟨⟨he,hle,Nat.lt_succ_self _,by simp[Env.more]⟩,trivial⟩⟩,?_⟩
   ·obtain⟨ab,ao,asp⟩:=a;simp only at hsp;subst hsp;by_cases hc0:cap=0
    ·subst hc0;simp[conc,ylq,ykq,Env.more]
    ·simp[conc,ylq,ykq,Env.more,hc0]
   ·simp only[RS];refine .inr ⟨h1.next,0,0,some cap,.agg s.length s,rfl,λh=>Qd,Nat.lt_succ_self _,?_,rfl,by simp only[V.size];omega,hsz,?_⟩
    ·simp[ctx0,Heap.val,Heap.get_push]
    ·rw[List.drop_zero,Y6q o.leaf,List.take_of_length_le Xd];exact RSL.mono la.le r
 |.undef,cs,h,ρ,hc,st=>by simp[HC] at hc
 |.nilp,cs,h,ρ,hc,st=>by simp[HC] at hc
 |.ptr _ _,cs,h,ρ,hc,st=>by simp[HC] at hc
 |.nils,cs,h,ρ,hc,st=>by simp[HC] at hc
 |.sl _ _ _ _ _ _,cs,h,ρ,hc,st=>by simp[HC] at hc
 |.fel _,cs,h,ρ,hc,st=>by simp[HC] at hc
 |.nilm,cs,h,ρ,hc,st=>by simp[HC] at hc
 |.fn _ _ _,cs,h,ρ,hc,st=>by simp[HC] at hc
 |.yield _,cs,h,ρ,hc,st=>by simp[HC] at hc
 |.nilf,cs,h,ρ,hc,st=>by simp[HC] at hc
 |.iface _ _,cs,h,ρ,hc,st=>by simp[HC] at hc
 |.nili,cs,h,ρ,hc,st=>by simp[HC] at hc
 |.tup _,cs,h,ρ,hc,st=>by simp[HC] at hc
theorem open_l{W0:World}:∀(l:List W) {cs:List Value} {h:Heap} {ρ:Env},HCL W0 l cs->Start W0 h ρ->∃h' ρ' s,Opnd W0 h ρ cs s h' ρ'/\RSL (ctx0 h') l s
 |[],cs,h,ρ,hc,st=>by
  simp only[HCL] at hc;subst hc
  exact⟨h,ρ,[],⟨Later.refl _ _,st,rfl,by simp,trivial⟩,by simp[RSL]⟩
 |x::l,cs,h,ρ,hc,st=>by
  simp only[HCL] at hc;obtain⟨a,b,rfl,h1,h2⟩:=hc;obtain⟨h1',ρ1,s1,o1,r1⟩:=open_w x h1 st;obtain⟨h2',ρ2,s2,o2,r2⟩:=open_l l h2 o1.st;refine⟨h2',ρ2,s1++s2,⟨o1.la.trans o2.la,o2.st,?_,?_,InDL_app (o1.ind.mono o2.la.dd) o2.ind⟩,y9q (RS.mono o2.la.le r1) r2⟩
  ·rw[List.map_append,o2.la.map o1.ind,<-o1.eq,<-o2.eq]
  ·intro v hv;rcases List.mem_append.1 hv with h|h
   ·exact o1.leaf v h
   ·exact o2.leaf v h
end
def HV(W0:World)(w:W)(v:Value):Prop:=match w.isAgg with
 |true=>∃cs,v= .agg cs.toArray/\HC W0 w cs
 |false=>HC W0 w [v]
def HVL(W0:World):List W->List Value->Prop
 |[],vs=>vs=[]
 |w::ws,vs=>∃v vs',vs=v::vs'/\HV W0 w v/\HVL W0 ws vs'
theorem open_v{W0:World}{w:W}{v:Value}{h:Heap}{ρ:Env}(hv:HV W0 w v)(st:Start W0 h ρ):∃h' ρ' x,Later h ρ h' ρ'/\Start W0 h' ρ'/\conc ρ' x=v/\InD (DD (λi=>i<h'.next) ρ') x/\RV (ctx0 h') w x:=by
 unfold HV at hv;split at hv
 ·rename_i ha;obtain⟨cs,rfl,hc⟩:=hv;obtain⟨h',ρ',s,o,r⟩:=open_w w hc st;refine⟨h',ρ',.agg s.length s,o.la,o.st,?_,o.ind,ha,by rw[Y6q o.leaf];exact r⟩;rw[qjq rfl,Ysq o.leaf,<-o.eq]
 ·rename_i ha;obtain⟨h',ρ',s,o,r⟩:=open_w w hv st;have hl:=congrArg List.length o.eq;simp only[List.length_cons,List.length_nil,List.length_map] at hl;match s,hl,o,r with
  |[x],_,o,r=>
   have e:=o.eq;simp only[List.map_cons,List.map_nil,List.cons.injEq,and_true] at e;exact⟨h',ρ',x,o.la,o.st,e.symm,o.ind.1,RV.of_one r ha (V.leaf_agg (o.leaf x Xl))⟩
theorem open_vs{W0:World}:∀{ws:List W} {vs:List Value} {h:Heap} {ρ:Env},HVL W0 ws vs->Start W0 h ρ->∃h' ρ' xs,Later h ρ h' ρ'/\Start W0 h' ρ'/\zIq ρ' xs=vs/\InDL (DD (λi=>i<h'.next) ρ') xs/\RVL (ctx0 h') ws xs
 |[],vs,h,ρ,hv,st=>by
  simp only[HVL] at hv;subst hv
  exact⟨h,ρ,[],Later.refl _ _,st,rfl,trivial,by simp[RVL]⟩
 |w::ws,vs,h,ρ,hv,st=>by
  simp only[HVL] at hv;obtain⟨v,vs',rfl,h1,h2⟩:=hv;obtain⟨ha,ρa,x,la,sa,ea,ia,ra⟩:=open_v h1 st;obtain⟨hb,ρb,xs,lb,sb,eb,ib,rb⟩:=open_vs h2 sa;refine⟨hb,ρb,x::xs,la.trans lb,sb,?_,⟨ia.mono lb.dd,ib⟩,?_⟩
  ·rw[zIq,eb,yEq lb.agree ia,ea]
  ·simp only[RVL];exact⟨x,xs,rfl,RV.mono lb.le ra,rb⟩
end
section
open Go.RowKit Go.ChangeShapes Go.WideShapes
inductive Sh where
 |bool
 |int (k:IntKind)
 |str
 |arr (n sz:Nat) (s:Sh)
 |st (n:Nat) (fs:List Sh)
 |sl (sz bz:Nat) (s:Sh)
def Sh.cells:Sh->Nat
 |.arr n sz _=>n*sz
 |.st n _=>n
 |_=>1
def Sh.agg:Sh->Bool
 |.arr _ _ _=>true
 |.st _ _=>true
 |_=>false
def shF(g:TypeId->Option Sh)(P:Program):List Field->Nat->Option (List Sh×Nat)
 |[],off=>some ([],off)
 |F::Fs,off=>match g F.type with
  |some s=>match Nat.beq F.offset off&&Nat.beq (P.cellsOf F.type) s.cells with
   |true=>match shF g P Fs (off+s.cells) with
    |some (l,n)=>some (s::l,n)
    |none=>none
   |false=>none
  |none=>none
def shOf(P:Program):Nat->TypeId->Option Sh
 |0,_=>none
 |d+1,t=>match P.underlying t with
  |some .bool=>some .bool
  |some (.int k)=>some (.int k)
  |some .string=>some .str
  |some (.array n e)=>match shOf P d e with
   |some s=>match Nat.beq (P.cellsOf e) s.cells&&Nat.beq (P.cellsOf t) (n*s.cells) with
    |true=>some (.arr n s.cells s)
    |false=>none
   |none=>none
  |some (.slice e)=>match shOf P d e with
   |some s=>match Nat.beq (P.cellsOf e) s.cells&&Nat.blt 0 s.cells with
    |true=>some (.sl s.cells (P.bytesOf e) s)
    |false=>none
   |none=>none
  |some (.struct F)=>match shF (shOf P d) P F.toList 0 with
   |some (l,n)=>match Nat.beq (P.cellsOf t) n with
    |true=>some (.st n l)
    |false=>none
   |none=>none
  |_=>none
mutual
/-- a value of that shape -/
def Fit:Sh->W->Prop
 |.bool,w=>∃b,w= .bool b
 |.int k,w=>∃n,w= .int k n/\(Lit.int k n).wf=true
 |.str,w=>∃x,w= .str x/\x.length<=reachBytes
 |.arr n sz s,w=>∃l,w= .arr (n*sz) sz l/\l.length=n/\∀x∈l,Fit s x
 |.st n fs,w=>∃l,w= .agg n l/\FitL fs l
 |.sl sz bz s,w=>∃l,w= .fz l sz false/\l.length*bz<=reachBytes/\∀x∈l,Fit s x
def FitL:List Sh->List W->Prop
 |[],l=>l=[]
 |s::fs,l=>∃x l',l=x::l'/\Fit s x/\FitL fs l'
end
theorem Fit.size{s:Sh}{w:W}(h:Fit s w):w.size=s.cells:=by
 cases s<;>simp only[Fit] at h
 case bool=>obtain⟨_,rfl⟩:=h;rfl
 case int=>obtain⟨_,rfl,_⟩:=h;rfl
 case str=>obtain⟨_,rfl,_⟩:=h;rfl
 all_goals (obtain⟨_,rfl,_⟩:=h;rfl)
theorem Fit.agg{s:Sh}{w:W}(h:Fit s w):w.isAgg=s.agg:=by
 cases s<;>simp only[Fit] at h
 case bool=>obtain⟨_,rfl⟩:=h;rfl
 case int=>obtain⟨_,rfl,_⟩:=h;rfl
 case str=>obtain⟨_,rfl,_⟩:=h;rfl
 all_goals (obtain⟨_,rfl,_⟩:=h;rfl)
def Ex0(W0:World):Prop:=∃(bn:Nat) (cs:Array Value) (ty:TypeId) (fz:Nat×Nat),W0.heap[bn]? =some (.cells cs ty fz)
theorem segs{W0:World}{s:Sh}{sz:Nat}:∀(n:Nat) (L:List Value),(∀i,i<n->∃w,Fit s w/\HC W0 w ((L.drop (i*sz)).take sz)) ->∃l:List W,l.length=n/\(∀x∈l,Fit s x)/\HCL W0 l (L.take (n*sz))
 |0,L,_=>⟨[],rfl,by simp,by simp[HCL]⟩
 |n+1,L,h=>by
  obtain⟨w,f,hc⟩:=h 0 Xd
  obtain⟨l,h1,h2,h3⟩:=segs n (L.drop sz) (λi hi=>by
   have:=h (i+1) Xd;rw[List.drop_drop,show sz+i*sz=(i+1)*sz by rw[Nat.add_mul];omega];exact this)
  refine⟨w::l,by simp[h1],?_,?_⟩
  ·intro x hx;rcases List.mem_cons.1 hx with rfl|hx
   ·exact f
   ·exact h2 x hx
  ·simp only[HCL];refine⟨L.take sz,(L.drop sz).take (n*sz),?_,by simpa using hc,h3⟩;rw[show(n+1)*sz=sz+n*sz by rw[Nat.add_mul];omega,List.take_add]
section
variable {H:Type} {enc:TypeId×Value->H} {P:Program} {W0:World}
theorem kmq{e:TypeId}:∀{l:List (DataW H)} {d:DataW H} {n:Nat},d∈l->n∈d.weights P e->n∈DataW.weightsAll P e l
 |[],_,_,h,_=>by simp at h
 |x::l,d,n,h,hn=>by
  rw[DataW.weightsAll];rcases List.mem_cons.1 h with rfl|h
  ·exact List.mem_append_left _ hn
  ·exact List.mem_append_right _ (kmq h hn)
abbrev Tr0(enc:TypeId×Value->H)(P:Program)(W0:World):=DataW.trod enc P W0 0 (λ_=>true) true
theorem fields{g:TypeId->Option Sh}{m:Nat}(ih:∀t sh,g t=some sh->∀cs x,Tr0 enc P W0 m t cs=some x->(∀n∈x.1.weights P t,n<=reachBytes) ->((∃a n c,Value.slice (some a) n c∈cs) ->Ex0 W0) ->∃w,Fit sh w/\HC W0 w cs)(cs:List Value)(hE:(∃a n c,Value.slice (some a) n c∈cs) ->Ex0 W0):
  ∀(Fs:List Field) (xs:List (DataW H×List MemPlace)) (off:Nat) (fs:List Sh) (n:Nat),shF g P Fs off=some (fs,n) ->xs.length=Fs.length->(∀(i:Nat) (f:Field),Fs[i]? =some f->Tr0 enc P W0 m f.type ((cs.drop f.offset).take (P.cellsOf f.type))=xs[i]?) ->
   (∀n∈DataW.weightsEach P (Fs.map (·.type)) (xs.map (·.1)),n<=reachBytes) ->∃l,FitL fs l/\HCL W0 l ((cs.drop off).take (n-off))/\off<=n
 |[],xs,off,fs,n,hs,hl,hx,hw=>by
  simp only[shF,Option.some.injEq,Prod.mk.injEq] at hs;obtain⟨rfl,rfl⟩:=hs;exact⟨[],by simp[FitL],by simp[HCL],Nat.le_refl _⟩
 |F::Fs,[],off,fs,n,hs,hl,hx,hw=>by simp at hl
 | F ::Fs,x::xs,off,fs,n,hs,hl,hx,hw=>by
  unfold shF at hs;split at hs
  ·rename_i s hg;split at hs
   ·rename_i hc;simp only[Bool.and_eq_true,Nat.beq_eq] at hc;split at hs
    ·rename_i l' n' hr;simp only[Option.some.injEq,Prod.mk.injEq] at hs;obtain⟨rfl,rfl⟩:=hs;simp only[List.map_cons,DataW.weightsEach] at hw
     obtain⟨l,k1,k2,k3⟩:=fields ih cs hE Fs xs (off+s.cells) l' n' hr (by simpa using hl) (λi f hf=>by
      have:=hx (i+1) f (by simpa using hf);simpa using this) (λk hk=>hw k (List.mem_append_right _ hk))
     have h0:=hx 0 F rfl;simp only[List.getElem?_cons_zero] at h0;obtain⟨w,f1,f2⟩:=ih F.type s hg _ x h0 (λk hk=>hw k (List.mem_append_left _ hk)) (λ⟨a,n,c,hm⟩=>hE ⟨a,n,c,List.mem_of_mem_drop (List.mem_of_mem_take hm)⟩);rw[hc.1,hc.2] at f2;refine⟨w::l,⟨w,l,rfl,f1,k1⟩,?_,by omega⟩;simp only[HCL];refine⟨_,_,?_,f2,k2⟩;rw[show n'-off=s.cells+(n'-(off+s.cells)) by omega,List.take_add,List.drop_drop]
    ·cases hs
   ·cases hs
  ·cases hs
theorem uVq:∀(d:Nat) (t:TypeId) (sh:Sh),shOf P d t=some sh->∀(fuel:Nat) (cs:List Value) (x:DataW H×List MemPlace),Tr0 enc P W0 fuel t cs=some x->(∀n∈x.1.weights P t,n<=reachBytes) ->((∃a n c,Value.slice (some a) n c∈cs) ->Ex0 W0) ->∃w,Fit sh w/\HC W0 w cs
 |0,t,sh,hs=>by simp[shOf] at hs
 | d + 1, t,sh,hs=>λfuel cs x h hw hE=>by
  unfold shOf at hs;split at hs
  ·rename_i ht;cases hs;obtain⟨b,rfl,rfl⟩:=DataW.trod_bool ht h;exact⟨.bool b,⟨b,rfl⟩,by simp[HC]⟩
  ·rename_i k ht;cases hs;obtain⟨n,rfl,rfl,hwf⟩:=DataW.trod_int ht h;exact⟨.int k n,⟨n,rfl,hwf⟩,by simp[HC]⟩
  ·rename_i ht;cases hs;obtain⟨s,rfl,rfl,hsz⟩:=DataW.trod_string ht h;refine⟨.str s.data.toList,⟨_,rfl,?_⟩,?_⟩
   ·exact hw _ (by simp[DataW.weights])
   ·simp only[HC]
  ·rename_i n e ht;split at hs
   ·rename_i s he;split at hs
    ·rename_i hc;cases hs;simp only[Bool.and_eq_true,Nat.beq_eq] at hc;obtain⟨xs,m,rfl,rfl,hl,hxl,hx⟩:=DataW.trod_array ht h;rw[hc.1] at hx;have hw:∀k∈DataW.weightsAll P e (xs.map (·.1)),k<=reachBytes:=λk hk=>hw k (by simp only[DataW.weights,ht];exact hk)
     obtain⟨l,l1,l2,l3⟩:=segs (W0:=W0) (s:=s) (sz:=s.cells) n cs (λi hi=>by
      have h1:=hx i hi;have hlt:i<xs.length:=by omega
      rw[List.getElem?_eq_getElem hlt] at h1;exact uVq d e s he m _ _ h1 (λk hk=>hw k (kmq (List.mem_map_of_mem (List.getElem_mem hlt)) hk)) (λ⟨a,n,c,hm⟩=>hE ⟨a,n,c,List.mem_of_mem_drop (List.mem_of_mem_take hm)⟩))
     have hcl:cs.length=n*s.cells:=by rw[hl,hc.2]
     refine⟨.arr (n*s.cells) s.cells l,⟨l,rfl,l1,l2⟩,?_⟩;simp only[HC];refine⟨hcl,λx hx=>(l2 x hx).size,by rw[l1],?_⟩;rwa[List.take_of_length_le Xd] at l3
    ·cases hs
   ·cases hs
  ·rename_i e ht;split at hs
   ·rename_i s he;split at hs
    ·rename_i hc;cases hs;simp only[Bool.and_eq_true,Nat.beq_eq] at hc;obtain⟨hce,hpos⟩:=hc;have hpos:0<s.cells:=blt_t hpos;rcases DataW.trod_slice ht h with ⟨rfl,rfl⟩|⟨a,len,cap,elems,rest,n,rfl,rfl,rfl,hb,hl,hm,hlen,hel,hsp,_⟩
     ·exact⟨.fz [] s.cells false,⟨[],rfl,by simp,by simp⟩,by unfold HC;exact⟨rfl,.inl ⟨rfl,rfl⟩⟩⟩
     ·by_cases hc0:cap=0
      ·subst hc0;obtain rfl:len=0:=by omega
       obtain⟨bn,cs',ty,fz,ho⟩:=hE ⟨a,0,0,by simp⟩;exact⟨.fz [] s.cells false,⟨[],rfl,by simp,by simp⟩,by unfold HC;exact⟨rfl,.inr (.inl ⟨rfl,hpos,a,bn,cs',ty,fz,rfl,ho⟩)⟩⟩
      ·obtain⟨hrl,hr⟩:=hsp rfl;rw[hce] at hel hr
       have each:∀i,i<cap->∃csi y,W0.cells? 0 (a.add (i*s.cells)) s.cells=some csi/\Tr0 enc P W0 n e csi=some y/\(i<len->elems[i]? =some y):=λi hi=>by
        by_cases h1:i<len
        ·have h2:=hel i h1;have hlt:i<elems.length:=by omega
         rw[List.getElem?_eq_getElem hlt,Option.bind_eq_some_iff] at h2;obtain⟨csi,q1,q2⟩:=h2;exact⟨csi,_,q1,q2,λ_=>List.getElem?_eq_getElem hlt⟩
        ·have h2:=hr (i-len) Xd;have hlt:i-len<rest.length:=by omega
         rw[List.getElem?_eq_getElem hlt,Option.bind_eq_some_iff,show len+(i-len)=i by omega] at h2;obtain⟨csi,q1,q2⟩:=h2;exact⟨csi,_,q1,q2,λh=>absurd h h1⟩
       --the block
       obtain⟨cs0,y0,e0,_,_⟩:=each 0 Xd;obtain⟨_,l0,c0⟩:=World.cells?_some e0;have c1:=c0 0 hpos;rw[Nat.zero_mul] at c1;have ha0:(a.add 0).add 0=a:=by simp[Addr.add]
       rw[ha0,List.getElem?_eq_getElem Xd] at c1;obtain⟨ab,ao,asp⟩:=a;unfold World.cell? at c1;split at c1
       ·rename_i cs' ty fz ho;simp only at ho c1;split at c1
        ·cases c1
        ·rename_i hsp0;have hsp0:asp=none:=by simpa using hsp0
         subst hsp0;obtain⟨L,hL⟩:∃L,L=cs'.toList.drop ao:=⟨_,rfl⟩
         have seg:∀i,i<cap->∀csi,W0.cells? 0 (Addr.add ⟨ab,ao,none⟩ (i*s.cells)) s.cells=some csi->csi=(L.drop (i*s.cells)).take s.cells:=λi hi csi hcs=>by
          obtain⟨_,q1,q2⟩:=World.cells?_some hcs;apply List.ext_getElem?;intro k;by_cases hk:k<s.cells
          ·have:=q2 k hk;rw[jjq,jjq] at this;simp only[World.cell?,ho] at this;rw[<-this,List.getElem?_take_of_lt hk,List.getElem?_drop,hL,List.getElem?_drop,Array.getElem?_toList,Nat.add_assoc];simp
          ·rw[List.getElem?_eq_none Xd,List.getElem?_eq_none Xo]
         have hLlen:cap*s.cells<=L.length:=by
          obtain⟨csi,y,q1,_,_⟩:=each (cap-1) Xd;obtain⟨_,q2,_⟩:=World.cells?_some q1;have q3:=seg (cap-1) Xd csi q1;have q4:=congrArg List.length q3;rw[q2,List.length_take,List.length_drop] at q4
          have:cap*s.cells=(cap-1)*s.cells+s.cells:=by
           have:=Nat.add_mul (cap-1) 1 s.cells;rw[show cap-1+1=cap by omega] at this;omega
          omega
         have hw2:∀k∈DataW.weightsAll P e (elems.map (·.1)),k<=reachBytes:=λk hk=>hw k (by simp only[DataW.weights,ht];exact List.mem_cons_of_mem _ (List.mem_append_left _ hk))
         have hw1:(elems.length+rest.length)*P.bytesOf e<=reachBytes:=hw _ (by simp only[DataW.weights,ht,List.length_map];exact List.mem_cons_self ..)
         obtain⟨l,l1,l2,l3⟩:=segs (W0:=W0) (s:=s) (sz:=s.cells) len L (λi hi=>by
          obtain⟨csi,y,q1,q2,q3⟩:=each i Xd;rw[seg i Xd csi q1] at q2;exact uVq d e s he n _ _ q2 (λk hk=>hw2 k (kmq (List.mem_map_of_mem (List.mem_of_getElem? (q3 hi))) hk)) (λ_=>⟨ab,cs',ty,fz,ho⟩))
         have hlc:len*s.cells<=cap*s.cells:=Nat.mul_le_mul_right _ hl;refine⟨.fz l s.cells false,⟨l,rfl,?_,l2⟩,?_⟩
         ·rw[l1];refine Nat.le_trans (Nat.mul_le_mul_right _ ?_) hw1;omega
         ·unfold HC;refine⟨rfl,.inr (.inr ⟨⟨ab,ao,none⟩,cap,by rw[l1],by omega,rfl,hpos,λx hx=>(l2 x hx).size,cs'.toList.take ao,L.take (len*s.cells),L.drop (len*s.cells),ty,fz,?_,?_,l3⟩)⟩
          ·rw[List.take_append_drop,hL,List.take_append_drop,Array.toArray_toList];exact ho
          ·have hq:(cs'.toList.take ao).length=min ao cs'.toList.length:=List.length_take;have:=congrArg List.length hL;rw[List.length_drop] at this;have h2:0<cap*s.cells:=Nat.mul_pos Xd hpos;show(cs'.toList.take ao).length=ao;omega
       ·cases c1
    ·cases hs
   ·cases hs
  ·rename_i F ht;split at hs
   ·rename_i fs n hF;split at hs
    ·rename_i hc;cases hs;have hc:=Nat.eq_of_beq_eq_true hc;obtain⟨xs,m,rfl,rfl,hl,hxl,hx⟩:=DataW.trod_struct ht h;obtain⟨l,k1,k2,k3⟩:=fields (enc:=enc) (λt sh hs cs x h1 h2 h3=>uVq d t sh hs m cs x h1 h2 h3) cs hE F.toList xs 0 fs n hF (by simpa using hxl) (λi f hf=>hx i f (by simpa using hf)) (λk hk=>hw k (by simp only[DataW.weights,ht];exact hk));have hcl:cs.length=n:=by rw[hl,hc]
     refine⟨.agg n l,⟨l,rfl,k1⟩,?_⟩;simp only[HC];refine⟨hcl,?_⟩;rwa[List.drop_zero,Nat.sub_zero,List.take_of_length_le Xd] at k2
    ·cases hs
   ·cases hs
  ·cases hs
theorem shape_ex{b:Nat}{x:TypeId×Nat}(h:W0.shape? b=some x):Ex0 W0:=by
 unfold World.shape? at h;split at h
 ·rename_i cs ty fz ho;exact⟨b,cs,ty,fz,ho⟩
 ·cases h
theorem cell_ex{r:Reach}{base:Nat}{u:TypeId}{a:Addr}{n c:Nat}(h:Cell.okWide P W0 r base u (.slice (some a) n c)):Ex0 W0:=by
 unfold Cell.okWide at h;split at h
 all_goals first
  |(rename_i he;cases he;done)
  |skip
 unfold Cell.ok at h;split at h
 all_goals first
  |exact h.elim
  |(rename_i he;cases he;done)
  |skip
 rename_i he;cases he;obtain⟨_,_,row,cells,hs,_⟩:=h.2.2;exact shape_ex hs
theorem cell_one{r:Reach}{base:Nat}{u:TypeId}{v:Value}(h:Cell.okWide P W0 r base u v):v.cells= #[v]:=by
 cases v<;>first
  |rfl
  | (exfalso
     unfold Cell.okWide at h;split at h
     all_goals first
      |(rename_i he;cases he;done)
      |skip
     unfold Cell.ok at h;split at h
     all_goals first
      |exact h.elim
      |(rename_i he;cases he;done))
theorem row_ex{r:Reach}{base:Nat}{t:TypeId}{cs:Array Value}(h:Row.okWide P W0 r base t cs){a:Addr}{n c:Nat}(hm:Value.slice (some a) n c∈cs.toList):Ex0 W0:=by
 obtain⟨ts,_,_,hc⟩:=h;obtain⟨i,hi⟩:=List.getElem?_of_mem hm;obtain⟨u,_,hu⟩:=hc i _ (by simpa using hi);exact cell_ex hu
theorem ok_agg{r:Reach}{base d:Nat}{t:TypeId}{sh:Sh}{v:Value}(hs:shOf P d t=some sh)(hv:Value.okWide P W0 r base t v):match sh.agg with
  |true=>∃cs:Array Value,v= .agg cs/\Row.okWide P W0 r base t cs
  |false=>Cell.okWide P W0 r base t v:=by
 cases d with
 |zero=>simp[shOf] at hs
 |succ d=>
  unfold shOf at hs;unfold Value.okWide at hv;split at hs
  ·rename_i ht;cases hs;rw[ht] at hv;exact hv
  ·rename_i k ht;cases hs;rw[ht] at hv;exact hv
  ·rename_i ht;cases hs;rw[ht] at hv;exact hv
  ·rename_i n e ht;rw[ht] at hv;obtain⟨cs,rfl,_,hr⟩:=hv;split at hs
   ·split at hs
    ·cases hs;exact⟨cs,rfl,hr⟩
    ·cases hs
   ·cases hs
  ·rename_i e ht;rw[ht] at hv;split at hs
   ·split at hs
    ·cases hs;exact hv
    ·cases hs
   ·cases hs
  ·rename_i F ht;rw[ht] at hv;obtain⟨cs,rfl,_,hr⟩:=hv;split at hs
   ·split at hs
    ·cases hs;exact⟨cs,rfl,hr⟩
    ·cases hs
   ·cases hs
  ·cases hs
theorem open_arg{r:Reach}{base d:Nat}{t:TypeId}{sh:Sh}{v:Value}{x:DataW H}{p:List MemPlace}(hs:shOf P d t=some sh)(hv:Value.okWide P W0 r base t v)(hd:DataW.Trod enc P W0 0 (λ_=>true) true t v x p)(hw:∀n∈x.weights P t,n<=reachBytes):∃w,Fit sh w/\HV W0 w v:=by
 obtain⟨fuel,hf⟩:=hd;have hk:=ok_agg hs hv
 obtain⟨w,f,hc⟩:=uVq d t sh hs fuel _ _ hf hw (λ⟨a,n,c,hm⟩=>by
  split at hk
  ·obtain⟨cs,rfl,hr⟩:=hk;exact row_ex hr hm
  ·rw[cell_one hk] at hm;simp only[List.mem_cons,List.not_mem_nil,or_false] at hm;rw[<-hm] at hk;exact cell_ex hk)
 refine⟨w,f,?_⟩;unfold HV;rw[f.agg];generalize sh.agg=ag at hk;cases ag with
 |true=>
  obtain⟨cs,rfl,hr⟩:=hk;exact⟨cs.toList,by simp,hc⟩
 |false=>
  have hk:Cell.okWide P W0 r base t v:=hk;rw[cell_one hk] at hc;exact hc
def shAll(P:Program)(d:Nat):List TypeId->Option (List Sh)
 |[]=>some []
 |t::ts=>match shOf P d t,shAll P d ts with
  |some s,some l=>some (s::l)
  |_,_=>none
theorem open_all{r:Reach}{base d:Nat}:∀{ts:List TypeId} {shs:List Sh} {vs:List Value} {xs:List (DataW H)} {p:List MemPlace},shAll P d ts=some shs->(∀(j:Nat) t v,ts[j]? =some t->vs[j]? =some v->Value.okWide P W0 r base t v) ->
  DataW.TrodAll enc P W0 0 (λ_=>true) true ts vs xs p->(∀n∈DataW.weightsEach P ts xs,n<=reachBytes) ->∃ws,FitL shs ws/\HVL W0 ws vs
 |[],shs,vs,xs,p,hs,hv,hd,hw=>by
  obtain⟨rfl,rfl,rfl⟩:=trodAll_nil hd;simp only[shAll,Option.some.injEq] at hs;subst hs;exact⟨[],by simp[FitL],by simp[HVL]⟩
 |t::ts,shs,vs,xs,p,hs,hv,hd,hw=>by
  obtain⟨v,vs',x,xs',p',q,rfl,rfl,rfl,h1,h2⟩:=trodAll_cons hd;simp only[shAll] at hs;split at hs
  ·rename_i s l e1 e2;cases hs;simp only[DataW.weightsEach] at hw;obtain⟨w,f,k⟩:=open_arg e1 (hv 0 t v Z Z) h1 (λn hn=>hw n (List.mem_append_left _ hn));obtain⟨ws,fs,ks⟩:=open_all e2 (λj t v h3 h4=>hv (j+1) t v (by simpa using h3) (by simpa using h4)) h2 (λn hn=>hw n (List.mem_append_right _ hn));exact⟨w::ws,⟨w,ws,rfl,f,fs⟩,⟨v,vs',rfl,k,ks⟩⟩
  ·cases hs
def rowedAll(P:Program):List TypeId->Bool
 |[]=>true
 |t::ts=>P.readableRec t&&Nat.blt t P.types.size&&rowedAll P ts
theorem Below.trodAll(hl:laidOutB P=true){W W':World}(hb:Below W.heap.size W W'):∀{ts:List TypeId} {vs:List Value} {xs:List (DataW H)} {p:List MemPlace},rowedAll P ts=true->DataW.TrodAll enc P W 0 (λ_=>true) true ts vs xs p->DataW.TrodAll enc P W' 0 (λb=>decide (b<W.heap.size)) true ts vs xs p
 |[],vs,xs,p,hr,h=>by
  obtain⟨rfl,rfl,rfl⟩:=trodAll_nil h;exact trodAll_mk0
 |t::ts,vs,xs,p,hr,h=>by
  simp only[rowedAll,Bool.and_eq_true] at hr;obtain⟨v,vs',x,xs',p',q,rfl,rfl,rfl,h1,h2⟩:=trodAll_cons h;refine trodAll_cons_mk (Below.trod hl hr.1.1 (blt_t hr.1.2) h1 hb ?_) (Below.trodAll hl hb hr.2 h2);obtain⟨m,hm⟩:=h1;exact DataW.trod_lt m _ _ _ hm
end
theorem Later.glob{C:Cfg}{h h':Heap}{ρ ρ':Env}(la:Later h ρ h' ρ')(gl:GlobOK C (DD (λi=>i<h.next) ρ) ρ):GlobOK C (DD (λi=>i<h'.next) ρ') ρ':=λg hg=>by
 obtain⟨h1,h2,h3⟩:=gl g hg;obtain⟨e1,e2,_,_⟩:=la.env g h1.1;exact⟨la.dd _ _ h1,by rw[e1];exact h2,by rw[e2];exact h3⟩
theorem Later.grel{C:Cfg}{G:Nat->Option W}{h h':Heap}{ρ ρ':Env}(la:Later h ρ h' ρ')(gr:GRel C G (ctx0 h)):GRel C G (ctx0 h'):=λg w hg hw nw σ=>
 RV.mono (Γ:=⟨nw,σ,(ctx0 h).D,(ctx0 h).h⟩) (Γ':=⟨nw,σ,(ctx0 h').D,(ctx0 h').h⟩) ⟨Nat.le_refl _,λ_ _=>rfl,la.le.D,la.le.val⟩ (gr g w hg hw nw σ)
theorem calls_of{P:Program}{C:Cfg}{G:Nat->Option W}(hmx:P.follows .mixedOrders=true)(hC:CfgOK P C)(hF:vMq P C)(hK:jeq P C){f:FuncId}{shs:List Sh}(ps:∀ws,FitL shs ws->PS C G f ws (.bool true)){W0:World}{h:Heap}{ρ:Env}(s:Start W0 h ρ)
  (gl:GlobOK C (DD (λi=>i<h.next) ρ) ρ) (gr:GRel C G (ctx0 h)) {vs:List Value} (hv:∃ws,FitL shs ws/\HVL W0 ws vs):
  Calls P f vs.toArray W0 λe w'=>e= .returned (.bool true)/\Below W0.heap.size W0 w':=by
 obtain⟨ws,f1,hv⟩:=hv;obtain⟨h',ρ',xs,la,st,rfl,i,r⟩:=open_vs hv s;exact law1 hmx hC hF hK (ps ws f1) st (la.glob gl) (la.grel gr) i r
mutual
def zCells:Sh->List Value
 |.bool=>[.bool false]
 |.int k=>[.int k 0]
 |.str=>[.string ⟨#[]⟩]
 |.arr n _ s=>(List.replicate n (zCells s)).flatten
 |.st _ fs=>zCellsL fs
 |.sl _ _ _=>[.slice none 0 0]
def zCellsL:List Sh->List Value
 |[]=>[]
 |s::l=>zCells s++zCellsL l
end
def zVal(s:Sh):Value:=match s.agg,zCells s with
 |true,l=>.agg l.toArray
 |false,v::_=>v
 |false,[]=>.bool false
end
section
open Go.RowKit
theorem Jhq{α:Type}{f:α->W}{Q:α->Prop}:∀{l:List W},(∀x∈l,∃a,x=f a/\Q a) ->∃ys:List α,l=ys.map f/\∀a∈ys,Q a
 |[],_=>⟨[],rfl,by simp⟩
 |x::l,h=>by
  obtain⟨a,rfl,ha⟩:=h x (List.mem_cons_self ..);obtain⟨ys,rfl,hs⟩:=Jhq (l:=l) λy hy=>h y (List.mem_cons_of_mem _ hy)
  exact⟨a::ys,rfl,λb hb=>by
   rcases List.mem_cons.1 hb with rfl|hb
   ·exact ha
   ·exact hs b hb⟩
theorem fit_u8{w:W}(h:Fit (.int .u8) w):∃c:UInt8,w= .int .u8 (.ofNat c.toNat)/\True:=by
 obtain⟨n,rfl,hw⟩:=h
 have hb:0<=n/\n<=255:=by
  simp[Lit.wf,IntKind.min,IntKind.max,IntKind.signed,IntKind.bits] at hw;omega
 refine⟨UInt8.ofNat n.toNat,?_,trivial⟩;congr 1
 have:(UInt8.ofNat n.toNat).toNat=n.toNat:=by simp;omega
 rw[this];show n=((n.toNat:Nat):Int);omega
theorem vEq{w:W}(h:Fit (.int .u64) w):∃n:Nat,w= .int .u64 (n:Int)/\n<18446744073709551616:=by
 obtain⟨n,rfl,hw⟩:=h
 have hb:0<=n/\n<=18446744073709551615:=by
  simp[Lit.wf,IntKind.min,IntKind.max,IntKind.signed,IntKind.bits] at hw;omega
 exact⟨n.toNat,by congr 1;omega,by omega⟩
theorem fit_i64{w:W}(h:Fit (.int .i64) w):∃n:Int,w= .int .i64 n/\-9223372036854775808<=n/\n<=9223372036854775807:=by
 obtain⟨n,rfl,hw⟩:=h
 have hb:-9223372036854775808<=n/\n<=9223372036854775807:=by
  simp[Lit.wf,IntKind.min,IntKind.max,IntKind.signed,IntKind.bits] at hw;omega
 exact⟨n,rfl,hb⟩
theorem u4q{w:W}(h:Fit .bool w):∃b,w= .bool b:=h
theorem fit_bytes{l:List W}(h:∀x∈l,Fit (.int .u8) x):∃bs:List UInt8,l=zcq bs:=by
 obtain⟨bs,rfl,_⟩:=Jhq (f:=λc:UInt8=>W.int .u8 (.ofNat c.toNat)) (Q:=λ_=>True) λx hx=>fit_u8 (h x hx)
 exact⟨bs,rfl⟩
theorem j0q{w:W}(h:Fit (.arr 32 1 (.int .u8)) w):∃k:Dig,w=dW k:=by
 obtain⟨l,rfl,hl,hx⟩:=h;obtain⟨bs,rfl⟩:=fit_bytes hx;exact⟨⟨bs,by simpa[zcq] using hl⟩,rfl⟩
theorem fit_bW{bz:Nat}{w:W}(h:Fit (.sl 1 bz (.int .u8)) w):∃b:List UInt8,w=bW b/\b.length*bz<=140737488351232:=by
 obtain⟨l,rfl,hl,hx⟩:=h;obtain⟨bs,rfl⟩:=fit_bytes hx;exact⟨bs,rfl,by simpa[zcq,reachBytes] using hl⟩
theorem keq{α:Type}{f:α->W}{Q:α->Prop}{sz bz:Nat}{s:Sh}{w:W}(h:Fit (.sl sz bz s) w)(hx:∀x,Fit s x->∃a,x=f a/\Q a):∃ys:List α,w= .fz (ys.map f) sz false/\ys.length*bz<=140737488351232/\∀a∈ys,Q a:=by
 obtain⟨l,rfl,hl,hs⟩:=h;obtain⟨ys,rfl,hq⟩:=Jhq λx hm=>hx x (hs x hm)
 exact⟨ys,rfl,by simpa[reachBytes] using hl,hq⟩
noncomputable def stand:Sit->Option (Oper×FrW×HpW×Nat×(W->Sit)×(W->HpW->Nat->EvW->Sit)×(EvW->Bool))
 |⟨.op ops (o::l),ks,fr,hp,nw⟩=>match y5q ops fr o with
  |some true=>some (o,fr,hp,nw,λw=>⟨.op ops l,ks,putW fr o.dst w,hp,nw⟩,λw hp2 nw2 _=>⟨.op ops l,ks,putW fr o.dst w,hp2,nw2⟩,λ_=>true)
  |_=>none
 |⟨.fl ops (o::l) i es,ks,fr,hp,nw⟩=>match y5q ops fr o with
  |some true=>some (o,fr,hp,nw,λw=>⟨.fl ops l (i+1) es,ks,putW fr o.dst w,hp,nw⟩,λw hp2 nw2 ev=>⟨.fl ops l (i+1) ((i,ev)::es),ks,putW fr o.dst w,hp2,nw2⟩,λev=>evsW ops i ev es)
  |_=>none
 |_=>none
noncomputable def goP(C:Cfg)(G:Nat->Option W)(n:Nat)(s:Sit):Option (Bool×Op×FrW×(W->Sit)):=match advN C G n true s with
 |some (b,s')=>match stand s' with
  |some (o,fr,_,_,k,_)=>some (b,o.op,fr,k)
  |none=>none
 |none=>none
noncomputable def goV(C:Cfg)(G:Nat->Option W)(n:Nat)(s:Sit):Option (Bool×W×(W->Sit)):=match advN C G n true s with
 |some (b,s')=>match stand s' with
  |some (o,fr,_,_,k,_)=>match yuq C G fr o.op with
   |some w=>some (b,w,k)
   |none=>none
  |none=>none
 |none=>none
noncomputable def goM(C:Cfg)(G:Nat->Option W)(n:Nat)(s:Sit):Option (Bool×Op×FrW×HpW×Nat×(W->HpW->Nat->EvW->Sit)×(EvW->Bool)):=match advN C G n true s with
 |some (b,s')=>match stand s' with
  |some (o,fr,hp,nw,_,k,q)=>some (b,o.op,fr,hp,nw,k,q)
  |none=>none
 |none=>none
noncomputable def goC(C:Cfg)(G:Nat->Option W)(n:Nat)(s:Sit):Option (Bool×FuncId×List W×(W->Sit)):=match advN C G n true s with
 |some (b,s')=>match stand s' with
  |some (o,fr,hp,nw,_,k,q)=>match o.op with
   |.call ⟨.value x,xs,_⟩=>match evW C G fr x,evLW C G fr xs.toList with
    |some (.fn f a c),some us=>match C.ext f with
     |none=>some (b&&q .gen,f,a++us++c,λw=>k w hp nw .gen)
     |some _=>none
    |_,_=>none
   |_=>none
  |none=>none
 |none=>none
noncomputable def goK(C:Cfg)(G:Nat->Option W)(n:Nat)(s:Sit):Option (Bool×Bool×Sit×Sit):=match advN C G n true s with
 |some (b,⟨.co (.cond c x y),ks,fr,hp,nw⟩)=>match evW C G fr c with
  |some (.bool v)=>some (b,v,⟨.co x,ks,fr,hp,nw⟩,⟨.co y,ks,fr,hp,nw⟩)
  |_=>none
 |_=>none
noncomputable def goB(C:Cfg)(G:Nat->Option W)(n:Nat)(s:Sit):Option (Bool×Bool×Sit×Sit):=match advN C G n true s with
 |some (b,⟨.op ops l,ks,(d,.bool v)::fr,hp,nw⟩)=>some (b,v,⟨.op ops l,ks,(d,.bool true)::fr,hp,nw⟩,⟨.op ops l,ks,(d,.bool false)::fr,hp,nw⟩)
 |some (b,⟨.fl ops l i es,ks,(d,.bool v)::fr,hp,nw⟩)=>some (b,v,⟨.fl ops l i es,ks,(d,.bool true)::fr,hp,nw⟩,⟨.fl ops l i es,ks,(d,.bool false)::fr,hp,nw⟩)
 |_=>none
noncomputable def leaves:Exit->Bool
 |.normal=>true
 |.ret=>true
 |_=>false
noncomputable def goEx(C:Cfg)(G:Nat->Option W)(n:Nat)(s:Sit)(rs:List ResultVar):Option (Bool×W×HpW):=match advN C G n true s with
 |some (b,⟨.ex x,[],fr,hp,nw⟩)=>match leaves x with
  |true=>match outW C fr hp rs with
   |some w=>some (b,w,hp)
   |none=>none
  |false=>none
 |_=>none
noncomputable def goI(C:Cfg)(G:Nat->Option W)(n:Nat)(f:FuncId)(ws:List W)(hp:HpW)(m:Nat):Option (Bool×Sit×List ResultVar):=match C.known f with
 |none=>match C.fn f with
  |some fn=>match fn.body,Nat.ble ws.length fn.ntmps with
   |some c,true=>match advN C G n true ⟨.co c,[],YLq 0 ws,hp,m⟩ with
    |some (b,s)=>some (b,s,fn.results.toList)
    |none=>none
   |_,_=>none
  |none=>none
 |some _=>none
section
variable {C:Cfg} {G:Nat->Option W} {m k0 n:Nat} {rd:Bool} {R:Res} {Q:qaq} {s s':Sit} {b:Bool} {o:Op} {fr:FrW} {hp:HpW} {nw:Nat} {k:W->Sit} {kk:W->HpW->Nat->EvW->Sit} {q:EvW->Bool} {w w':W} {p:Prop}
theorem zbq(n:Nat)(h:advN C G n true s=some (b,s'))(g:GoW C G m k0 rd s' R Q)(hb:b=true:=by first|rfl|kernel_rfl):GoW C G m k0 rd s R Q:=(xaq n h).2 hb g
theorem stand_p{oo:Oper}(h:stand s=some (oo,fr,hp,nw,k,kk,q))(e:yuq C G fr oo.op=some w)(g:GoW C G m k0 rd (k w) R Q):GoW C G m k0 rd s R Q:=by
 unfold stand at h;split at h
 ·split at h
  ·rename_i hw;cases h;exact yVq hw e g
  ·cases h
 ·split at h
  ·rename_i hw;cases h;exact kpq hw e g
  ·cases h
 ·cases h
theorem stand_s{oo:Oper}(h:stand s=some (oo,fr,hp,nw,k,kk,q))(g:Step C G oo fr hp nw R λw hp' nw' R' ev=>match ev with
  |none=>GoW C G m k0 rd (k w) R' Q/\hp'=hp/\nw'=nw
  |some e=>q e=true/\GoW C G m k0 rd (kk w hp' nw' e) R' Q):GoW C G m k0 rd s R Q:=by
 unfold stand at h;split at h
 ·split at h
  ·rename_i hw;cases h
   refine z5q hw λΓ X frv a1 a2 a3=>?_
   obtain⟨n,w,hp',R',ev,v,h',Γ',X',h1,h2⟩:=g Γ X frv a1 a2 a3;refine⟨n,w,hp',R',ev,v,h',Γ',X',?_,h2⟩;cases ev with
   |none=>obtain⟨h1,h3,h4⟩:=h1;subst h3;rw[h4];exact h1
   |some e=>exact h1.2
  ·cases h
 ·split at h
  ·rename_i hw;cases h
   refine qfq hw λΓ X frv a1 a2 a3=>?_
   obtain⟨n,w,hp',R',ev,v,h',Γ',X',h1,h2⟩:=g Γ X frv a1 a2 a3;refine⟨n,w,hp',R',ev,v,h',Γ',X',?_,h2⟩;cases ev with
   |none=>obtain⟨h1,h3,h4⟩:=h1;subst h3;rw[h4];exact h1
   |some e=>exact h1
  ·cases h
 ·cases h
noncomputable def goSo(C:Cfg)(G:Nat->Option W)(n:Nat)(s:Sit):Option (Bool×Oper×FrW×HpW×Nat×(W->HpW->Nat->Sit)):=match advN C G n true s with
 |some (b,⟨.op ops (o::l),ks,fr,hp,nw⟩)=>match y5q ops fr o with
  |some true=>some (b,o,fr,hp,nw,λw hp2 nw2=>⟨.op ops l,ks,putW fr o.dst w,hp2,nw2⟩)
  |_=>none
 |_=>none
theorem gSo{oo:Oper}{kk:W->HpW->Nat->Sit}(n:Nat)(h:goSo C G n s=some (b,oo,fr,hp,nw,kk))(g:Step C G oo fr hp nw R λw hp' nw' R' _=>GoW C G m k0 rd (kk w hp' nw') R' Q)(hb:b=true:=by first|rfl|kernel_rfl):GoW C G m k0 rd s R Q:=by
 unfold goSo at h;split at h
 ·rename_i h1;split at h
  ·rename_i hw;cases h;exact zbq n h1 (z5q hw g) hb
  ·cases h
 ·cases h
noncomputable def goSf(C:Cfg)(G:Nat->Option W)(n:Nat)(s:Sit):Option (Bool×Oper×FrW×HpW×Nat×(W->HpW->Nat->Sit)×(W->HpW->Nat->EvW->Sit)×(EvW->Bool)):=match advN C G n true s with
 |some (b,⟨.fl ops (o::l) i es,ks,fr,hp,nw⟩)=>match y5q ops fr o with
  |some true=>some (b,o,fr,hp,nw,λw hp2 nw2=>⟨.fl ops l (i+1) es,ks,putW fr o.dst w,hp2,nw2⟩,λw hp2 nw2 ev=>⟨.fl ops l (i+1) ((i,ev)::es),ks,putW fr o.dst w,hp2,nw2⟩,λev=>evsW ops i ev es)
  |_=>none
 |_=>none
theorem gSf{oo:Oper}{k1:W->HpW->Nat->Sit}(n:Nat)(h:goSf C G n s=some (b,oo,fr,hp,nw,k1,kk,q))(g:Step C G oo fr hp nw R λw hp' nw' R' ev=>match ev with
  |none=>GoW C G m k0 rd (k1 w hp' nw') R' Q
  |some e=>q e=true/\GoW C G m k0 rd (kk w hp' nw' e) R' Q) (hb:b=true:=by first|rfl|kernel_rfl):GoW C G m k0 rd s R Q:=by
 unfold goSf at h;split at h
 ·rename_i h1;split at h
  ·rename_i hw;cases h;exact zbq n h1 (qfq hw g) hb
  ·cases h
 ·cases h
theorem gP(n:Nat)(h:goP C G n s=some (b,o,fr,k))(e:yuq C G fr o=some w)(g:GoW C G m k0 rd (k w) R Q)(hb:b=true:=by first|rfl|kernel_rfl):GoW C G m k0 rd s R Q:=by
 unfold goP at h;split at h
 ·rename_i h1;split at h
  ·rename_i h2;cases h;exact zbq n h1 (stand_p h2 e g) hb
  ·cases h
 ·cases h
theorem goV_p(h:goV C G n s=some (b,w,k)):∃o fr,goP C G n s=some (b,o,fr,k)/\yuq C G fr o=some w:=by
 unfold goV at h;unfold goP;split at h
 ·split at h
  ·rename_i h2;split at h
   ·rename_i h3;cases h;exact⟨_,_,rfl,h3⟩
   ·cases h
  ·cases h
 ·cases h
theorem gV(n:Nat)(h:goV C G n s=some (b,w,k))(e:w=w')(g:GoW C G m k0 rd (k w') R Q)(hb:b=true:=by first|rfl|kernel_rfl):GoW C G m k0 rd s R Q:=by
 subst e;obtain⟨o,fr,h1,h2⟩:=goV_p h;exact gP n h1 h2 g hb
theorem gM{hp2:HpW}{nw2:Nat}{ev:EvW}(n:Nat)(h:goM C G n s=some (b,o,fr,hp,nw,kk,q))(e:opHW C G fr hp nw o=some (w,hp2,nw2,ev))(g:GoW C G m k0 rd (kk w hp2 nw2 ev) R Q)(hb:(b&&q ev)=true:=by first|rfl|kernel_rfl):GoW C G m k0 rd s R Q:=by
 unfold goM at h;split at h
 ·rename_i h1;split at h
  ·rename_i h2;cases h
   rw[Bool.and_eq_true] at hb;exact zbq n h1 (stand_s h2 (xMq e ⟨hb.2,g⟩)) hb.1
  ·cases h
 ·cases h
theorem goC_s{f:FuncId}{ws:List W}(h:goC C G n s=some (b,f,ws,k)){P:W->Prop}(sp:qbq C G f 0 ws [] λw _ _=>purW w=true/\P w)(hp:purL ws=true)(g:∀w,purW w=true->P w->GoW C G m k0 rd (k w) R Q)(hb:b=true):GoW C G m k0 rd s R Q:=by
 unfold goC at h;split at h
 ·rename_i h1;split at h
  ·rename_i h2;split at h
   ·rename_i ho;split at h
    ·rename_i hx hxs;split at h
     ·rename_i he;cases h;rw[Bool.and_eq_true] at hb;refine zbq n h1 (stand_s h2 (vqq ho hx he hxs sp hp λw _ _ hq=>⟨hq.1,hb.2,g w hq.1 hq.2⟩)) hb.1
     ·cases h
    ·cases h
   ·cases h
  ·cases h
 ·cases h
theorem gC{f:FuncId}{ws:List W}(n:Nat)(h:goC C G n s=some (b,f,ws,k))(sp:PS C G f ws w)(g:GoW C G m k0 rd (k w) R Q)(hp:purL ws=true:=by first|rfl|assumption|(simp;done))(hw:purW w=true:=by first|rfl|assumption|(simp;done))(hb:b=true:=by first|rfl|kernel_rfl):GoW C G m k0 rd s R Q:=
 goC_s (P:=λw'=>w'=w) h (kwq sp λw' _ _ e=>⟨e▸hw,e⟩) hp (λw' _ e=>e▸g) hb
theorem gE{f:FuncId}{ws:List W}{A:W->Prop}(n:Nat)(h:goC C G n s=some (b,f,ws,k))(sp:PE C G f ws A)(g:∀w,purW w=true->A w->GoW C G m k0 rd (k w) R Q)(hp:purL ws=true:=by first|rfl|assumption|(simp;done))(hb:b=true:=by first|rfl|kernel_rfl):GoW C G m k0 rd s R Q:=goC_s h sp hp g hb
theorem gT{v:Bool}(n:Nat)(h:goV C G n s=some (b,.bool v,k))(e:v=true)(g:GoW C G m k0 rd (k (.bool true)) R Q)(hb:b=true:=by first|rfl|kernel_rfl):GoW C G m k0 rd s R Q:=gV n h (congrArg W.bool e) g hb
theorem gF{v:Bool}(n:Nat)(h:goV C G n s=some (b,.bool v,k))(e:v=false)(g:GoW C G m k0 rd (k (.bool false)) R Q)(hb:b=true:=by first|rfl|kernel_rfl):GoW C G m k0 rd s R Q:=gV n h (congrArg W.bool e) g hb
theorem gTa{v:Bool}(n:Nat)(h:goV C G n s=some (b,.bool v,k))(g:GoW C G m k0 rd (k (.bool true)) R Q)(e:v=true:=by first|rfl|exact eqI_iff.2 rfl|(simp;done)|decide|(simp[ltI_iff,eqI_iff];done))(hb:b=true:=by first|rfl|kernel_rfl):GoW C G m k0 rd s R Q:=gV n h (congrArg W.bool e) g hb
theorem gFa{v:Bool}(n:Nat)(h:goV C G n s=some (b,.bool v,k))(g:GoW C G m k0 rd (k (.bool false)) R Q)(e:v=false:=by first|rfl|exact eqI_iff.2 rfl|(simp;done)|decide|(simp[ltI_iff,eqI_iff];done))(hb:b=true:=by first|rfl|kernel_rfl):GoW C G m k0 rd s R Q:=gV n h (congrArg W.bool e) g hb
theorem gD{v:Bool}(n:Nat)(h:goV C G n s=some (b,.bool v,k))(ht:p->GoW C G m k0 rd (k (.bool true)) R Q)(hf:¬p->GoW C G m k0 rd (k (.bool false)) R Q)(hp:v=true↔p:=by first|exact ltI_iff|exact eqI_iff|exact jUq|exact jVq|exact yAq|exact q3q)(hb:b=true:=by first|rfl|kernel_rfl):GoW C G m k0 rd s R Q:=by
 cases v with
 |true=>exact gV n h rfl (ht (hp.1 rfl)) hb
 |false=>exact gV n h rfl (hf λq=>by have:=hp.2 q;cases this) hb
theorem gU [Decidable p]{v:Bool}(n:Nat)(h:goV C G n s=some (b,.bool v,k))(g:GoW C G m k0 rd (k (.bool (decide p))) R Q)(hp:v=true↔p:=by first|exact ltI_iff|exact eqI_iff|exact jUq|exact jVq|exact yAq|exact q3q)(hb:b=true:=by first|rfl|kernel_rfl):GoW C G m k0 rd s R Q:=by
 refine gV n h (congrArg W.bool ?_) g hb;cases v with
 |true=>exact(decide_eq_true (hp.1 rfl)).symm
 |false=>exact(decide_eq_false λq=>by have:=hp.2 q;cases this).symm
theorem gDe{v:Bool}(n:Nat)(h:goP C G n s=some (b,o,fr,k))(e:yuq C G fr o=some (.bool v))(hp:v=true↔p)(ht:p->GoW C G m k0 rd (k (.bool true)) R Q)(hf:¬p->GoW C G m k0 rd (k (.bool false)) R Q)(hb:b=true:=by first|rfl|kernel_rfl):GoW C G m k0 rd s R Q:=by
 cases v with
 |true=>exact gP n h e (ht (hp.1 rfl)) hb
 |false=>exact gP n h e (hf λq=>by have:=hp.2 q;cases this) hb
theorem gUe [Decidable p]{v:Bool}(n:Nat)(h:goP C G n s=some (b,o,fr,k))(e:yuq C G fr o=some (.bool v))(hp:v=true↔p)(g:GoW C G m k0 rd (k (.bool (decide p))) R Q)(hb:b=true:=by first|rfl|kernel_rfl):GoW C G m k0 rd s R Q:=by
 refine gP n h (e.trans (congrArg (λq=>some (W.bool q)) ?_)) g hb;cases v with
 |true=>exact(decide_eq_true (hp.1 rfl)).symm
 |false=>exact(decide_eq_false λq=>by have:=hp.2 q;cases this).symm
theorem goB_p{v:Bool}{x y:Sit}(h:goB C G n s=some (b,v,x,y))(hb:b=true)(g:GoW C G m k0 rd (match v with|true=>x|false=>y) R Q):GoW C G m k0 rd s R Q:=by
 unfold goB at h;split at h
 ·rename_i h1;cases h;cases v<;>exact zbq n h1 g hb
 ·rename_i h1;cases h;cases v<;>exact zbq n h1 g hb
 ·cases h
theorem gB{v:Bool}{x y:Sit}(n:Nat)(h:goB C G n s=some (b,v,x,y))(ht:p->GoW C G m k0 rd x R Q)(hf:¬p->GoW C G m k0 rd y R Q)(hp:v=true↔p:=by first|exact ltI_iff|exact eqI_iff|exact jUq|exact jVq|exact yAq|exact q3q)(hb:b=true:=by first|rfl|kernel_rfl):GoW C G m k0 rd s R Q:=by
 cases v with
 |true=>exact goB_p h hb (ht (hp.1 rfl))
 |false=>exact goB_p h hb (hf λq=>by have:=hp.2 q;cases this)
theorem goK_p{v:Bool}{x y:Sit}(h:goK C G n s=some (b,v,x,y))(hb:b=true)(g:GoW C G m k0 rd (match v with|true=>x|false=>y) R Q):GoW C G m k0 rd s R Q:=by
 unfold goK at h;split at h
 ·rename_i h1;split at h
  ·rename_i h2;cases h
   refine zbq n h1 ?_ hb;cases v with
   |true=>exact co_true h2 g
   |false=>exact co_false h2 g
  ·cases h
 ·cases h
theorem gS{v:Bool}{x y:Sit}(n:Nat)(h:goK C G n s=some (b,v,x,y))(ht:p->GoW C G m k0 rd x R Q)(hf:¬p->GoW C G m k0 rd y R Q)(hp:v=true↔p:=by first|exact ltI_iff|exact eqI_iff|exact jUq|exact jVq|exact yAq|exact q3q)(hb:b=true:=by first|rfl|kernel_rfl):GoW C G m k0 rd s R Q:=by
 cases v with
 |true=>exact goK_p h hb (ht (hp.1 rfl))
 |false=>exact goK_p h hb (hf λq=>by have:=hp.2 q;cases this)
theorem natE{i:IntKind}{l:Nat}:W.int i (.ofNat l)=W.int i (l:Int):=rfl
theorem gL(n:Nat)(h:goV C G n s=some (b,w,k))(g:GoW C G m k0 rd (k w') R Q)(e:w=w':=by first|exact natE|exact rfl)(hb:b=true:=by first|rfl|kernel_rfl):GoW C G m k0 rd s R Q:=gV n h e g hb
theorem gZ{l z:Nat}{i:IntKind}(n:Nat)(h:goV C G n s=some (b,.int i (.ofNat l),k))(e:l=z)(g:GoW C G m k0 rd (k (.int i (z:Int))) R Q)(hb:b=true:=by first|rfl|kernel_rfl):GoW C G m k0 rd s R Q:=gV n h (by rw[e];rfl) g hb
theorem wrapE{i:IntKind}{z:Int}(h:inK i z):W.int i (qlq i z)=W.int i z:=congrArg (W.int i) (uAq h)
theorem gWr(n:Nat)(h:goV C G n s=some (b,w,k))(g:GoW C G m k0 rd (k w') R Q)(e:w=w':=by first|exact wrapE ⟨by omega,by omega⟩|exact rfl)(hb:b=true:=by first|rfl|kernel_rfl):GoW C G m k0 rd s R Q:=gV n h e g hb
theorem gA{z:Int}{i:IntKind}(n:Nat)(h:goV C G n s=some (b,.int i (qlq i z),k))(t:Nat)(g:GoW C G m k0 rd (k (.int i (t:Int))) R Q)(e:z=(t:Int):=by first|rfl|omega)(hz:inK i (t:Int):=by exact⟨by omega,by omega⟩)(hb:b=true:=by first|rfl|kernel_rfl):GoW C G m k0 rd s R Q:=gV n h (by rw[e,uAq hz]) g hb
theorem gX(n:Nat)(h:goP C G n s=some (b,o,fr,k))(g:GoW C G m k0 rd (k w) R Q)(e:yuq C G fr o=some w:=by first|exact zGq Z Z Z Z Z Z Z (by first|assumption|(simp;done))|exact knq Z Z Z Z Z Z Z Xd|exact kdq Z Z Z Z Z Z Xd|exact rfl)(hb:b=true:=by first|rfl|kernel_rfl):GoW C G m k0 rd s R Q:=gP n h e g hb
theorem goEx_p{rs:List ResultVar}{hp:HpW}{K:W->HpW->Nat->Res->Prop}(h:goEx C G n s rs=some (b,w,hp))(hb:b=true)(g:∀nw,K w hp nw R):GoW C G m k0 rd s R (QFin C G m k0 rs K):=by
 unfold goEx at h;split at h
 ·rename_i h1;split at h
  ·rename_i hx;split at h
   ·rename_i h2;cases h
    refine zbq n h1 (fin ?_ Ent.refl h2 (g _)) hb;unfold leaves at hx;split at hx
    ·exact .inl rfl
    ·exact .inr rfl
    ·cases hx
   ·cases h
  ·cases h
 ·cases h
theorem gQ{rs:List ResultVar}{hp:HpW}(n:Nat)(h:goEx C G n s rs=some (b,w,hp))(e:w=w')(hb:b=true:=by first|rfl|kernel_rfl):GoW C G m k0 rd s R (QFin C G m k0 rs λv _ _ R'=>R'=R/\v=w'):=goEx_p h hb λ_=>⟨rfl,e⟩
theorem gQa{rs:List ResultVar}{hp:HpW}(n:Nat)(h:goEx C G n s rs=some (b,w,hp))(e:w=w':=by first|rfl|(simp;done))(hb:b=true:=by first|rfl|kernel_rfl):GoW C G m k0 rd s R (QFin C G m k0 rs λv _ _ R'=>R'=R/\v=w'):=goEx_p h hb λ_=>⟨rfl,e⟩
theorem goI_p{f:FuncId}{ws:List W}{rs:List ResultVar}{K:W->HpW->Nat->Res->Prop}(h:goI C G n f ws hp m=some (b,s,rs))(hb:b=true)(g:∀k0,GoW C G m k0 false s R (QFin C G m k0 rs K)):Spec C G f m ws hp R K:=by
 unfold goI at h;split at h
 ·rename_i hk;split at h
  ·rename_i hf;split at h
   ·rename_i hbd hle;split at h
    ·rename_i h1;cases h
     exact spec_in hk hf hbd (Zb hle) λk0=>z9q n h1 (g k0) hb
    ·cases h
   ·cases h
  ·cases h
 ·cases h
theorem gIs{f:FuncId}{ws:List W}{rs:List ResultVar}{K:W->HpW->Nat->Res->Prop}(n:Nat)(h:goI C G n f ws hp m=some (b,s,rs))(g:∀k0,GoW C G m k0 false s R (QFin C G m k0 rs K))(hb:b=true:=by first|rfl|kernel_rfl):Spec C G f m ws hp R K:=goI_p h hb g
theorem gIv{f:FuncId}{ws:List W}{rs:List ResultVar}(n:Nat)(h:goI C G n f ws [] 0=some (b,s,rs))(g:∀R k0,GoW C G 0 k0 false s R (QFin C G 0 k0 rs λw' hp' _ R'=>R'=R/\View (blkA hp') w' w))(hb:b=true:=by first|rfl|kernel_rfl):PS C G f ws w:=λR=>uJq (goI_p h hb (g R))
theorem gIe{f:FuncId}{ws:List W}{rs:List ResultVar}{A:W->Prop}(n:Nat)(h:goI C G n f ws [] 0=some (b,s,rs))(g:∀R k0,GoW C G 0 k0 false s R (QFin C G 0 k0 rs λw' hp' _ R'=>R'=R/\∃w,View (blkA hp') w' w/\(purW w=true/\A w)))(hb:b=true:=by first|rfl|kernel_rfl):PE C G f ws A:=λR=>YRq (goI_p h hb (g R))
theorem gI{f:FuncId}{ws:List W}{rs:List ResultVar}(n:Nat)(h:goI C G n f ws [] 0=some (b,s,rs))(g:∀R k0,GoW C G 0 k0 false s R (QFin C G 0 k0 rs λw' _ _ R'=>R'=R/\w'=w))(hb:b=true:=by first|rfl|kernel_rfl):PS C G f ws w:=λR=>goI_p h hb (g R)
end
noncomputable def pickW(fr:FrW):List Nat->Option FrW
 |[]=>some []
 |t::l=>match getW fr t,pickW fr l with
  |some w,some r=>some ((t,w)::r)
  |_,_=>none
theorem pick_sub{fr:FrW}:∀{l:List Nat} {kf:FrW},pickW fr l=some kf->subF fr kf
 |[],_,h=>by cases h;trivial
 |t::l,_,h=>by
  simp only[pickW] at h;split at h
  ·rename_i h1 h2;cases h;exact⟨h1,pick_sub h2⟩
  ·cases h
noncomputable def goL(C:Cfg)(G:Nat->Option W)(n:Nat)(s:Sit)(l:List Nat):Option (Bool×Code×List Kt×FrW×FrW×HpW×Nat):=match advN C G n true s with
 |some (b,⟨.co (.loop c),ks,fr,hp,nw⟩)=>match pickW fr l with
  |some kf=>some (b,c,ks,fr,kf,hp,nw)
  |none=>none
 |_=>none
noncomputable def goY(C:Cfg)(G:Nat->Option W)(n:Nat)(s:Sit):Option (Bool×Exit×FrW×HpW×Nat):=match advN C G n true s with
 |some (b,⟨.ex x,[],fr,hp,nw⟩)=>some (b,x,fr,hp,nw)
 |_=>none
section
variable {C:Cfg} {G:Nat->Option W} {m k0 n:Nat} {rd rd':Bool} {R:Res} {Q:qaq} {s:Sit} {b:Bool} {c:Code} {ks:List Kt} {fr kf:FrW} {hp hp':HpW} {nw nw':Nat} {α:Type} {x:Exit}
theorem goL_p{l:List Nat}(h:goL C G n s l=some (b,c,ks,fr,kf,hp,nw))(hb:b=true)(g:subF fr kf->CoW C G m k0 rd (.loop c) fr hp nw R (QK C G m k0 rd ks Q)):GoW C G m k0 rd s R Q:=by
 unfold goL at h;split at h
 ·rename_i h1;split at h
  ·rename_i h2;cases h;exact zbq n h1 (g (pick_sub h2)) hb
  ·cases h
 ·cases h
theorem goY_p(h:goY C G n s=some (b,x,fr,hp,nw))(hb:b=true)(g:Q x fr hp nw R):GoW C G m k0 rd s R Q:=by
 unfold goY at h;split at h
 ·rename_i h1;cases h;exact zbq n h1 g hb
 ·cases h
theorem gLo(n:Nat)(I:α->Prop)(V:α->FrW)(l:List Nat)(μ:α->Nat)(a0:α)(h:goL C G n s l=some (b,c,ks,fr,kf,hp,nw))(h0:I a0)(step:∀a,I a->GoW C G m k0 rd ⟨.co c,[],V a++kf,hp,nw⟩ R (QRk I V kf hp nw (λ_=>R) μ (μ a) (QK C G m k0 rd ks Q)))(hv:subF fr (V a0):=by repeat (first|exact trivial|refine⟨rfl,?_⟩))(hb:b=true:=by first|rfl|kernel_rfl):GoW C G m k0 rd s R Q:=
 goL_p h hb λhk=>co_loopK I V kf μ a0 hk h0 hv step
theorem gAg{I:α->Prop}{V:α->FrW}{RR:α->Res}{μ:α->Nat}{k:Nat}(n:Nat)(h:goY C G n s=some (b,.normal,fr,hp',nw'))(a:α)(ha:I a)(hμ:μ a<k)(hv:subF fr (V a):=by repeat (first|exact trivial|refine⟨rfl,?_⟩))(hk:subF fr kf:=by repeat (first|exact trivial|refine⟨rfl,?_⟩))(hr:refF nw (V a):=by repeat (first|exact trivial|refine⟨by first|rfl|exact zfq (by first|rfl|(simp;done)),?_⟩))(hn:nw<=nw':=by omega)(hh:v8q hp' hp nw:=by repeat (first|exact xRq|refine xUq Xd ?_|refine xSq Xd ?_|refine xTq Xd ?_))(hR:R=RR a:=by exact rfl)(hb:b=true:=by first|rfl|kernel_rfl):GoW C G m k0 rd s R (QRk I V kf hp nw RR μ k Q):=
 goY_p h hb (q_againK a ha hμ hv hk hr hn hh hR)
theorem gO{I:α->Prop}{V:α->FrW}{RR:α->Res}{μ:α->Nat}{k:Nat}(n:Nat)(h:goY C G n s=some (b,x,fr,hp',nw'))(g:GoW C G m k0 rd ⟨.ex x,ks,fr,hp',nw'⟩ R Q)(hx:x≠ .normal:=by intro h;cases h)(hb:b=true:=by first|rfl|kernel_rfl):GoW C G m k0 rd' s R (QRk I V kf hp nw RR μ k (QK C G m k0 rd ks Q)):=
 goY_p h hb (q_outk hx g)
end
mutual
theorem xmq{τ:Nat->Nat}{b:Nat}(h:∀i,i<b->τ i=i):∀{w:W},refB b w=true->renW τ w=w
 |.ptr c o,hw=>by simp only[renW];rw[h c (of_decide_eq_true hw)]
 |.sl c _ _ _ _ _,hw=>by simp only[renW];rw[h c (of_decide_eq_true hw)]
 |.fz l _ _,hw=>by simp only[renW];rw[kNq h (l:=l) hw]
 |.fel x,hw=>by simp only[renW];rw[xmq h (w:=x) hw]
 |.fn _ a c,hw=>by
  simp only[refB,Bool.and_eq_true] at hw;simp only[renW];rw[kNq h (l:=a) hw.1,kNq h (l:=c) hw.2]
 |.iface _ v,hw=>by simp only[renW];rw[xmq h (w:=v) hw]
 |.agg _ l,hw=>by simp only[renW];rw[kNq h (l:=l) hw]
 |.arr _ _ l,hw=>by simp only[renW];rw[kNq h (l:=l) hw]
 |.tup l,hw=>by simp only[renW];rw[kNq h (l:=l) hw]
 |.undef,_=>rfl
 |.bool _,_=>rfl
 |.int _ _,_=>rfl
 |.str _,_=>rfl
 |.nilp,_=>rfl
 |.nils,_=>rfl
 |.nilm,_=>rfl
 |.yield _,_=>rfl
 |.nilf,_=>rfl
 |.nili,_=>rfl
theorem kNq{τ:Nat->Nat}{b:Nat}(h:∀i,i<b->τ i=i):∀{l:List W},refL b l=true->yKq τ l=l
 |[],_=>rfl
 |w::l,hw=>by
  simp only[refL,Bool.and_eq_true] at hw;simp only[yKq];rw[xmq h (w:=w) hw.1,kNq h (l:=l) hw.2]
end
mutual
theorem kcq{b c:Nat}(h:b<=c):∀{w:W},refB b w=true->refB c w=true
 |.ptr d o,hw=>decide_eq_true (Nat.lt_of_lt_of_le (of_decide_eq_true hw) h)
 |.sl d _ _ _ _ _,hw=>decide_eq_true (Nat.lt_of_lt_of_le (of_decide_eq_true hw) h)
 |.fz l _ _,hw=>jSq h (l:=l) hw
 |.fel x,hw=>kcq h (w:=x) hw
 |.fn _ a d,hw=>by
  simp only[refB,Bool.and_eq_true] at hw⊢;exact⟨jSq h hw.1,jSq h hw.2⟩
 |.iface _ v,hw=>kcq h (w:=v) hw
 |.agg _ l,hw=>jSq h (l:=l) hw
 |.arr _ _ l,hw=>jSq h (l:=l) hw
 |.tup l,hw=>jSq h (l:=l) hw
 |.undef,_=>rfl
 |.bool _,_=>rfl
 |.int _ _,_=>rfl
 |.str _,_=>rfl
 |.nilp,_=>rfl
 |.nils,_=>rfl
 |.nilm,_=>rfl
 |.yield _,_=>rfl
 |.nilf,_=>rfl
 |.nili,_=>rfl
theorem jSq{b c:Nat}(h:b<=c):∀{l:List W},refL b l=true->refL c l=true
 |[],_=>rfl
 |w::l,hw=>by
  simp only[refL,Bool.and_eq_true] at hw⊢;exact⟨kcq h hw.1,jSq h hw.2⟩
end
noncomputable def gW(b e:Nat):List W->W
 |[]=>.nils
 |x::r=>.sl b 0 0 (x::r).length e none
noncomputable def gH(b:Nat)(ty:TypeId)(e:Nat):List W->HpW
 |[]=>[]
 |x::r=>[(b,ty,.arr ((x::r).length*e) e (x::r))]
noncomputable def evG(b:Nat):List W->EvW
 |[]=>.gen
 |_::_=>.updO b
theorem xtq{b e:Nat}{l:List W}(h:l≠[]):gW b e l= .sl b 0 0 l.length e none:=by cases l with
 |nil=>exact absurd rfl h
 |cons x r=>rfl
theorem xuq{b e:Nat}{ty:TypeId}{l:List W}(h:l≠[]):gH b ty e l=[(b,ty,.arr (l.length*e) e l)]:=by cases l with
 |nil=>exact absurd rfl h
 |cons x r=>rfl
section
variable {C:Cfg} {nw:Nat} {ts tx ty:TypeId} {j k:TyI} {x:W} {news l:List W} {b:Nat} {H0:HpW}
theorem hdel_pre{b:Nat}{x:TypeId×W}:∀{P:HpW},(∀p∈P,p.1≠b) ->hdel (P++[(b,x)]) b=P
 |[],_=>by
  show(match Nat.beq b b with|true=>[]|false=>_)=[];rw[Nat.beq_refl]
 |(c,y)::P,h=>by
  have hc:=h (c,y) (List.mem_cons_self ..)
  have e:Nat.beq c b=false:=by
   cases q:Nat.beq c b with
   |true=>exact absurd (Nat.eq_of_beq_eq_true q) hc
   |false=>rfl
  show(match Nat.beq c b with|true=>P++[(b,x)]|false=>(c,y)::hdel (P++[(b,x)]) b)=_;rw[e];exact congrArg _ (hdel_pre λp hp=>h p (List.mem_cons_of_mem _ hp))
theorem Ziq{b:Nat}{x:TypeId×W}:∀{P:HpW},(∀p∈P,p.1≠b) ->hget (P++[(b,x)]) b=some x
 |[],_=>by rw[List.nil_append,zgq,if_pos rfl]
 |(c,y)::P,h=>by
  rw[List.cons_append,zgq,if_neg λe=>h (c,y) (List.mem_cons_self ..) e];exact Ziq λp hp=>h p (List.mem_cons_of_mem _ hp)
theorem xVq{c:Nat}{y:TypeId×W}{Q:HpW}:∀{P:HpW},hget P c=some y->hget (P++Q) c=some y
 |[],h=>by simp[hget] at h
 |(q,z)::P,h=>by
  rw[List.cons_append,zgq];rw[zgq] at h;split at h
  ·rename_i h5;rw[if_pos h5];exact h
  ·rename_i h5;rw[if_neg h5];exact xVq h
theorem Qnq(P:HpW){e:Nat}{hp:HpW}(he:e=k.size)(hj:C.ty ts=some j)(hd:j.d= .slice ty)(hk:C.ty ty=some k)(hz:Nat.beq k.size 0=false)(hs:srcW C hp tx k.size x=some news)(hn:news≠[])(h1:(l.length+news.length)*k.bytes<=140737488355328)(h2:l.length+news.length<=70368744177664)
  (hg:hp=P++gH b ty e l) (hP:∀p∈P,p.1≠b):
  appW C hp nw ts tx (gW b e l) x=some (.sl nw 0 0 (l++news).length e none,(nw,ty,.arr ((l++news).length*e) e (l++news))::P,nw+1,evG b l):=by
 subst he
 have hk0:0<k.size:=by
  rcases Nat.eq_zero_or_pos k.size with h0|h0
  ·rw[h0] at hz;cases hz
  ·exact h0
 have hnl:0<news.length:=by cases news with
  |nil=>exact absurd rfl hn
  |cons _ _=>simp
 cases l with
 |nil=>
  simp only[List.length_nil,Nat.zero_add] at h1 h2;rw[show gW b k.size []= .nils from rfl,uyq hj hd hk hz hs hn h1 h2,hg,show gH b ty k.size []=[] from rfl,List.append_nil];rfl
 |cons y r=>
  have hget:hget hp b=some (ty,.arr ((y::r).length*k.size) k.size (y::r)):=by rw[hg];exact Ziq hP
  rw[show gW b k.size (y::r)= .sl b 0 0 (y::r).length k.size none from rfl,qEq hj hd hk hz hs hn h1 h2 hget (by
   show(y::r).length*k.size<0+((y::r).length+news.length)*k.size;rw[Nat.zero_add];exact Nat.mul_lt_mul_of_pos_right Xd hk0) (by rw[Nat.beq_refl]) (zJq hk0 Z Z)]
  rw[hg,show gH b ty k.size (y::r)=[(b,ty,.arr ((y::r).length*k.size) k.size (y::r))] from rfl,hdel_pre hP,List.length_append];rfl
end
theorem view_g{b e:Nat}{ty:TypeId}{l:List W}{H0:HpW}(he:0<e)(hl:purL l=true)(hP:∀p∈H0,p.1≠b):View (blkA (H0++gH b ty e l)) (gW b e l) (.fz l e false):=by
 cases l with
 |nil=>exact .nilfz
 |cons y r=>exact .sl (c:=.arr ((y::r).length*e) e (y::r)) (by
   unfold blkA;rw[show H0++gH b ty e (y::r)=H0++[(b,ty,.arr ((y::r).length*e) e (y::r))] from rfl,Ziq hP]) hl (zJq he Z Z) Xi
section
variable {C:Cfg} {G:Nat->Option W} {m k0:Nat} {rd:Bool} {fr fr2:FrW} {hp hp':HpW} {nw nw':Nat} {R:Res} {Q:qaq} {c:Code}
theorem ent_up(hf:subF fr fr2):Ent C G m k0 fr hp nw R fr2 hp (nw+1) R:=λΓ X st hnw hmn s=>by
 let Γ2:Ctx:=⟨nw+1,Γ.σ,Γ.D,Γ.h⟩
 have le:Γ.Le Γ2:=⟨by rw[hnw];exact Nat.le_succ _,λ_ _=>rfl,λ_ h=>h,λ_ _=>rfl⟩;refine⟨Γ2,X,rfl,⟨s.hh,λt w hw=>?_,⟨s.sat.wf,λb ty w hb=>?_,s.sat.inj,s.sat.nd,s.sat.dX,s.sat.xlt,s.sat.dlt,s.sat.res,s.sat.gl⟩,s.ds,s.nd⟩,⟨λ_ _=>rfl,λh=>Nat.le_trans h le.nw,Nat.le_refl _,λ_ _ _ _=>rfl,λ_ h=>h,λ_ h=>.inl h,λb x _ h=>⟨x,h⟩,λb x hb h=>.inr ⟨b,x,hb,h,rfl⟩,λ_ h=>.inl h,λ_ h _ _=>h⟩⟩
 ·obtain⟨v,g3,g4⟩:=s.fr _ _ (Zaq hf t w hw);exact⟨v,g3,g4.mono le⟩
 ·obtain⟨q1,q2,q3,v,q4,q5⟩:=s.sat.own _ _ _ hb;exact⟨Nat.lt_of_lt_of_le q1 le.nw,q2,q3,v,q4,q5.mono le⟩
theorem subR_low{k:Nat}:∀{l:FrW},subF fr l->refF nw l->subR (tau1 nw k) (nw+1) fr l
 |[],_,_=>trivial
 |(t,w)::l,h,r=>⟨⟨by rw[xmq (λi hi=>qvq Xd) r.1];exact h.1,kcq (Nat.le_succ _) r.1⟩,subR_low h.2 r.2⟩
theorem subRH_low{k:Nat}:∀{l:HpW},subH hp nw l->QHq (tau1 nw k) (nw+1) hp l
 |[],_=>trivial
 |(b,x)::l,h=>⟨⟨Nat.lt_succ_of_lt h.1.1,by rw[qvq (by have:=h.1.1;omega),xmq (λi hi=>qvq Xd) h.1.2.2];exact h.1.2.1,kcq (Nat.le_succ _) h.1.2.2⟩,subRH_low h.2⟩
theorem Ztq:∀{l:HpW},subH hp nw l->∀p∈l,p.1<nw
 |[],_,p,h=>by simp at h
 |(b,x)::l,h,p,hp=>by
  rcases List.mem_cons.1 hp with rfl|hp
  ·exact h.1.1
  ·exact Ztq h.2 p hp
theorem xhq{τ:Nat->Nat}{n:Nat}{b:HpW}:∀{a:HpW},QHq τ n hp a->QHq τ n hp b->QHq τ n hp (a++b)
 |[],_,h=>h
 |_::_,h,h2=>⟨h.1,xhq h.2 h2⟩
theorem kGq{n:Nat}{b:HpW}:∀{a:HpW},subH hp n a->subH hp n b->subH hp n (a++b)
 |[],_,h=>h
 |_::_,h,h2=>⟨h.1,kGq h.2 h2⟩
theorem nodup_g{H0:HpW}{b e:Nat}{ty:TypeId}{l2:List W}(hh:∀p∈H0,p.1<b)(nd:(H0.map (·.1)).Nodup):((H0++gH b ty e l2).map (·.1)).Nodup:=by
 cases l2 with
 |nil=>rw[show gH b ty e []=[] from rfl,List.append_nil];exact nd
 |cons x r=>
  rw[show gH b ty e (x::r)=[(b,ty,.arr ((x::r).length*e) e (x::r))] from rfl,List.map_append,List.nodup_append];refine⟨nd,by simp,λa ha c hc q=>?_⟩;obtain⟨p,h1,h2⟩:=List.mem_map.1 ha;have:=hh p h1;simp only[List.map_cons,List.map_nil,List.mem_cons,List.not_mem_nil,or_false] at hc;omega
theorem Jsq{α:Type}(I:α->Prop)(s:Nat)(L:α->List W)(ty:TypeId)(e:Nat)(V:α->FrW)(kf:FrW)(H0:HpW)(μ:α->Nat)(a0:α)(hk:subF fr kf)(h0:I a0)(hv:subF fr (V a0))(hL:L a0=[])(hs:getW fr s=some .nils)(hh:hp=H0)
  (step:∀a,I a->CoW C G m k0 rd c ((s,gW nw e (L a))::(V a++kf)) (H0++gH nw ty e (L a)) (nw+1) R (ubq C G m k0 I (λa=>(s,gW nw e (L a))::(V a++kf)) (λa=>H0++gH nw ty e (L a)) (λ_=>nw+1) (λ_=>R) μ (μ a) Q)):CoW C G m k0 rd (.loop c) fr hp nw R Q:=by
 subst hh;refine jbq I (λa=>(s,gW nw e (L a))::(V a++kf)) (λa=>hp++gH nw ty e (L a)) (λ_=>nw+1) (λ_=>R) μ a0 h0 ?_ step;have:=ent_up (C:=C) (G:=G) (m:=m) (k0:=k0) (fr:=fr) (fr2:=(s,gW nw e (L a0))::(V a0++kf)) (hp:=hp) (nw:=nw) (R:=R) ⟨by rw[hL];exact hs,jgq hv hk⟩;rw[hL] at this⊢;rw[show gH nw ty e []=[] from rfl,List.append_nil];exact this
theorem ent_grown{b:Nat}{ty:TypeId}{e:Nat}{H0:HpW}{l2:List W}{n:Nat}(k s:Nat)(hm:m<=b)(hk:b<=k)(hk2:k<nw)(hne:l2≠[])(hs:getW fr s=some (.sl k 0 0 n e none))(hn:n=l2.length)(hf:subF fr fr2)(hr:refF b fr2)(hg:hget hp k=some (ty,.arr (n*e) e l2))(hp2:purL l2=true)(hh:subH hp b H0)(nd:(H0.map (·.1)).Nodup):
  Ent C G m k0 fr hp nw R ((s,gW b e l2)::fr2) (H0++gH b ty e l2) (b+1) R:=by
 subst hn;have hpa:purW (.arr (l2.length*e) e l2)=true:=hp2;refine yPq (b:=b) (k:=k) hm hk hk2 ?_ ?_ (nodup_g (Ztq hh) nd)
 ·rw[xtq hne];refine⟨⟨?_,by simp[refB]⟩,subR_low hf hr⟩;rw[hs];simp only[renW,juq]
 ·rw[xuq hne];refine xhq (subRH_low hh) ⟨⟨Nat.lt_succ_self _,?_,zfq hpa⟩,trivial⟩;rw[juq,hg,zoq hpa]
noncomputable def hdAll(ext:List Nat)(nw:Nat)(hp:HpW):HpW->Prop
 |[]=>True
 |(i,ty,w)::l=>(i<ext.length/\refB ext.length w=true/\∃b,ext[i]? =some b/\hget hp b=some (ty,renW (numC ext nw) w))/\hdAll ext nw hp l
theorem kxq{ext:List Nat}{nw:Nat}{hp:HpW}:∀{l:HpW},hdAll ext nw hp l->Qsq ext nw l hp
 |[],_=>λi ty w h=>by simp[hget] at h
 |(j,ty',w')::l,hs=>λi ty w h=>by
  rw[zgq] at h;split at h
  ·rename_i e;subst e;cases h;exact hs.1
  ·exact kxq hs.2 i ty w h
noncomputable def subVH(blk:Nat->Option W)(b:Nat)(hp:HpW):HpW->Prop
 |[]=>True
 |(k,ty,w)::l=>(k≠b/\∃w0,hget hp k=some (ty,w0)/\View blk w0 w)/\subVH blk b hp l
theorem jOq{blk:Nat->Option W}{b:Nat}:∀{l:HpW},subVH blk b hp l->∀k ty w,hget l k=some (ty,w) ->k≠b/\∃w0,hget hp k=some (ty,w0)/\View blk w0 w
 |[],_,k,ty,w,h=>by simp[hget] at h
 |(j,ty',w')::l,hs,k,ty,w,h=>by
  rw[zgq] at h;split at h
  ·rename_i e;subst e;cases h;exact hs.1
  ·exact jOq hs.2 k ty w h
theorem ent_fr1(b:Nat)(fr2:FrW)(hp2:HpW){ty:TypeId}{c:W}(hb:hget hp b=some (ty,c))(hc:purW c=true)(hbm:m<=b)(hf:subV (blk1 b c) fr fr2)(hh:subVH (blk1 b c) b hp hp2)(nd:(hp2.map (·.1)).Nodup):Ent C G m k0 fr hp nw R fr2 hp2 nw R:=
 ent_frz hb hc hbm (uFq hf) (jOq hh) nd
theorem co_loopG1{α:Type}(I:α->Prop)(s:Nat)(L:α->List W)(ty:TypeId)(e:Nat)(V:α->FrW)(kf:FrW)(H0:HpW)(b k:Nat)(μ:α->Nat)(a0:α){n:Nat}(hk:subF fr kf)(h0:I a0)(hv:subF fr (V a0))(hm:m<=b)(hbk:b<=k)(hkn:k<nw)(hne:L a0≠[])(hs:getW fr s=some (.sl k 0 0 n e none))(hn:n=(L a0).length)
  (hr:refF b (V a0)) (hr2:refF b kf) (hg:hget hp k=some (ty,.arr (n*e) e (L a0))) (hp2:purL (L a0)=true) (hh:subH hp b H0) (nd:(H0.map (·.1)).Nodup)
  (step:∀a,I a->CoW C G m k0 rd c ((s,gW b e (L a))::(V a++kf)) (H0++gH b ty e (L a)) (b+1) R (ubq C G m k0 I (λa=>(s,gW b e (L a))::(V a++kf)) (λa=>H0++gH b ty e (L a)) (λ_=>b+1) (λ_=>R) μ (μ a) Q)):CoW C G m k0 rd (.loop c) fr hp nw R Q:=
 jbq I (λa=>(s,gW b e (L a))::(V a++kf)) (λa=>H0++gH b ty e (L a)) (λ_=>b+1) (λ_=>R) μ a0 h0 (ent_grown k s hm hbk hkn hne hs hn (jgq hv hk) (uPq hr hr2) hg hp2 hh nd) step
theorem uQq{α:Type}{I:α->Prop}{s:Nat}{L:α->List W}{ty:TypeId}{e:Nat}{V:α->FrW}{kf:FrW}{H0:HpW}{μ:α->Nat}{kk:Nat}{fr':FrW}{l2:List W}{n:Nat}(k:Nat)(a:α)(ha:I a)(hμ:μ a<kk)(hm:m<=nw)(hL:L a=l2)(hne:l2≠[])(hk:nw<=k)(hk2:k<nw')(hs:getW fr' s=some (.sl k 0 0 n e none))(hn:n=l2.length)
  (hv:subF fr' (V a)) (hkf:subF fr' kf) (hr:refF nw (V a)) (hr2:refF nw kf) (hg:hget hp' k=some (ty,.arr (n*e) e l2)) (hp2:purL l2=true) (hh:subH hp' nw H0) (nd:(H0.map (·.1)).Nodup):
  ubq C G m k0 I (λa=>(s,gW nw e (L a))::(V a++kf)) (λa=>H0++gH nw ty e (L a)) (λ_=>nw+1) (λ_=>R) μ kk Q .normal fr' hp' nw' R:=by
 subst hL;exact qwq a ha hμ (ent_grown k s hm hk hk2 hne hs hn (jgq hv hkf) (uPq hr hr2) hg hp2 hh nd)
theorem ent_blk{b:Nat}{ty:TypeId}{w w':W}(hb:hget hp b=some (ty,w))(he:∀Γ v,RV Γ w v->RV Γ w' v):Ent C G m k0 fr hp nw R fr (hset hp b (ty,w')) nw R:=λΓ X st h1 _ s=>by
 have hold:∀{k t u},hget (hset hp b (ty,w')) k=some (t,u) ->∃u0,hget hp k=some (t,u0)/\∀v,RV Γ u0 v->RV Γ u v:=λ{k t u} h=>by
  rw[jXq hb] at h;split at h
  ·rename_i e;subst e;cases h;exact⟨w,hb,he Γ⟩
  ·exact⟨u,h,λ_ q=>q⟩
 have howns:∀{c},Owns Γ (hset hp b (ty,w')) c->Owns Γ hp c:=λ{c} h=>by
  obtain⟨k,⟨t,u⟩,h1,h2⟩:=h;obtain⟨u0,g,_⟩:=hold h1;exact⟨k,_,g,h2⟩
 refine⟨Γ,X,h1,⟨s.hh,s.fr,⟨s.sat.wf,λk t u h=>?_,λk k' y z hy hz e=>?_,by rw[ZXq];exact s.sat.nd,s.sat.dX,s.sat.xlt,s.sat.dlt,s.sat.res,s.sat.gl⟩,λd hd=>?_,s.nd⟩,⟨λ_ _=>rfl,λh=>h,Nat.le_refl _,λ_ _ _ _=>rfl,λ_ h=>h,λ_ h=>.inl h,λk y _ h=>?_,λk y hk h=>?_,λ_ h=>.inl h,λ_ h _ _=>h⟩⟩
 ·obtain⟨u0,g1,g2⟩:=hold h;obtain⟨q1,q2,q3,v,q4,q5⟩:=s.sat.own k t u0 g1;exact⟨q1,q2,q3,v,q4,g2 v q5⟩
 ·obtain⟨y1,y2⟩:=y;obtain⟨z1,z2⟩:=z;obtain⟨u0,g1,_⟩:=hold hy;obtain⟨u1,g2,_⟩:=hold hz;exact s.sat.inj k k' _ _ g1 g2 e
 ·obtain⟨q1,q2,q3,q4,q5⟩:=s.ds d hd;exact⟨q1,q2,q3,λh=>q4 (howns h),q5⟩
 ·obtain⟨y1,y2⟩:=y;obtain⟨u0,g1,_⟩:=hold h;exact⟨_,g1⟩
 ·obtain⟨y1,y2⟩:=y;obtain⟨u0,g1,_⟩:=hold h;exact .inr ⟨k,_,hk,g1,rfl⟩
theorem uGq{o:Oper}{post:W->HpW->Nat->Res->Option EvW->Prop}{x:Operand}{xs:Array Operand}{ats:Array TypeId}{f:FuncId}{a us c ws:List W}{Q:W->HpW->Nat->Prop}(ho:o.op= .call ⟨.value x,xs,ats⟩)(hx:evW C G fr x=some (.fn f a c))(he:C.ext f=none)(hxs:evLW C G fr xs.toList=some us)(hws:a++us++c=ws)(hpw:purL ws=true)(sp:qbq C G f 0 ws [] Q)
  (hpost:∀w hp1 nw1,Q w hp1 nw1->post (renW (numC [] nw) w) (renH (numC [] nw) hp1++hp) (nw+nw1) R (some .gen)):Step C G o fr hp nw R post:=λΓ X frv hnw s hf=>by
 subst hnw;obtain⟨u,e1,e2⟩:=zUq hf s.gl hx;obtain⟨a',c',rfl,e3,e4⟩:=RV_fn.1 e2;obtain⟨us',e5,e6⟩:=xzq hf s.gl hxs
 have app:∀{l r:List W} {l' r':List V},RVL Γ l l'->RVL Γ r r'->RVL Γ (l++r) (l'++r'):=λ{l}=>by
  induction l with
  |nil=>intro r l' r' h1 h2;simp only[RVL] at h1;subst h1;exact h2
  |cons w l ih=>
   intro r l' r' h1 h2;simp only[RVL] at h1;obtain⟨v,vs,rfl,h3,h4⟩:=h1;simp only[List.cons_append,RVL];exact⟨v,vs++r',rfl,h3,ih h4 h2⟩
 have hv:=app (app e3 e6) e4;rw[hws,<-renWL_pur (τ:=numC [] Γ.nw) hpw] at hv;obtain⟨n,v,Γ',w,hp1,nw1,g1,g2,g3,g4,g5,g6,g7,g8⟩:=call_spec (ext:=[]) sp s List.nodup_nil Xl Xl (λi ty w h=>by simp[hget] at h) (zfq (w:=.tup ws) hpw) hv;obtain⟨k1,k2⟩:=Yuq (C:=C) ho frv Γ.h;refine⟨n,_,_,R,some .gen,v,Γ'.h,Γ',X,by rw[g3];exact hpost w hp1 nw1 g2,?_,⟨k1,λH1 e1' e2'=>?_⟩,rfl,g4,g5,g6,g7⟩
 ·simp only[opV,k1,k2];simp only[ho,qLq,e1,e5,he];exact g1
 ·have:=g8 rfl e2';simp only[EvR,ho,evOf];rw[e1',Nat.ble_eq_true_of_le this]
noncomputable def PL(C:Cfg)(G:Nat->Option W)(f:FuncId)(ws:List W)(ty:TypeId)(e:Nat)(l:List W):Prop:=qbq C G f 0 ws [] λw hp nw=>w=gW 0 e l/\hp=gH 0 ty e l/\nw=1
theorem PL.ps{C:Cfg}{G:Nat->Option W}{f:FuncId}{ws:List W}{ty:TypeId}{e:Nat}{l:List W}(h:PL C G f ws ty e l)(he:0<e)(hl:purL l=true):PS C G f ws (.fz l e false):=λR=>
 uJq λΓ X vs h1 s hv=>by
  obtain⟨n,v,Γ',X',w,hp',R',g1,g2,g3,g4,g5,rfl,rfl,g6⟩:=h R Γ X vs h1 s hv;exact⟨n,v,Γ',X',_,_,R',g1,g2,g3,g4,g5,view_g (H0:=[]) he hl Xl⟩
theorem step_pl{o:Oper}{post:W->HpW->Nat->Res->Option EvW->Prop}{x:Operand}{xs:Array Operand}{ats:Array TypeId}{f:FuncId}{a us c ws:List W}{ty:TypeId}{e:Nat}{l:List W}(ho:o.op= .call ⟨.value x,xs,ats⟩)(hx:evW C G fr x=some (.fn f a c))(he:C.ext f=none)(hxs:evLW C G fr xs.toList=some us)(hws:a++us++c=ws)(hpw:purL ws=true)(sp:PL C G f ws ty e l)(hl:purL l=true)
  (hpost:post (gW nw e l) (gH nw ty e l++hp) (nw+1) R (some .gen)):Step C G o fr hp nw R post:=by
 refine uGq ho hx he hxs hws hpw sp ?_;rintro w hp1 nw1 ⟨rfl,rfl,rfl⟩
 have e1:renW (numC [] nw) (gW 0 e l)=gW nw e l:=by
  cases l with
  |nil=>rfl
  |cons x r=>simp only[gW,renW];rfl
 have e2:renH (numC [] nw) (gH 0 ty e l)=gH nw ty e l:=by
  cases l with
  |nil=>rfl
  |cons x r=>
   have hpa:purW (.arr ((x::r).length*e) e (x::r))=true:=hl;simp only[gH,renH,zoq hpa];rfl
 rw[e1,e2];exact hpost
variable {ops:Array Oper} {l:List Oper} {K:FrW->HpW->Nat->Res->Prop} {hp2:HpW} {nw2:Nat} {R2:Res}
theorem vSq(e:∀k0,Ent C G m k0 fr hp nw R fr2 hp2 nw2 R2)(h:OpW C G m ops l fr2 hp2 nw2 R2 K):OpW C G m ops l fr hp nw R K:=λΓ X frv hnw hm s hf=>by
 obtain⟨Γ2,X2,e1,e2,e3⟩:=e 0 Γ X ⟨frv,Γ.h,[],false⟩ hnw hm ⟨rfl,hf,s,by simp,List.nodup_nil⟩;obtain⟨n,frv',Γ',X',fr',hp',R',g1,g2,g3,g4,g5⟩:=h Γ2 X2 frv e1 (e1▸e3.mle (hnw▸hm)) e2.sat e2.fr;have hh:Γ.h=Γ2.h:=e2.hh;exact⟨n,frv',Γ',X',fr',hp',R',by rw[hh];exact g1,g2,g3,e3.trans g4,g5⟩
theorem op_z{o:Oper}{k:IntKind}{z:Int}(z':Int)(hw:y5q ops fr o=some true)(hx:yuq C G fr o.op=some (.int k (qlq k z)))(e:z=z')(hz:inK k z')(h:OpW C G m ops l (putW fr o.dst (.int k z')) hp nw R K):OpW C G m ops (o::l) fr hp nw R K:=by
 subst e;exact op_wrap hw hx hz h
end
section
variable {C:Cfg} {G:Nat->Option W} {m k0:Nat} {fr fr2:FrW} {hp hp2:HpW} {nw nw2:Nat} {R:Res}
theorem ren_g(τ:Nat->Nat)(b e:Nat)(l:List W):renW τ (gW b e l)=gW (τ b) e l:=by cases l<;>rfl
theorem renH_g(τ:Nat->Nat)(b:Nat)(ty:TypeId)(e:Nat){l:List W}(hl:purL l=true):renH τ (gH b ty e l)=gH (τ b) ty e l:=by
 cases l with
 |nil=>rfl
 |cons x r=>
  have hpa:purW (.arr ((x::r).length*e) e (x::r))=true:=hl;simp only[gH,renH,zoq hpa]
theorem yOq{b:Nat}:∀{P:HpW},(∀p∈P,p.1≠b) ->hget P b=none
 |[],_=>rfl
 |(c,y)::P,h=>by
  rw[zgq,if_neg λe=>h (c,y) (List.mem_cons_self ..) e];exact yOq λp hp=>h p (List.mem_cons_of_mem _ hp)
theorem jCq{b:Nat}{Q:HpW}:∀{P:HpW},hget (P++Q) b=(hget P b).orElse λ_=>hget Q b
 |[]=>by simp[hget]
 |(c,y)::P=>by
  rw[List.cons_append,zgq,zgq];split
  ·rfl
  ·exact jCq
end
noncomputable def tabV(n:Nat):V:=.int .u32 (.ofNat n)
noncomputable def eqTab:List V->List Nat->Bool
 |[],[]=>true
 |.int .u32 (.ofNat n)::l,m::ms=>match Nat.beq n m with
  |true=>eqTab l ms
  |false=>false
 |_,_=>false
theorem Qdq:∀{l:List V} {ms:List Nat},eqTab l ms=true->l=ms.map tabV
 |[],[],_=>rfl
 |[],_::_,h=>by simp[eqTab] at h
 |v::l,ms,h=>by
  unfold eqTab at h;split at h
  ·simp_all
  ·rename_i n l' m ms' e;cases e;split at h
   ·rename_i hb;obtain rfl:=Nat.eq_of_beq_eq_true hb;rw[Qdq h];rfl
   ·cases h
  ·cases h
theorem Qeq:∀ms:List Nat,eqTab (ms.map tabV) ms=true
 |[]=>rfl
 |m::ms=>by
  show(match Nat.beq m m with|true=>eqTab (ms.map tabV) ms|false=>false)=true;rw[Nat.beq_refl];exact Qeq ms
noncomputable def okTab(g:Nat)(ns:List Nat)(h:Heap):Bool:=match h.val g with
 |some bv=>Nat.ble ns.length bv.size&&eqTab ((zjq bv).take ns.length) ns
 |none=>false
noncomputable def runK(ok:Heap->Bool):List V->Heap->Option (V×Heap)
 |[],h=>match ok h with
  |true=>some (.bool true,h)
  |false=>none
 |_,_=>none
noncomputable def byJ(h:Heap):V->Option (List UInt8)
 |.nils=>some []
 |.sl b _ off n 1 _=>match h.val b with
  |some bv=>match kaq 50 bv off n 1 with
   |some l=>bytesOf (z2q 1 l)
   |none=>none
  |none=>none
 |_=>none
noncomputable def bysJ(h:Heap):List V->Option (List (List UInt8))
 |[]=>some []
 |v::l=>match byJ h v,bysJ h l with
  |some x,some r=>some (x::r)
  |_,_=>none
noncomputable def Q8q:List V->Heap->Option (V×Heap)
 |[.sl b _ off n 1 _,y],h=>match h.val b,byJ h y with
  |some bv,some []=>match kaq 50 bv off n 1 with
   |some xs=>match bysJ h (z2q 1 xs) with
    |some ls=>match Nat.ble 2 n&&Nat.ble n 140737488355328&&Nat.ble 1 ls.flatten.length&&Nat.ble ls.flatten.length 140737488355328 with
     |true=>some (.sl h.next 0 0 ls.flatten.length 1 none,h.push (.ro (.arr ls.flatten.length 1 (yRq ls.flatten))))
     |false=>none
    |none=>none
   |none=>none
  |_,_=>none
 |_,_=>none
section
variable {C:Cfg} {G:Nat->Option W} {Γ:Ctx} {X:Nat->Prop} {R:Res}
theorem push_ro(s:SatH C G Γ [] X R)(v:V):∃Γ',Γ'.nw=Γ.nw/\Γ.Le Γ'/\Γ'.h=Γ.h.push (.ro v)/\Γ'.D Γ.h.next/\SatH C G Γ' [] X R/\Frm Γ.nw Γ [] X Γ' [] X:=by
 let Γ2:Ctx:=⟨Γ.nw,Γ.σ,λc=>Γ.D c\/c=Γ.h.next,Γ.h.push (.ro v)⟩
 have le:Γ.Le Γ2:=⟨Nat.le_refl _,λ_ _=>rfl,λ_ h=>.inl h,λb hb=>yMq (by
  have:=s.dlt b hb;show(Γ.h.push (.ro v)).get b=_;rw[Heap.get_push,if_neg Xd])⟩
 refine⟨Γ2,rfl,le,rfl,.inr rfl,⟨λi hi=>?_,λb ty w h=>by simp[hget] at h,λb b' x y h=>by simp[hget] at h,List.nodup_nil,λc hd hX=>?_,λc hc=>Nat.lt_succ_of_lt (s.xlt c hc),λc hd=>?_,R.st _ _ _ _ _ s.res le.D le.val (λc hc=>?_) (Nat.le_succ _),s.gl.mono le⟩,⟨λ_ _=>rfl,λh=>h,Nat.le_succ _,λc h1 _ _=>?_,λ_ h=>.inl h,λc hd=>?_,λb x _ h=>by simp[hget] at h,λb x _ h=>by simp[hget] at h,λ_ h=>.inl h,λk h _ _=>h⟩⟩
 ·have hi:Γ.h.next+1<=i:=hi;show(Γ.h.push (.ro v)).get i=none;rw[Heap.get_push,if_neg Xd];exact s.wf i Xd
 ·rcases hd with h|rfl
  ·exact s.dX c h hX
  ·exact Nat.lt_irrefl _ (s.xlt _ hX)
 ·rcases hd with h|rfl
  ·exact Nat.lt_succ_of_lt (s.dlt c h)
  ·exact Nat.lt_succ_self _
 ·have:=s.xlt c hc;show(Γ.h.push (.ro v)).get c=_;rw[Heap.get_push,if_neg Xd]
 ·show(Γ.h.push (.ro v)).get c=_;rw[Heap.get_push,if_neg Xd]
 ·rcases hd with h|rfl
  ·exact .inl h
  ·exact .inr (.inr (Nat.le_refl _))
theorem rsl_bytes:∀{p:List UInt8} {s:List V},RSL Γ (zcq p) s->s=p.map λc=>V.int .u8 (.ofNat c.toNat)
 |[],s,h=>by simpa[zcq,RSL] using h
 |c::p,s,h=>by
  have h:RS Γ (.int .u8 (.ofNat c.toNat)) (s.take 1)/\RSL Γ (zcq p) (s.drop 1):=h;have h1:s.take 1=[.int .u8 (.ofNat c.toNat)]:=by simpa[RS] using h.1
  rw[<-List.take_append_drop 1 s,h1,rsl_bytes h.2];rfl
theorem Yvq:∀p:List UInt8,bytesOf (p.map λc=>V.int .u8 (.ofNat c.toNat))=some p
 |[]=>rfl
 |c::p=>by
  have hc:Nat.blt c.toNat 256=true:=by simpa[Nat.blt_eq] using c.toNat_lt
  rw[List.map_cons];unfold bytesOf;simp only[Yvq p,hc];simp
theorem byJ_w{p:List UInt8}{u:V}(h:RS Γ (bW p) [u]):byJ Γ.h u=some p:=by
 have h:(zcq p=[]/\[u]=[.nils])\/∃b base off lim bv,[u]=[.sl b base off (zcq p).length 1 lim]/\(false=true->lim=some (zcq p).length)/\Γ.D b/\Γ.h.val b=some bv/\bv.isAgg=true/\off+(zcq p).length*1<=bv.size/\(∀x∈zcq p,x.size=1)/\RSL Γ (zcq p) (((zjq bv).drop off).take ((zcq p).length*1)):=by
  simpa only[bW,RS] using h
 rcases h with ⟨h1,h2⟩|⟨b,base,off,lim,bv,h1,_,h3,h4,h5,h6,h7,h8⟩
 ·cases h2
  have:p=[]:=by cases p with
   |nil=>rfl
   |cons c p=>cases h1
  rw[this];rfl
 ·cases h1;obtain⟨us,g1,g2,g3,g4⟩:=QEq (e:=1) h5 h6;simp only[byJ,h4,g1];rw[g3,rsl_bytes h8];exact Yvq p
theorem bysJ_w:∀{ps:List (List UInt8)} {s:List V},RSL Γ (ps.map bW) s->bysJ Γ.h s=some ps
 |[],s,h=>by
  have h:s=[]:=by simpa[RSL] using h
  rw[h];rfl
 |p::ps,s,h=>by
  have h:RS Γ (bW p) (s.take 1)/\RSL Γ (ps.map bW) (s.drop 1):=h;have hl:=qPq h.1;cases s with
  |nil=>simp[bW,W.size] at hl
  |cons u s=>
   have h1:RS Γ (bW p) [u]:=h.1;have h2:RSL Γ (ps.map bW) s:=h.2;simp only[bysJ,byJ_w h1,bysJ_w h2]
theorem rsl_of:∀p:List UInt8,RSL Γ (zcq p) (p.map λc=>V.int .u8 (.ofNat c.toNat))
 |[]=>by simp[zcq,RSL]
 |c::p=>by
  show RS Γ (.int .u8 (.ofNat c.toNat)) _/\RSL Γ (zcq p) _;exact⟨by simp[RS,W.size],rsl_of p⟩
theorem Z4q:∀l:List UInt8,z2q 1 (yRq l)=l.map λc=>V.int .u8 (.ofNat c.toNat)
 |[]=>rfl
 |c::l=>by
  show fitV 1 [V.int .u8 (.ofNat c.toNat)]++z2q 1 (yRq l)=_;rw[Z4q l,ygq (n:=1) (l:=[V.int .u8 (.ofNat c.toNat)]) rfl];rfl
theorem join_w{F:FuncId}(hk:C.known F=some Q8q)(ps:List (List UInt8))(f:Bool)(h2:2<=ps.length)(hn:ps.length<=140737488355328)(h1:1<=ps.flatten.length)(hb:ps.flatten.length<=140737488355328):PS C G F [.fz (ps.map bW) 1 f,.nils] (bW ps.flatten):=λR Γ X vs hnw s hv=>by
 obtain⟨v,vs1,rfl,hv1,hv2⟩:=RVL_cons.1 hv;obtain⟨y,vs2,rfl,hy,hz⟩:=RVL_cons.1 hv2;obtain rfl:=RVL_nil.1 hz
 have hy:y= .nils:=by
  have:=hy.one rfl;simpa[RS] using this
 subst hy;have hlen:(ps.map bW).length=ps.length:=List.length_map _;rcases kuq hv1 with ⟨h0,_⟩|⟨b,base,off,lim,bv,us,rfl,_,_,g1,_,_,_,_,g2,g3⟩
 ·rw[h0] at hlen;simp only[List.length_nil] at hlen;omega
 ·have hby:=bysJ_w g3.rs;obtain⟨Γ',e1,le,e2,e3,s',fr⟩:=push_ro s (.arr ps.flatten.length 1 (yRq ps.flatten))
  have hok:(Nat.ble 2 (ps.map bW).length&&Nat.ble (ps.map bW).length 140737488355328&&Nat.ble 1 ps.flatten.length&&Nat.ble ps.flatten.length 140737488355328)=true:=by
   rw[hlen,Nat.ble_eq_true_of_le h2,Nat.ble_eq_true_of_le hn,Nat.ble_eq_true_of_le h1,Nat.ble_eq_true_of_le hb];rfl
  have hrun:Q8q [.sl b base off (ps.map bW).length 1 lim,.nils] Γ.h=some (.sl Γ.h.next 0 0 ps.flatten.length 1 none,Γ'.h):=by
   simp only[Q8q,g1,byJ,g2,hby,hok,e2]
  refine⟨1,.sl Γ.h.next 0 0 ps.flatten.length 1 none,Γ',X,bW ps.flatten,[],R,?_,s',by rw[<-hnw];exact fr,?_,rfl,rfl⟩
  ·simp only[yJq,hk,hrun]
  ·have hfl:zjq (.arr ps.flatten.length 1 (yRq ps.flatten))=ps.flatten.map λc=>V.int .u8 (.ofNat c.toNat):=by
    simp only[zjq,Z4q];exact ygq (by rw[List.length_map])
   have hval:Γ'.h.val Γ.h.next=some (.arr ps.flatten.length 1 (yRq ps.flatten)):=by
    rw[e2];simp only[Heap.val,Heap.get_push,if_true]
   have:=RV_fz (Γ:=Γ') (l:=zcq ps.flatten) (e:=1) (full:=false) (b:=Γ.h.next) (base:=0) (off:=0) (lim:=none) (bv:=.arr ps.flatten.length 1 (yRq ps.flatten)) Xi e3 hval rfl (by rw[zqq];show 0+_*1<=ps.flatten.length;omega) (λx hx=>by obtain⟨c,_,rfl⟩:=List.mem_map.1 hx;rfl) (by rw[hfl,List.drop_zero,List.take_of_length_le (by rw[zqq,List.length_map];omega)];exact rsl_of _);rw[zqq] at this;exact this
end
end
def ti1:TyI:=⟨1,8,.nilf,.other⟩
def ti2:TyI:=⟨1,8,.int .i64 0,.int .i64⟩
def ti3:TyI:=⟨1,8,.int .i64 0,.int .i64⟩
def ti4:TyI:=⟨1,1,.bool false,.bool⟩
def ti5:TyI:=⟨1,1,.int .u8 0,.int .u8⟩
def ti6:TyI:=⟨1,1,.int .u8 0,.int .u8⟩
def ti7:TyI:=⟨4,24,.agg 4 [.int .i64 0,.int .i64 0,.bool false,.int .u8 0],.struct [(2,0),(3,1),(4,2),(6,3)]⟩
def ti8:TyI:=⟨4,24,.agg 4 [.int .i64 0,.int .i64 0,.bool false,.int .u8 0],.struct [(2,0),(3,1),(4,2),(6,3)]⟩
def ti9:TyI:=⟨1,16,.str [],.str⟩
def ti11:TyI:=⟨1,16,.str [],.str⟩
def ti12:TyI:=⟨1,8,.int .u64 0,.int .u64⟩
def ti16:TyI:=⟨1,8,.nilp,.ptr⟩
def ti17:TyI:=⟨1,8,.nilp,.ptr⟩
def ti20:TyI:=⟨1,16,.nili,.iface⟩
def ti22:TyI:=⟨32,32,.arr 32 1 (List.replicate 32 (.int .u8 0)),.arr 32 5⟩
def ti23:TyI:=⟨32,32,.arr 32 1 (List.replicate 32 (.int .u8 0)),.arr 32 5⟩
def ti25:TyI:=⟨38,80,.agg 38 [.int .i64 0,.int .i64 0,.int .i64 0,.int .i64 0,.int .i64 0,.int .i64 0,.arr 32 1 (List.replicate 32 (.int .u8 0))],.struct [(3,0),(3,1),(3,2),(3,3),(3,4),(3,5),(23,6)]⟩
def ti26:TyI:=⟨1,24,.nils,.slice 223⟩
def ti28:TyI:=⟨2,32,.agg 2 [.nils,.int .i64 0],.struct [(26,0),(3,1)]⟩
def ti29:TyI:=⟨1,24,.nils,.slice 88⟩
def ti31:TyI:=⟨3,56,.agg 3 [.agg 2 [.nils,.int .i64 0],.nils],.struct [(28,0),(29,2)]⟩
def ti32:TyI:=⟨6,80,.agg 6 [.int .i64 0,.bool false,.int .i64 0,.agg 3 [.agg 2 [.nils,.int .i64 0],.nils]],.struct [(3,0),(4,1),(3,2),(31,3)]⟩
def ti33:TyI:=⟨6,80,.agg 6 [.int .i64 0,.bool false,.int .i64 0,.agg 3 [.agg 2 [.nils,.int .i64 0],.nils]],.struct [(3,0),(4,1),(3,2),(31,3)]⟩
def ti34:TyI:=⟨1,24,.nils,.slice 131⟩
def ti35:TyI:=⟨1,24,.nils,.slice 72⟩
def ti36:TyI:=⟨1,24,.nils,.slice 148⟩
def ti37:TyI:=⟨1,8,.int .u64 0,.int .u64⟩
def ti38:TyI:=⟨1,24,.nils,.slice 59⟩
def ti39:TyI:=⟨1,24,.nils,.slice 175⟩
def ti41:TyI:=⟨2,32,.agg 2 [.int .i64 0,.nils],.struct [(3,0),(39,1)]⟩
def ti43:TyI:=⟨52,320,.agg 52 [.agg 38 [.int .i64 0,.int .i64 0,.int .i64 0,.int .i64 0,.int .i64 0,.int .i64 0,.arr 32 1 (List.replicate 32 (.int .u8 0))],.agg 6 [.int .i64 0,.bool false,.int .i64 0,.agg 3 [.agg 2 [.nils,.int .i64 0],.nils]],.nils,.nils,.nils,.nils,.int .u64 0,.nils,.agg 2 [.int .i64 0,.nils]],.struct [(25,0),(33,38),(34,44),(35,45),(35,46),(36,47),(37,48),(38,49),(41,50)]⟩
def ti44:TyI:=⟨1,8,.nilf,.other⟩
def ti46:TyI:=⟨1,8,.int .i64 0,.int .i64⟩
def ti49:TyI:=⟨2,16,.agg 2 [.int .u64 0,.int .u64 0],.struct [(37,0),(37,1)]⟩
def ti51:TyI:=⟨34,48,.agg 34 [.int .u8 0,.arr 32 1 (List.replicate 32 (.int .u8 0)),.int .i64 0],.struct [(5,0),(23,1),(46,33)]⟩
def ti52:TyI:=⟨1,24,.nils,.slice 5⟩
def ti53:TyI:=⟨1,24,.nils,.slice 23⟩
def ti55:TyI:=⟨67,120,.agg 67 [.arr 32 1 (List.replicate 32 (.int .u8 0)),.int .u8 0,.arr 32 1 (List.replicate 32 (.int .u8 0)),.nils,.nils],.struct [(23,0),(5,32),(23,33),(52,65),(53,66)]⟩
def ti57:TyI:=⟨98,112,.agg 98 [.int .i64 0,.arr 32 1 (List.replicate 32 (.int .u8 0)),.arr 32 1 (List.replicate 32 (.int .u8 0)),.arr 32 1 (List.replicate 32 (.int .u8 0)),.int .i64 0],.struct [(3,0),(23,1),(23,33),(23,65),(3,97)]⟩
def ti59:TyI:=⟨100,128,.agg 100 [.int .i64 0,.bool false,.agg 98 [.int .i64 0,.arr 32 1 (List.replicate 32 (.int .u8 0)),.arr 32 1 (List.replicate 32 (.int .u8 0)),.arr 32 1 (List.replicate 32 (.int .u8 0)),.int .i64 0]],.struct [(3,0),(4,1),(57,2)]⟩
def ti61:TyI:=⟨101,136,.agg 101 [.bool false,.agg 100 [.int .i64 0,.bool false,.agg 98 [.int .i64 0,.arr 32 1 (List.replicate 32 (.int .u8 0)),.arr 32 1 (List.replicate 32 (.int .u8 0)),.arr 32 1 (List.replicate 32 (.int .u8 0)),.int .i64 0]]],.struct [(4,0),(59,1)]⟩
def ti63:TyI:=⟨240,384,.agg 240 [.int .u8 0,.int .i64 0,.int .i64 0,.arr 32 1 (List.replicate 32 (.int .u8 0)),.agg 2 [.int .u64 0,.int .u64 0],.agg 34 [.int .u8 0,.arr 32 1 (List.replicate 32 (.int .u8 0)),.int .i64 0],.agg 67 [.arr 32 1 (List.replicate 32 (.int .u8 0)),.int .u8 0,.arr 32 1 (List.replicate 32 (.int .u8 0)),.nils,.nils],.int .i64 0,.agg 101 [.bool false,.agg 100 [.int .i64 0,.bool false,.agg 98 [.int .i64 0,.arr 32 1 (List.replicate 32 (.int .u8 0)),.arr 32 1 (List.replicate 32 (.int .u8 0)),.arr 32 1 (List.replicate 32 (.int .u8 0)),.int .i64 0]]]],.struct [(5,0),(46,1),(3,2),(23,3),(49,35),(51,37),(55,71),(3,138),(61,139)]⟩
def ti67:TyI:=⟨35,56,.agg 35 [.int .u8 0,.arr 32 1 (List.replicate 32 (.int .u8 0)),.int .u64 0,.int .i64 0],.struct [(5,0),(23,1),(37,33),(3,34)]⟩
def ti69:TyI:=⟨38,96,.agg 38 [.int .u8 0,.nils,.agg 35 [.int .u8 0,.arr 32 1 (List.replicate 32 (.int .u8 0)),.int .u64 0,.int .i64 0],.int .i64 0],.struct [(5,0),(52,1),(67,2),(3,37)]⟩
def ti72:TyI:=⟨99,120,.agg 99 [.arr 32 1 (List.replicate 32 (.int .u8 0)),.arr 32 1 (List.replicate 32 (.int .u8 0)),.int .u64 0,.int .u64 0,.int .u64 0,.arr 32 1 (List.replicate 32 (.int .u8 0))],.struct [(23,0),(23,32),(37,64),(37,65),(37,66),(23,67)]⟩
def ti77:TyI:=⟨134,176,.agg 134 [.int .u8 0,.agg 99 [.arr 32 1 (List.replicate 32 (.int .u8 0)),.arr 32 1 (List.replicate 32 (.int .u8 0)),.int .u64 0,.int .u64 0,.int .u64 0,.arr 32 1 (List.replicate 32 (.int .u8 0))],.arr 32 1 (List.replicate 32 (.int .u8 0)),.int .i64 0,.int .i64 0],.struct [(5,0),(72,1),(23,100),(3,132),(3,133)]⟩
def ti78:TyI:=⟨134,176,.agg 134 [.int .u8 0,.agg 99 [.arr 32 1 (List.replicate 32 (.int .u8 0)),.arr 32 1 (List.replicate 32 (.int .u8 0)),.int .u64 0,.int .u64 0,.int .u64 0,.arr 32 1 (List.replicate 32 (.int .u8 0))],.arr 32 1 (List.replicate 32 (.int .u8 0)),.int .i64 0,.int .i64 0],.struct [(5,0),(72,1),(23,100),(3,132),(3,133)]⟩
def ti83:TyI:=⟨1,8,.nilf,.other⟩
def ti85:TyI:=⟨2,48,.agg 2 [.nils,.nils],.struct [(36,0),(35,1)]⟩
def ti86:TyI:=⟨1,24,.nils,.slice 51⟩
def ti88:TyI:=⟨102,192,.agg 102 [.agg 98 [.int .i64 0,.arr 32 1 (List.replicate 32 (.int .u8 0)),.arr 32 1 (List.replicate 32 (.int .u8 0)),.arr 32 1 (List.replicate 32 (.int .u8 0)),.int .i64 0],.int .i64 0,.agg 2 [.nils,.nils],.nils],.struct [(57,0),(3,98),(85,99),(86,101)]⟩
def ti89:TyI:=⟨1,8,.nilf,.other⟩
def ti100:TyI:=⟨1,8,.nilf,.other⟩
def ti104:TyI:=⟨1,24,.nils,.slice 61⟩
def ti106:TyI:=⟨2,32,.agg 2 [.nils,.bool false],.struct [(104,0),(4,1)]⟩
def ti109:TyI:=⟨1,8,.nilf,.other⟩
def ti112:TyI:=⟨1,8,.nilf,.other⟩
def ti113:TyI:=⟨1,8,.nilf,.other⟩
def ti116:TyI:=⟨1,8,.nilp,.ptr⟩
def ti117:TyI:=⟨1,8,.nilf,.other⟩
def ti119:TyI:=⟨52,320,.agg 52 [.agg 52 [.agg 38 [.int .i64 0,.int .i64 0,.int .i64 0,.int .i64 0,.int .i64 0,.int .i64 0,.arr 32 1 (List.replicate 32 (.int .u8 0))],.agg 6 [.int .i64 0,.bool false,.int .i64 0,.agg 3 [.agg 2 [.nils,.int .i64 0],.nils]],.nils,.nils,.nils,.nils,.int .u64 0,.nils,.agg 2 [.int .i64 0,.nils]]],.struct [(43,0)]⟩
def ti120:TyI:=⟨1,8,.nilf,.other⟩
def ti128:TyI:=⟨1,8,.nilf,.other⟩
def ti129:TyI:=⟨1,24,.nils,.slice 133⟩
def ti131:TyI:=⟨1,24,.agg 1 [.nils],.struct [(129,0)]⟩
def ti133:TyI:=⟨33,56,.agg 33 [.arr 32 1 (List.replicate 32 (.int .u8 0)),.nils],.struct [(23,0),(35,32)]⟩
def ti136:TyI:=⟨1,24,.nils,.slice 244⟩
def ti139:TyI:=⟨1,8,.nilp,.ptr⟩
def ti140:TyI:=⟨1,8,.nilp,.ptr⟩
def ti143:TyI:=⟨2,32,.agg 2 [.nils,.bool false],.struct [(52,0),(4,1)]⟩
def ti148:TyI:=⟨34,48,.agg 34 [.int .u64 0,.arr 32 1 (List.replicate 32 (.int .u8 0)),.int .u64 0],.struct [(37,0),(23,1),(37,33)]⟩
def ti150:TyI:=⟨1,8,.nilf,.other⟩
def ti151:TyI:=⟨1,8,.nilf,.other⟩
def ti153:TyI:=⟨1,8,.nilf,.other⟩
def ti155:TyI:=⟨1,24,.nils,.slice 158⟩
def ti156:TyI:=⟨1,8,.nilf,.other⟩
def ti158:TyI:=⟨33,56,.agg 33 [.arr 32 1 (List.replicate 32 (.int .u8 0)),.nils],.struct [(23,0),(52,32)]⟩
def ti167:TyI:=⟨1,24,.nils,.slice 69⟩
def ti173:TyI:=⟨1,8,.nilf,.other⟩
def ti175:TyI:=⟨4,48,.agg 4 [.int .i64 0,.int .i64 0,.agg 2 [.nils,.bool false]],.struct [(3,0),(3,1),(106,2)]⟩
def ti177:TyI:=⟨1,8,.nilf,.other⟩
def ti179:TyI:=⟨1,8,.nilf,.other⟩
def ti185:TyI:=⟨1,8,.nilf,.other⟩
def ti187:TyI:=⟨1,8,.nilf,.other⟩
def ti188:TyI:=⟨1,8,.nilf,.other⟩
def ti210:TyI:=⟨1,24,.nils,.slice 85⟩
def ti214:TyI:=⟨1,8,.nilf,.other⟩
def ti218:TyI:=⟨1,8,.nilf,.other⟩
def ti219:TyI:=⟨1,8,.nilf,.other⟩
def ti223:TyI:=⟨36,80,.agg 36 [.bool false,.arr 32 1 (List.replicate 32 (.int .u8 0)),.nils,.int .i64 0,.int .i64 0],.struct [(4,0),(23,1),(52,33),(3,34),(3,35)]⟩
def ti227:TyI:=⟨1,8,.nilp,.ptr⟩
def ti229:TyI:=⟨1,24,.agg 1 [.nils],.struct [(52,0)]⟩
def ti231:TyI:=⟨100,144,.agg 100 [.agg 1 [.nils],.agg 99 [.arr 32 1 (List.replicate 32 (.int .u8 0)),.arr 32 1 (List.replicate 32 (.int .u8 0)),.int .u64 0,.int .u64 0,.int .u64 0,.arr 32 1 (List.replicate 32 (.int .u8 0))]],.struct [(229,0),(72,1)]⟩
def ti232:TyI:=⟨1,8,.nilp,.ptr⟩
def ti233:TyI:=⟨1,24,.nils,.slice 232⟩
def ti235:TyI:=⟨1,8,.nilf,.other⟩
def ti237:TyI:=⟨1,8,.nilf,.other⟩
def ti238:TyI:=⟨3,24,.agg 3 [.nilf,.nilf,.int .i64 0],.struct [(237,0),(235,1),(3,2)]⟩
def ti239:TyI:=⟨3,24,.agg 3 [.nilf,.nilf,.int .i64 0],.struct [(237,0),(235,1),(3,2)]⟩
def ti240:TyI:=⟨1,8,.nilp,.ptr⟩
def ti242:TyI:=⟨1,8,.agg 1 [.nilp],.struct [(240,0)]⟩
def ti244:TyI:=⟨1,16,.nili,.iface⟩
def ti246:TyI:=⟨1,8,.nilp,.ptr⟩
def ti247:TyI:=⟨1,8,.nilf,.other⟩
def ti249:TyI:=⟨3,24,.agg 3 [.nilp,.int .i64 0,.int .i64 0],.struct [(246,0),(3,1),(3,2)]⟩
def ti250:TyI:=⟨1,8,.nilp,.ptr⟩
def ti252:TyI:=⟨1,8,.agg 1 [.nilp],.struct [(250,0)]⟩
def ti253:TyI:=⟨1,8,.nilf,.other⟩
def ti255:TyI:=⟨1,8,.nilf,.other⟩
def ti258:TyI:=⟨1,8,.nilf,.other⟩
def ti259:TyI:=⟨1,8,.nilf,.other⟩
def ti261:TyI:=⟨1,8,.nilp,.ptr⟩
def ti262:TyI:=⟨1,8,.nilf,.other⟩
def ti264:TyI:=⟨2,32,.agg 2 [.agg 2 [.nils,.int .i64 0]],.struct [(28,0)]⟩
def ti267:TyI:=⟨1,8,.nilf,.other⟩
def ti268:TyI:=⟨1,8,.nilf,.other⟩
def ti276:TyI:=⟨1,24,.nils,.slice 52⟩
def ti278:TyI:=⟨1,8,.nilf,.other⟩
def ti280:TyI:=⟨1,8,.nilf,.other⟩
def ti281:TyI:=⟨1,8,.nilf,.other⟩
def ti289:TyI:=⟨1,8,.nilf,.other⟩
def ti294:TyI:=⟨1,8,.nilf,.other⟩
def ti296:TyI:=⟨1,8,.nilp,.ptr⟩
def ti299:TyI:=⟨1,8,.nilf,.other⟩
def ti308:TyI:=⟨1,8,.nilp,.ptr⟩
def ti310:TyI:=⟨1,8,.nilf,.other⟩
def ti312:TyI:=⟨1,8,.agg 1 [.nilf],.struct [(310,0)]⟩
def ti313:TyI:=⟨1,8,.nilf,.other⟩
def ti314:TyI:=⟨1,8,.nilf,.other⟩
def ti318:TyI:=⟨1,8,.nilf,.other⟩
def ti319:TyI:=⟨99,120,.agg 99 [.arr 32 1 (List.replicate 32 (.int .u8 0)),.arr 32 1 (List.replicate 32 (.int .u8 0)),.int .u64 0,.int .u64 0,.int .u64 0,.arr 32 1 (List.replicate 32 (.int .u8 0))],.struct [(23,0),(23,32),(37,64),(37,65),(37,66),(23,67)]⟩
def ti324:TyI:=⟨1,8,.nilf,.other⟩
def ti329:TyI:=⟨2,16,.arr 2 1 (List.replicate 2 (.int .i64 0)),.arr 2 3⟩
def ti332:TyI:=⟨1,8,.int .u64 0,.int .u64⟩
def ti333:TyI:=⟨1,8,.nilp,.ptr⟩
def ti337:TyI:=⟨1,8,.nilf,.other⟩
def ti339:TyI:=⟨1,8,.nilf,.other⟩
def ti340:TyI:=⟨1,8,.nilf,.other⟩
def ti347:TyI:=⟨1,4,.int .u32 0,.int .u32⟩
def ti349:TyI:=⟨8,32,.arr 8 1 (List.replicate 8 (.int .u32 0)),.arr 8 347⟩
def ti353:TyI:=⟨1,8,.nilf,.other⟩
def ti356:TyI:=⟨1,8,.nilp,.ptr⟩
def ti358:TyI:=⟨1,24,.agg 1 [.agg 1 [.nils]],.struct [(131,0)]⟩
def ti365:TyI:=⟨1,8,.nilf,.other⟩
def ti366:TyI:=⟨1,8,.nilf,.other⟩
def ti371:TyI:=⟨1,8,.nilf,.other⟩
def ti378:TyI:=⟨1,8,.nilf,.other⟩
def ti379:TyI:=⟨1,8,.nilf,.other⟩
def ti383:TyI:=⟨64,64,.arr 64 32 (List.replicate 2 (.arr 32 1 (List.replicate 32 (.int .u8 0)))),.arr 2 23⟩
def ti387:TyI:=⟨1,8,.nilf,.other⟩
def ti389:TyI:=⟨1,24,.nils,.slice 37⟩
def ti390:TyI:=⟨1,8,.nilf,.other⟩
def ti393:TyI:=⟨1,8,.nilf,.other⟩
def ti394:TyI:=⟨1,8,.nilf,.other⟩
def ti395:TyI:=⟨1,8,.nilp,.ptr⟩
def ti396:TyI:=⟨64,256,.arr 64 1 (List.replicate 64 (.int .u32 0)),.arr 64 347⟩
def ti399:TyI:=⟨1,8,.nilf,.other⟩
def ti401:TyI:=⟨2,32,.agg 2 [.nils,.nilf],.struct [(35,0),(399,1)]⟩
def ti406:TyI:=⟨1,8,.nilf,.other⟩
def ti407:TyI:=⟨1,8,.nilf,.other⟩
def ti410:TyI:=⟨1,8,.nilf,.other⟩
def ti413:TyI:=⟨1,8,.nilp,.ptr⟩
def ti415:TyI:=⟨67,120,.agg 67 [.agg 67 [.arr 32 1 (List.replicate 32 (.int .u8 0)),.int .u8 0,.arr 32 1 (List.replicate 32 (.int .u8 0)),.nils,.nils]],.struct [(55,0)]⟩
def ti417:TyI:=⟨1,8,.nilf,.other⟩
def ti418:TyI:=⟨1,8,.nilf,.other⟩
def ti420:TyI:=⟨1,8,.nilp,.ptr⟩
def ti422:TyI:=⟨35,88,.agg 35 [.agg 2 [.nils,.int .i64 0],.arr 32 1 (List.replicate 32 (.int .u8 0)),.nils],.struct [(28,0),(23,2),(86,34)]⟩
def ti424:TyI:=⟨1,8,.nilf,.other⟩
def ti429:TyI:=⟨1,8,.nilf,.other⟩
def ti440:TyI:=⟨1,8,.nilf,.other⟩
def ti443:TyI:=⟨1,8,.nilp,.ptr⟩
def ti444:TyI:=⟨2,32,.agg 2 [.agg 2 [.nils,.int .i64 0]],.struct [(28,0)]⟩
def ti450:TyI:=⟨2,16,.agg 2 [.nilf,.int .i64 0],.struct [(44,0),(46,1)]⟩
def ti451:TyI:=⟨1,24,.nils,.slice 450⟩
def ti453:TyI:=⟨1,8,.nilf,.other⟩
def ti454:TyI:=⟨1,8,.nilf,.other⟩
def ti469:TyI:=⟨0,0,.arr 0 1 (List.replicate 0 (.nilp)),.arr 0 16⟩
def ti473:TyI:=⟨1,1,.int .u8 0,.int .u8⟩
def ti474:TyI:=⟨1,1,.int .u8 0,.int .u8⟩
def ti475:TyI:=⟨1,8,.nilf,.other⟩
def ti476:TyI:=⟨1,8,.nilp,.ptr⟩
def ti477:TyI:=⟨1,4,.int .i32 0,.int .i32⟩
def ti478:TyI:=⟨1,4,.int .i32 0,.int .i32⟩
noncomputable def tyT:Tr TyI:=.node none (.node (some ti1) (.node (some ti3) (.node (some ti7) (.node none (.node (some ti31) (.node (some ti63) (.node none (.node (some ti255) .nil .nil) (.node (some ti383) .nil .nil)) (.node none (.node (some ti319) .nil .nil) .nil)) (.node none (.node none .nil (.node (some ti415) .nil .nil)) (.node (some ti223) .nil .nil))) (.node none (.node none (.node (some ti143) .nil (.node (some ti399) .nil .nil)) .nil) (.node none (.node (some ti175) .nil .nil) (.node (some ti239) .nil .nil)))) (.node (some ti23) (.node (some ti39) .nil (.node none (.node (some ti167) .nil .nil) (.node (some ti231) .nil .nil))) (.node (some ti55) (.node none (.node (some ti151) .nil (.node (some ti407) .nil .nil)) .nil) (.node (some ti119) .nil (.node (some ti247) .nil .nil))))) (.node (some ti11) (.node none (.node (some ti35) (.node (some ti67) (.node (some ti131) (.node (some ti259) .nil .nil) (.node (some ti387) .nil .nil)) (.node none .nil (.node (some ti451) .nil .nil))) (.node none .nil (.node (some ti227) .nil .nil))) (.node (some ti51) (.node (some ti83) .nil (.node none (.node (some ti339) .nil .nil) .nil)) (.node none (.node (some ti179) .nil .nil) (.node none (.node (some ti371) .nil .nil) .nil)))) (.node none (.node (some ti43) (.node none (.node (some ti139) (.node (some ti267) .nil .nil) (.node (some ti395) .nil .nil)) .nil) (.node none (.node none (.node (some ti299) .nil .nil) .nil) (.node (some ti235) .nil .nil))) (.node (some ti59) (.node none (.node (some ti155) .nil .nil) (.node (some ti219) (.node (some ti347) .nil .nil) (.node (some ti475) .nil .nil))) (.node none (.node (some ti187) .nil (.node (some ti443) .nil .nil)) (.node none (.node (some ti379) .nil .nil) .nil)))))) (.node (some ti5) (.node (some ti9) (.node (some ti17) (.node (some ti33) (.node none (.node (some ti129) .nil .nil) .nil) (.node none (.node none (.node (some ti289) .nil .nil) (.node (some ti417) .nil .nil)) (.node none (.node (some ti353) .nil .nil) .nil))) (.node (some ti49) (.node none (.node none .nil (.node (some ti401) .nil .nil)) (.node none (.node (some ti337) .nil .nil) .nil)) (.node (some ti113) (.node (some ti177) .nil .nil) .nil))) (.node (some ti25) (.node (some ti41) (.node none (.node none .nil (.node (some ti393) .nil .nil)) (.node none (.node (some ti329) .nil .nil) .nil)) (.node none .nil (.node (some ti233) .nil .nil))) (.node (some ti57) (.node (some ti89) (.node (some ti153) (.node (some ti281) .nil .nil) .nil) (.node none .nil (.node (some ti473) .nil .nil))) (.node none (.node (some ti185) (.node (some ti313) .nil .nil) .nil) (.node (some ti249) .nil .nil))))) (.node none (.node none (.node (some ti37) (.node (some ti69) (.node (some ti133) (.node (some ti261) .nil .nil) (.node (some ti389) .nil .nil)) (.node none .nil (.node (some ti453) .nil .nil))) (.node none .nil (.node (some ti229) .nil .nil))) (.node (some ti53) (.node (some ti85) .nil (.node none .nil (.node (some ti469) .nil .nil))) (.node (some ti117) .nil .nil))) (.node (some ti29) (.node none (.node (some ti77) .nil (.node none (.node (some ti333) .nil .nil) .nil)) (.node (some ti109) (.node (some ti173) .nil (.node (some ti429) .nil .nil)) (.node (some ti237) (.node (some ti365) .nil .nil) .nil))) (.node (some ti61) (.node none (.node none .nil (.node (some ti413) .nil .nil)) (.node none (.node (some ti349) .nil .nil) (.node (some ti477) .nil .nil))) (.node none .nil (.node (some ti253) .nil .nil))))))) (.node (some ti2) (.node (some ti4) (.node (some ti8) (.node (some ti16) (.node (some ti32) (.node none (.node (some ti128) .nil .nil) .nil) .nil) (.node none .nil (.node (some ti112) .nil (.node (some ti240) .nil .nil)))) (.node none (.node none (.node (some ti72) (.node (some ti136) (.node (some ti264) .nil .nil) .nil) .nil) (.node (some ti104) (.node none (.node (some ti296) .nil .nil) (.node (some ti424) .nil .nil)) (.node (some ti232) .nil .nil))) (.node none (.node (some ti88) (.node none (.node (some ti280) .nil .nil) .nil) .nil) (.node (some ti120) (.node none (.node (some ti312) .nil .nil) (.node (some ti440) .nil .nil)) .nil)))) (.node (some ti12) (.node (some ti20) (.node (some ti36) (.node none .nil (.node none (.node (some ti324) .nil .nil) .nil)) (.node (some ti100) (.node none .nil (.node (some ti420) .nil .nil)) (.node none (.node (some ti356) .nil .nil) .nil))) (.node (some ti52) (.node none (.node (some ti148) (.node (some ti276) .nil .nil) .nil) (.node none (.node (some ti340) .nil .nil) .nil)) (.node (some ti116) (.node none (.node (some ti308) .nil .nil) .nil) (.node (some ti244) .nil .nil)))) (.node (some ti28) (.node (some ti44) (.node none (.node (some ti140) (.node (some ti268) .nil .nil) (.node (some ti396) .nil .nil)) (.node none (.node (some ti332) .nil .nil) .nil)) .nil) (.node none (.node none (.node (some ti156) .nil .nil) (.node none .nil (.node (some ti476) .nil .nil))) (.node none (.node (some ti188) .nil (.node (some ti444) .nil .nil)) (.node (some ti252) .nil .nil)))))) (.node (some ti6) (.node none (.node none (.node (some ti34) (.node none (.node none (.node (some ti258) .nil .nil) .nil) (.node none .nil (.node (some ti450) .nil .nil))) (.node none (.node none .nil (.node (some ti418) .nil .nil)) .nil)) (.node none (.node none .nil (.node (some ti210) .nil .nil)) (.node none .nil (.node (some ti242) .nil .nil)))) (.node (some ti26) (.node none (.node none (.node none .nil (.node (some ti394) .nil .nil)) .nil) (.node (some ti106) .nil .nil)) (.node none (.node none (.node none .nil (.node (some ti410) .nil .nil)) (.node (some ti218) .nil (.node (some ti474) .nil .nil))) (.node none (.node none (.node (some ti314) .nil .nil) .nil) (.node (some ti250) (.node (some ti378) .nil .nil) .nil))))) (.node none (.node (some ti22) (.node (some ti38) (.node none (.node none (.node (some ti262) .nil .nil) (.node (some ti390) .nil .nil)) (.node none .nil (.node (some ti454) .nil .nil))) (.node none (.node none (.node (some ti294) .nil .nil) (.node (some ti422) .nil .nil)) (.node none (.node (some ti358) .nil .nil) .nil))) (.node none (.node (some ti86) (.node (some ti150) (.node (some ti278) .nil .nil) (.node (some ti406) .nil .nil)) (.node (some ti214) .nil .nil)) (.node none (.node none (.node (some ti310) .nil .nil) .nil) (.node (some ti246) .nil .nil)))) (.node none (.node (some ti46) (.node (some ti78) .nil .nil) (.node none .nil (.node (some ti238) (.node (some ti366) .nil .nil) .nil))) (.node none (.node none (.node (some ti158) .nil .nil) (.node none .nil (.node (some ti478) .nil .nil))) (.node none (.node none (.node (some ti318) .nil .nil) .nil) .nil))))))
noncomputable def fnT:Tr Func:=.node none (.node none (.node none (.node (some Tryz.f7) (.node (some Tryz.f15) (.node (some Tryz.f31) (.node (some Tryz.f63) (.node (some Tryz.f127) (.node (some Tryz.f255) .nil .nil) .nil) (.node (some Tryz.f191) .nil .nil)) (.node (some Tryz.f95) (.node (some Tryz.f159) (.node (some Tryz.f287) .nil .nil) .nil) (.node (some Tryz.f223) .nil .nil))) (.node (some Tryz.f47) (.node (some Tryz.f79) (.node (some Tryz.f143) (.node (some Tryz.f271) .nil .nil) .nil) (.node (some Tryz.f207) .nil .nil)) (.node (some Tryz.f111) (.node (some Tryz.f175) .nil .nil) (.node (some Tryz.f239) .nil .nil)))) (.node (some Tryz.f23) (.node (some Tryz.f39) (.node (some Tryz.f71) (.node (some Tryz.f135) (.node (some Tryz.f263) .nil .nil) .nil) (.node (some Tryz.f199) .nil .nil)) (.node (some Tryz.f103) (.node (some Tryz.f167) (.node (some Tryz.f295) .nil .nil) .nil) (.node (some Tryz.f231) .nil .nil))) (.node (some Tryz.f55) (.node (some Tryz.f87) (.node (some Tryz.f151) .nil .nil) (.node (some Tryz.f215) .nil .nil)) (.node (some Tryz.f119) (.node (some Tryz.f183) .nil .nil) (.node (some Tryz.f247) .nil .nil))))) (.node (some Tryz.f11) (.node (some Tryz.f19) (.node none (.node (some Tryz.f67) (.node (some Tryz.f131) (.node (some Tryz.f259) .nil .nil) .nil) (.node (some Tryz.f195) .nil .nil)) (.node (some Tryz.f99) (.node (some Tryz.f163) (.node (some Tryz.f291) .nil .nil) .nil) (.node (some Tryz.f227) .nil .nil))) (.node (some Tryz.f51) (.node (some Tryz.f83) (.node (some Tryz.f147) (.node (some Tryz.f275) .nil .nil) .nil) (.node (some Tryz.f211) .nil .nil)) (.node (some Tryz.f115) (.node (some Tryz.f179) .nil .nil) (.node (some Tryz.f243) .nil .nil)))) (.node (some Tryz.f27) (.node (some Tryz.f43) (.node (some Tryz.f75) (.node (some Tryz.f139) (.node (some Tryz.f267) .nil .nil) .nil) (.node (some Tryz.f203) .nil .nil)) (.node (some Tryz.f107) (.node (some Tryz.f171) .nil .nil) (.node (some Tryz.f235) .nil .nil))) (.node (some Tryz.f59) (.node (some Tryz.f91) (.node (some Tryz.f155) (.node (some Tryz.f283) .nil .nil) .nil) (.node (some Tryz.f219) .nil .nil)) (.node (some Tryz.f123) (.node (some Tryz.f187) .nil .nil) (.node (some Tryz.f251) .nil .nil)))))) (.node (some Tryz.f5) (.node (some Tryz.f9) (.node (some Tryz.f17) (.node (some Tryz.f33) (.node (some Tryz.f65) (.node (some Tryz.f129) .nil .nil) (.node (some Tryz.f193) .nil .nil)) (.node (some Tryz.f97) (.node (some Tryz.f161) (.node (some Tryz.f289) .nil .nil) .nil) (.node (some Tryz.f225) .nil .nil))) (.node (some Tryz.f49) (.node (some Tryz.f81) (.node (some Tryz.f145) (.node (some Tryz.f273) .nil .nil) .nil) (.node (some Tryz.f209) .nil .nil)) (.node (some Tryz.f113) (.node (some Tryz.f177) .nil .nil) (.node (some Tryz.f241) .nil .nil)))) (.node (some Tryz.f25) (.node (some Tryz.f41) (.node (some Tryz.f73) (.node (some Tryz.f137) (.node (some Tryz.f265) .nil .nil) .nil) (.node (some Tryz.f201) .nil .nil)) (.node (some Tryz.f105) (.node (some Tryz.f169) .nil .nil) (.node (some Tryz.f233) .nil .nil))) (.node (some Tryz.f57) (.node (some Tryz.f89) (.node (some Tryz.f153) (.node (some Tryz.f281) .nil .nil) .nil) (.node (some Tryz.f217) .nil .nil)) (.node (some Tryz.f121) (.node (some Tryz.f185) .nil .nil) (.node (some Tryz.f249) .nil .nil))))) (.node (some Tryz.f13) (.node (some Tryz.f21) (.node (some Tryz.f37) (.node (some Tryz.f69) (.node (some Tryz.f133) (.node (some Tryz.f261) .nil .nil) .nil) (.node (some Tryz.f197) .nil .nil)) (.node (some Tryz.f101) (.node (some Tryz.f165) (.node (some Tryz.f293) .nil .nil) .nil) (.node (some Tryz.f229) .nil .nil))) (.node (some Tryz.f53) (.node (some Tryz.f85) (.node (some Tryz.f149) (.node (some Tryz.f277) .nil .nil) .nil) (.node (some Tryz.f213) .nil .nil)) (.node (some Tryz.f117) (.node (some Tryz.f181) .nil .nil) (.node (some Tryz.f245) .nil .nil)))) (.node (some Tryz.f29) (.node (some Tryz.f45) (.node (some Tryz.f77) (.node (some Tryz.f141) (.node (some Tryz.f269) .nil .nil) .nil) (.node (some Tryz.f205) .nil .nil)) (.node (some Tryz.f109) (.node (some Tryz.f173) .nil .nil) (.node (some Tryz.f237) .nil .nil))) (.node (some Tryz.f61) (.node (some Tryz.f93) (.node (some Tryz.f157) (.node (some Tryz.f285) .nil .nil) .nil) (.node (some Tryz.f221) .nil .nil)) (.node (some Tryz.f125) (.node (some Tryz.f189) .nil .nil) (.node (some Tryz.f253) .nil .nil))))))) (.node none (.node none (.node (some Tryz.f8) (.node (some Tryz.f16) (.node (some Tryz.f32) (.node (some Tryz.f64) (.node (some Tryz.f128) (.node (some Tryz.f256) .nil .nil) .nil) (.node (some Tryz.f192) .nil .nil)) (.node (some Tryz.f96) (.node (some Tryz.f160) (.node (some Tryz.f288) .nil .nil) .nil) (.node (some Tryz.f224) .nil .nil))) (.node (some Tryz.f48) (.node (some Tryz.f80) (.node (some Tryz.f144) (.node (some Tryz.f272) .nil .nil) .nil) (.node (some Tryz.f208) .nil .nil)) (.node (some Tryz.f112) (.node (some Tryz.f176) .nil .nil) (.node (some Tryz.f240) .nil .nil)))) (.node (some Tryz.f24) (.node (some Tryz.f40) (.node (some Tryz.f72) (.node (some Tryz.f136) (.node (some Tryz.f264) .nil .nil) .nil) (.node (some Tryz.f200) .nil .nil)) (.node (some Tryz.f104) (.node (some Tryz.f168) (.node (some Tryz.f296) .nil .nil) .nil) .nil)) (.node (some Tryz.f56) (.node (some Tryz.f88) (.node (some Tryz.f152) (.node (some Tryz.f280) .nil .nil) .nil) (.node (some Tryz.f216) .nil .nil)) (.node (some Tryz.f120) (.node (some Tryz.f184) .nil .nil) (.node (some Tryz.f248) .nil .nil))))) (.node none (.node (some Tryz.f20) (.node (some Tryz.f36) (.node (some Tryz.f68) (.node (some Tryz.f132) .nil .nil) (.node (some Tryz.f196) .nil .nil)) (.node (some Tryz.f100) (.node (some Tryz.f164) (.node (some Tryz.f292) .nil .nil) .nil) (.node (some Tryz.f228) .nil .nil))) (.node (some Tryz.f52) (.node (some Tryz.f84) (.node (some Tryz.f148) (.node (some Tryz.f276) .nil .nil) .nil) (.node (some Tryz.f212) .nil .nil)) (.node (some Tryz.f116) (.node (some Tryz.f180) .nil .nil) (.node (some Tryz.f244) .nil .nil)))) (.node (some Tryz.f28) (.node (some Tryz.f44) (.node (some Tryz.f76) (.node (some Tryz.f140) (.node (some Tryz.f268) .nil .nil) .nil) (.node (some Tryz.f204) .nil .nil)) (.node (some Tryz.f108) (.node (some Tryz.f172) .nil .nil) (.node (some Tryz.f236) .nil .nil))) (.node (some Tryz.f60) (.node (some Tryz.f92) (.node (some Tryz.f156) (.node (some Tryz.f284) .nil .nil) .nil) (.node (some Tryz.f220) .nil .nil)) (.node (some Tryz.f124) (.node (some Tryz.f188) .nil .nil) (.node (some Tryz.f252) .nil .nil)))))) (.node (some Tryz.f6) (.node (some Tryz.f10) (.node (some Tryz.f18) (.node (some Tryz.f34) (.node (some Tryz.f66) (.node (some Tryz.f130) (.node (some Tryz.f258) .nil .nil) .nil) (.node (some Tryz.f194) .nil .nil)) (.node (some Tryz.f98) (.node (some Tryz.f162) (.node (some Tryz.f290) .nil .nil) .nil) (.node (some Tryz.f226) .nil .nil))) (.node (some Tryz.f50) (.node (some Tryz.f82) (.node (some Tryz.f146) (.node (some Tryz.f274) .nil .nil) .nil) (.node (some Tryz.f210) .nil .nil)) (.node (some Tryz.f114) (.node (some Tryz.f178) .nil .nil) (.node (some Tryz.f242) .nil .nil)))) (.node (some Tryz.f26) (.node (some Tryz.f42) (.node (some Tryz.f74) (.node (some Tryz.f138) (.node (some Tryz.f266) .nil .nil) .nil) (.node (some Tryz.f202) .nil .nil)) (.node (some Tryz.f106) (.node (some Tryz.f170) .nil .nil) (.node (some Tryz.f234) .nil .nil))) (.node (some Tryz.f58) (.node (some Tryz.f90) (.node (some Tryz.f154) (.node (some Tryz.f282) .nil .nil) .nil) (.node (some Tryz.f218) .nil .nil)) (.node (some Tryz.f122) (.node (some Tryz.f186) .nil .nil) (.node (some Tryz.f250) .nil .nil))))) (.node (some Tryz.f14) (.node (some Tryz.f22) (.node (some Tryz.f38) (.node (some Tryz.f70) (.node (some Tryz.f134) (.node (some Tryz.f262) .nil .nil) .nil) (.node (some Tryz.f198) .nil .nil)) (.node (some Tryz.f102) (.node (some Tryz.f166) (.node (some Tryz.f294) .nil .nil) .nil) (.node (some Tryz.f230) .nil .nil))) (.node (some Tryz.f54) (.node (some Tryz.f86) (.node (some Tryz.f150) (.node (some Tryz.f278) .nil .nil) .nil) (.node (some Tryz.f214) .nil .nil)) (.node (some Tryz.f118) (.node (some Tryz.f182) .nil .nil) (.node (some Tryz.f246) .nil .nil)))) (.node (some Tryz.f30) (.node (some Tryz.f46) (.node (some Tryz.f78) (.node (some Tryz.f142) (.node (some Tryz.f270) .nil .nil) .nil) (.node (some Tryz.f206) .nil .nil)) (.node (some Tryz.f110) (.node (some Tryz.f174) .nil .nil) (.node (some Tryz.f238) .nil .nil))) (.node (some Tryz.f62) (.node (some Tryz.f94) (.node (some Tryz.f158) (.node (some Tryz.f286) .nil .nil) .nil) (.node (some Tryz.f222) .nil .nil)) (.node (some Tryz.f126) (.node (some Tryz.f190) .nil .nil) (.node (some Tryz.f254) .nil .nil)))))))
noncomputable def extT:Tr (List V->Option V):=.node none (.node none (.node none (.node none .nil (.node none .nil (.node none (.node none (.node none (.node (some add64V) .nil .nil) .nil) .nil) .nil))) .nil) .nil) .nil
noncomputable def mpT:Tr (TypeId×TypeId):=.nil
noncomputable def mtT:Tr (List (String×FuncId)):=.nil
noncomputable def cfgk(k:List V->Heap->Option (V×Heap)):Cfg:=⟨λt=>tyT.get t,λf=>fnT.get f,λf=>extT.get f,λg=>Nat.ble (g+1) 3,λf=>match Nat.beq f 198 with|true=>some Q8q|false=>match Nat.beq f 6 with|true=>some k|false=>none,λt=>mpT.get t,λt m=>mtOf mtT t m⟩
def kA:List Nat:=[1116352408,1899447441,3049323471,3921009573,961987163,1508970993,2453635748,2870763221,3624381080,310598401,607225278,1426881987,1925078388,2162078206,2614888103,3248222580,3835390401,4022224774,264347078,604807628,770255983,1249150122,1555081692,1996064986,2554220882,2821834349,2952996808,3210313671,3336571891,3584528711,113926993,338241895,666307205,773529912,1294757372,1396182291,1695183700,1986661051,2177026350,2456956037,2730485921,2820302411,3259730800,3345764771,3516065817,3600352804,4094571909,275423344,430227734,506948616,659060556,883997877,958139571,1322822218,1537002063,1747873779,1955562222,2024104815,2227730452,2361852424,2428436474,2756734187,3204031479,3329325298]
noncomputable def kNone:List V->Heap->Option (V×Heap):=λ_ _=>none
noncomputable def cfg:Cfg:=cfgk (runK (okTab 1 kA))
end Go.Proofs.YtpjfmknefefapaaGreatDoor

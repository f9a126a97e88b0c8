/- CallAlone's ground, part 9. No condition. -/
import Derived.OpenShut
import Derived.Test.YtcoldbcijgmidaaGreatDoorYCallAloneH
set_option linter.unusedSimpArgs false
set_option linter.unusedVariables false
namespace Go.Proofs.YtcoldbcijgmidaaGreatDoor
noncomputable section
section
open Go.RowKit
set_option maxRecDepth 100000
section
attribute [local irreducible] CoW OpW FlW aeq ajq
section
variable {G:Nat->Option W}
theorem Dwq(l:List Dig)(f:Bool)(j:l.length<=1000000000):PS cfg G 171 [.fz (l.map dW) 32 f] (.fz (l.map dW) 32 false):=by
 have e:(l.map dW).length=l.length:=Ze _;have k:∀l:List Dig,acq (l.map dW)=true:=yvq qeq
 refine gI 9 Y (λR q=>?_);first|refine z5q Y Y ?_|refine zhq rfl (qDq Y Y Y Y Y (λd o=>?_))
 refine zeq 2 Y ?_;refine gS 0 Y (λb=>?_) (λb=>?_)
 .cases d with
  |false=>cases b
  |true=>
   obtain rfl:l=[]:=List.map_eq_nil_iff.1 (o rfl);exact zHq 7 Y (ySq (fr2:=[(2,.fz [] 32 false)]) Jr ⟨⟨_,rfl,.nilfz⟩,trivial⟩ Y Y)
 .cases l with
  |nil=>
   skip
   exact zHq 6 Y (gM 0 Y (yLq Y Y (jDq Y Y Y Y Y)) (zbq 4 Y (ySq (fr2:=[(2,.fz [] 32 false)]) Jr ⟨⟨_,rfl,.sl Y Y Y Xj⟩,trivial⟩ Y Y)))
  |cons c l=>
   simp only[Zo] at j e;exact zHq 6 Y (gM 0 Y (yLq Y Y (qxq (news:=(c::l).map dW) (olds:=[]) Y Y Y Y Y Xi (by show(0+((c::l).map dW).length)*32<=_;rw[e];omega) Yk rfl (by show 0<0+(0+((c::l).map dW).length)*32;rw[e];omega) Y Y)) (zbq 4 Y (ySq (fr2:=[(2,.fz ((c::l).map dW) 32 false)]) Jr ⟨⟨_,rfl,.sl rfl (k _) (zqq Xg (ZG _) Qv) Xj⟩,trivial⟩ Y Y)))
theorem cXq(x:Rv)(a:x.x.pr.l.length<=1000000000):PS cfg G 103 [rvW x] (rvW x):=by
 have b:=x.x.pr.hl;exact gI 11 Y (λR c=>gC 0 Y (jOq x.x.pr.l false Xd) (gC 3 Y (Dwq x.x.pr.ds false Xd) (gQa 15 Y)))
end
structure WdOk(cs:Fs)(w:Wd):Prop where
 lk2:2<=w.locks.length
 lkn:w.locks.length<=1000
 csl:cs.length<=1000
 csx:∀x∈cs,x.length<=1000
 rp:w.cl.rp.x.pr.l.length<=1000000000
 trl:w.tr.length<=1000
 trx:∀t∈w.tr,t.frame.length<=1000/\t.rp.x.pr.l.length<=1000000000
theorem AJq{n i:Nat}(a:2<=n):(Nat.beq (0+i*2+0) 0&&Nat.beq 2 (n*2)&&true==true)=false:=by
 have:Nat.beq 2 (n*2)=false:=by
  cases h:Nat.beq 2 (n*2) with
  |false=>rfl
  |true=>have:=Zi h;omega
 rw[this];simp
theorem AKq{L:List Int}{i:Nat}{x:Int}(b:2<=L.length)(h:L[i]? =some x):zGq 50 (.arr ((L.map lkW).length*2) 2 (L.map lkW)) (0+i*2+0) 2 true=some (lkW x):=klq (ziq lkW h) Xd Xd (AJq (by rw[Ze];exact b)) rfl
theorem AIq{L:List Int}{i:Nat}{x:Int}(b:2<=L.length)(h:L[i]? =some x):z7q 50 (.arr ((L.map lkW).length*2) 2 (L.map lkW)) (0+i*2+0) (lkW x)=some (.arr ((L.map lkW).length*2) 2 (L.map lkW)):=by
 rw[v5q (x':=lkW x) (ziq lkW h) Xd Xd (AJq (by rw[Ze];exact b)) rfl,jrq (ziq lkW h)]
theorem wIq{m j b k:Nat}{a:Bool}(d:j<m)(e:k<282)(c:0<k):(Nat.beq (0+j*282+b) 0&&Nat.beq k (m*282)&&a)=false:=by
 have:Nat.beq k (m*282)=false:=by
  cases h:Nat.beq k (m*282) with
  |false=>rfl
  |true=>have:=Zi h;omega
 rw[this];simp
theorem gKq{L:List W}{j off k:Nat}{ag:Bool}{x y:W}(b:L[j]? =some x)(f:off<282)(d:k<282)(e:0<k)(c:zGq 49 x off k ag=some y):zGq 50 (.arr (L.length*282) 282 L) (0+j*282+off) k ag=some y:=
 klq b Xd f (wIq (Zk.1 b).1 d e) c
theorem pkq{L:List W}{j b:Nat}{x y z:W}(c:L[j]? =some x)(g:b<282)(e:y.size<282)(f:0<y.size)(d:z7q 49 x b y=some z):z7q 50 (.arr (L.length*282) 282 L) (0+j*282+b) y=some (.arr (L.length*282) 282 (L.set j z)):=by
 rw[v5q (x':=z) c Xd g (wIq (Zk.1 c).1 e f) d]
theorem cFq{L:List W}{j off:Nat}{x y:W}(b:L[j]? =some x)(e:off<282)(f:y.size<282)(d:0<y.size)(c:z7q 49 x off y=some x):z7q 50 (.arr (L.length*282) 282 L) (0+j*282+off) y=some (.arr (L.length*282) 282 L):=by rw[pkq b e f d c,jrq b]
section
variable {cs:Fs} {c:Cl}
theorem mpq(v:Option Vw):Nat.beq (vwO v).size 6=true:=by cases v<;>rfl
theorem DCq:zGq 50 (clW cs c) 137 6 true=some (vwO c.vw):=by obtain⟨a,b,d,v,x⟩:=c;cases v<;>rfl
theorem DDq:zGq 50 (clW cs c) 143 240 true=some (rvW c.rp):=by obtain⟨a,b,d,v,x⟩:=c;cases v<;>rfl
theorem DAq:z7q 50 (clW cs c) 137 (vwO c.vw)=some (clW cs c):=by obtain⟨a,b,d,v,x⟩:=c;cases v<;>rfl
theorem DBq:z7q 50 (clW cs c) 143 (rvW c.rp)=some (clW cs c):=by obtain⟨a,b,d,v,x⟩:=c;cases v<;>rfl
end
def wdN(r:Ru)(v:Vw)(P:List Shd)(h:Hb)(n c b a:Nat)(o:Option (List W)):W:=wdR r (.sl c 0 0 n 2 none) v P h (.sl b 0 0 1 383 none) (oW a 282 o)
theorem Y8q(a:Nat->Nat)(r:Ru)(v:Vw)(P:List Shd)(h:Hb)(n d c b:Nat)(o:Option (List W)):adq a (wdN r v P h n d c b o)=wdN r v P h n (a d) (a c) (a b) o:=by
 unfold wdN wdR;simp only[adq,yVq,zdq (jHq r),zdq (kbq v),zdq (jwq P),zdq (xeq h),zdq x1q,fFq]
theorem gBq{m:Nat}{r:Ru}{v:Vw}{P:List Shd}{h:Hb}{n b1 b2 b3:Nat}{o:Option (List W)}(a:b1<m)(b:b2<m)(c:b3<m):agq m (wdN r v P h n b1 b2 b3 o)=true:=by
 unfold wdN wdR;simp only[agq,asq,zaq (jHq r),zaq (kbq v),zaq (jwq P),zaq (xeq h),zaq x1q,m1q c];simp[a,b]
section
variable {r:Ru} {v:Vw} {P:List Shd} {h:Hb} {b c n m q:Nat} {k:Option Nat} {o:Option (List W)} {l:List W} {x:W}
theorem wyq:zGq 50 (wdR r (.sl b 0 0 n 2 none) v P h (.sl c 0 0 m 383 none) (oW q 282 o)) 157 1 false=some (oW q 282 o):=by cases o<;>rfl
theorem CEq:zGq 50 (wdR r (.sl b 0 0 n 2 none) v P h (.fz [x] 383 false) (tlW l)) 157 1 false=some (tlW l):=by cases l<;>rfl
theorem Czq:z7q 50 (wdR r (.sl b 0 0 n 2 none) v P h (.sl c 0 0 m 383 none) (tlW l)) 157 (oW q 282 o)=some (wdR r (.sl b 0 0 n 2 none) v P h (.sl c 0 0 m 383 none) (oW q 282 o)):=by cases l<;>cases o<;>rfl
theorem Atq:Nat.beq (oW q 282 o).size 1=true:=by cases o<;>rfl
end
set_option maxHeartbeats 1000000 in
theorem wpq{G:Nat->Option W}(r:Ru)(v:Vw)(s:Fs)(w:Wd)(ok:WdOk s w)(hv:PS cfg G 63 [vwG v] (vwG v))(Q:PS cfg G 64 [plW w.pool] (plW w.pool))(Z:PS cfg G 65 [hbW w.hub] (hbW w.hub))(O:PS cfg G 63 [vwO w.cl.vw] (vwO w.cl.vw)):zUq cfg G 47 0 [wdW r v s w] [] λu S nw=>u=wdN r v w.pool w.hub (w.locks.map lkW).length 1 2 3 (euq (w.tr.map trW))/\S=[(0,58,wdN r v w.pool w.hub (w.locks.map lkW).length 1 2 3 (euq (w.tr.map trW))),(1,144,.arr ((w.locks.map lkW).length*2) 2 (w.locks.map lkW)),(2,96,clW s w.cl)]++oH 3 87 282 (euq (w.tr.map trW))/\nw=4:=by
 have ⟨D,hn,hcl,hcx,hrp,htl,htx⟩:=ok;have J:=uvq w.locks;have V:(w.locks.map lkW).length=w.locks.length:=Ze _;have B:=dHq s w.cl;have A:aaq (.arr ((w.locks.map lkW).length*2) 2 (w.locks.map lkW))=true:=J;have U:=qBq w.tr;have eT:(w.tr.map trW).length=w.tr.length:=Ze _;intro R;refine gIs 10 Y (λk0=>?_);skip
 refine gSf 0 Y (uiq Y Y Y Y Y (by simp[acq,aaq,J]) (AHq _ J Xd Xd) ?_);rintro w1 F H ⟨rfl,rfl,rfl⟩;rw[zZq (show aaq (.arr _ 2 _)=true from J)];refine⟨by first|rfl|kernel_rfl,?_⟩;skip
 refine gC 2 Y (hv) (gC 2 Y (Q) (gC 2 Y (Z) (gZ 15 Y V ?_)));refine gLo (α:=Nat) 4 (λi=>i<=w.locks.length) (λi=>[(28,.int .i64 (i:Int))]) [1,2,27] (λi=>w.locks.length-i) (0) rfl (Zf _) (λi hI=>?_);refine gS 6 Y (λM=>?_) (λM=>?_)
 .have K:i<w.locks.length:=by omega
  obtain⟨x,z⟩:∃x,w.locks[i]? =some x:=⟨_,Za K⟩
  exact gP 17 Y (ypq (i:=i) Y Y Y Y Y Y Y (by rw[V];exact K)) (gM 0 Y (zwq Y Y Y (AKq D z)) (gC 0 Y (AEq x) (gP 0 Y (ypq (i:=i) Y Y Y Y Y Y Y (by rw[V];exact K)) (gM 0 Y (kdq Y Y Y Y Y (AIq D z)) (gA 4 Y (i+1) (gAg 2 Y (i+1) (K) Xd))))))
 .refine gO 2 Y (zbq 6 Y ?_);skip
  refine gSf 0 Y (d4q (b:=3) (ty:=96) (w1:=.arr 383 383 [clW s w.cl]) (w2:=clW s w.cl) (λΓ u q=>(bqq Y Y).1 q) (uiq Y Y Y Y Y (by show(aaq (clW s w.cl)&&true&&true)=true;rw[B];rfl) (BGq [clW s w.cl] (by show(aaq (clW s w.cl)&&true)=true;rw[B];rfl) Xi (by show 1<=_;omega)) ?_));rintro w1 F H ⟨rfl,rfl,rfl⟩;rw[zZq (show aaq (.arr ([clW s w.cl].length*383) 383 [clW s w.cl])=true by show(aaq (clW s w.cl)&&true)=true;rw[B];rfl)];refine⟨rfl,?_⟩;refine⟨by first|rfl|kernel_rfl,?_⟩;skip
  refine jLq Y Y (viq rfl (zwq Y Y Y CEq) Xq ?_)
  (refine yeq rfl (yXq (uiq Y Y Y Y Y (by show(aaq (tlW _)&&true)=true;rw[gRq U];rfl) (wHq _ U Xd) ?_));rintro w1 F H ⟨rfl,rfl,rfl⟩;generalize ho:euq (w.tr.map trW)=o;have I:acq (o.getD [])=true:=(by rw[<-ho,jJq];exact U);rw[fFq,uoq _ _ _ _ I];refine⟨_,kqq (X:=[]) (n:=4) (xXq (l:=[3,2,1,0]) rfl Xg) Xi (λp S=>by rw[qNq p S];simp[afq]),q0q (ycq (l:=[3,2,1,0]) rfl Xg) (show [3,2,1,0].Nodup by decide),?_⟩;refine⟨by kernel_rfl,?_⟩)
  refine zWq 3 Y (gM 0 Y (qmq Y Y Y Y Atq Czq rfl) (gL 7 Y ?_));refine gLo (α:=Nat) 4 (λj=>j<=1) (λj=>[(53,.int .i64 (j:Int))]) [1,2,52] (λj=>1-j) (0) rfl (Zf _) (λj hI=>?_);refine gS 6 Y (λD=>?_) (λD=>?_)
  .obtain rfl:j=0:=by simp only[Zo,ZP] at D;omega
   exact gP 15 Y (ypq (i:=0) Y Y Y Y Y Y Y Xi) (gC 11 Y (ePq s false Xd (λx z=>by have:=hcx x z;omega)) (gM 3 Y (zwq Y Y Y DCq) (gC 0 Y (O) (gM 3 Y (zwq Y Y Y DDq) (gC 0 Y (cXq w.cl.rp hrp) (gM 2 Y (kdq Y Y Y Y Y (show z7q 50 (clW s w.cl) 0 (flW s)=some (clW s w.cl) from rfl)) (gM 2 Y (kdq Y Y Y Y (mpq _) DAq) (gM 2 Y (kdq Y Y Y Y Y DBq) (gA 4 Y (1) (gAg 2 Y (1) (Zb _) Xd))))))))))
  .obtain rfl:j=1:=by simp only[Zo,ZP] at D;omega
   refine gO 2 Y (gC 17 Y (Eiq) (gC 4 Y (Eiq) (gC 4 Y (cl0p) (gC 15 Y (DEq) (gC 2 Y (DEq) (gM 10 Y (zwq Y Y Y wyq) ?_))))));refine gP 0 Y ((show _=some (W.int .i64 (((o.getD []).length:Nat):Int)) from by cases o<;>rfl)) ?_;refine gLo (α:=Nat) 4 (λq=>q<=(o.getD []).length) (λq=>[(121,.int .i64 (q:Int))]) [1,2,120] (λq=>(o.getD []).length-q) (0) rfl (Zf _) (λq hI=>?_);have hL:o.getD []=w.tr.map trW:=by rw[<-ho,jJq]
   refine gS 6 Y (λh3=>?_) (λh3=>?_)
   .have hq:q<(o.getD []).length:=by omega
    obtain⟨L,rfl⟩:∃L,o=some L:=by
     cases o with
     |none=>exact absurd hq Xi
     |some L=>exact⟨L,rfl⟩
    obtain rfl:L=w.tr.map trW:=hL;have C:q<(w.tr.map trW).length:=hq;obtain⟨t,ht⟩:∃t,w.tr[q]? =some t:=⟨_,Za (by rw[eT] at C;exact C)⟩
    have z:=ziq trW ht;obtain⟨f1,f2⟩:=htx t (Zj ht);exact gM 13 Y (zwq Y Y Y wyq) (gP 1 Y (ypq (i:=q) Y Y Y Y Y Y Y C) (gM 10 Y (zwq Y Y Y (gKq z Xg Xg Xg rfl)) (gC 0 Y (jOq t.frame false Xd) (gM 3 Y (zwq Y Y Y (gKq z Xg Xg Xg rfl)) (gC 0 Y (cXq t.rp f2) (gM 4 Y (zwq Y Y Y (gKq (off:=245) (k:=1) (ag:=false) z Xg Xg Xg rfl)) (gC 0 Y (jOq [] false Xi) (gM 2 Y (kdq Y Y Y Y Y (cFq z Xg (by show 1<282;decide) (by show 0<1;decide) rfl)) (gM 2 Y (kdq Y Y Y Y Y (cFq z Xg (by show 240<282;decide) (by show 0<240;decide) rfl)) (gM 3 Y (kdq Y Y Y Y Y (cFq (off:=245) z Xg Xg Xg rfl)) (gA 4 Y (q+1) (gAg 2 Y (q+1) (hq) Xd))))))))))))
   .refine gO 2 Y (zbq 9 Y ?_);have M:=gBq (m:=4) (r:=r) (v:=v) (P:=w.pool) (h:=w.hub) (n:=(w.locks.map lkW).length) (b1:=1) (b2:=2) (b3:=3) (o:=o) Xg Xg Xg;cases o with
    |none=>
     exact fin Jr (QXq (λb=>if b=3 then 0 else b+1) (m:=0) (nw2:=4) (fr2:=[(2,.ptr 0 0)]) (hp2:=[(0,58,wdN r v w.pool w.hub (w.locks.map lkW).length 1 2 3 none),(1,144,.arr ((w.locks.map lkW).length*2) 2 (w.locks.map lkW)),(2,96,clW s w.cl)]) Xg (λb T=>by omega) (λb T=>by show(if b=3 then 0 else b+1)<4;split<;>omega) (λ_ _ _=>Zf _) (uWq ⟨⟨rfl,rfl⟩,trivial⟩) (j1q ⟨⟨by decide,by rw[Y8q];rfl,M⟩,⟨by decide,by rw[zdq A];rfl,zaq A⟩,⟨by decide,by rw[zdq B];rfl,zaq B⟩,trivial⟩) (λb c x y _ _ e=>by have e:(if b=3 then 0 else b+1)=if c=3 then 0 else c+1:=e;split at e<;>split at e<;>omega) Xi) rfl ⟨rfl,rfl,rfl,rfl⟩
    |some L=>
     have E:aaq (.arr (L.length*282) 282 L)=true:=I;exact fin Jr (QXq (λb=>b+1) (m:=0) (nw2:=4) (fr2:=[(2,.ptr 0 0)]) (hp2:=[(0,58,wdN r v w.pool w.hub (w.locks.map lkW).length 1 2 3 (some L)),(1,144,.arr ((w.locks.map lkW).length*2) 2 (w.locks.map lkW)),(2,96,clW s w.cl),(3,87,.arr (L.length*282) 282 L)]) Xg (λb T=>by omega) (λb T=>by show b+1<5;omega) (λ_ _ _=>Zf _) (uWq ⟨⟨rfl,rfl⟩,trivial⟩) (j1q ⟨⟨by decide,by rw[Y8q];rfl,M⟩,⟨by decide,by rw[zdq A];rfl,zaq A⟩,⟨by decide,by rw[zdq B];rfl,zaq B⟩,⟨by decide,by rw[zdq E];rfl,zaq E⟩,trivial⟩) (λb c x y _ _ e=>by simpa using e) Xi) rfl ⟨rfl,rfl,rfl,rfl⟩
end
section
def wuW(r:Ru)(v:Vw)(P:List Shd)(h:Hb)(n d c b:Nat)(o:Option (List W)):W:=.agg 159 [wdN r v P h n d c b o,.int .i64 0]
theorem Y7q(a:Nat->Nat)(r:Ru)(v:Vw)(P:List Shd)(h:Hb)(n d c b:Nat)(o:Option (List W)):adq a (wuW r v P h n d c b o)=wuW r v P h n (a d) (a c) (a b) o:=by
 show W.agg 159 [adq a (wdN r v P h n d c b o),_]=_;rw[Y8q];rfl
theorem qzq{m:Nat}{r:Ru}{v:Vw}{P:List Shd}{h:Hb}{n c b a:Nat}{o:Option (List W)}(d:c<m)(e:b<m)(f:a<m):agq m (wuW r v P h n c b a o)=true:=by
 show(agq m (wdN r v P h n c b a o)&&(true&&true))=true;rw[gBq d e f];rfl
def meq(L:List Int):W:=.arr ((L.map lkW).length*2) 2 (L.map lkW)
theorem yoq(L:List Int):aaq (meq L)=true:=uvq L
def hN3(d b a c:Nat)(r:Ru)(v:Vw)(P:List Shd)(h:Hb)(L:List Int)(C:W)(o:Option (List W)):HpW:=[(d,149,wuW r v P h (L.map lkW).length b a c o),(b,144,meq L),(a,96,C)]
def hN(d c b a:Nat)(r:Ru)(v:Vw)(P:List Shd)(h:Hb)(L:List Int)(C:W)(o:Option (List W)):HpW:=hN3 d c b a r v P h L C o++oH a 87 282 o
theorem g0q{G:Nat->Option W}{R:Res}{op:Oper}{fr:FrW}{I:HpW}{H:Nat}{K:W->HpW->Nat->Res->Option EvW->Prop}{x:Operand}{xs:Array Operand}{ats:Array TypeId}{F:FuncId}{us:List W}{ans:W}{b0 b1 b2 b3:Nat}{r:Ru}{v:Vw}{P:List Shd}{h:Hb}{L:List Int}{C:W}{o:Option (List W)}{c D m':Nat}{A:List Shd->Hb->List Int->W->Option (List W) ->Prop}
  (ho:op.op= .call ⟨.value x,xs,ats⟩) (hx:evW cfg G fr x=some (.fn F [] [])) (he:cfg.ext F=none) (hxs:avq cfg G fr xs.toList=some (.ptr b0 0::us)) (hus:acq us=true)
  (sp:zUq cfg G F 4 (.ptr 0 0::us) (hN 0 1 2 3 r v P h L C o) λw I H=>w=ans/\(∃P' E L' C' B,A P' E L' C' B/\I=hN 0 1 2 c r v P' E L' C' B)/\H=m')
  (hcN:D=b3\/D=H) (Q:afq [b0,b1,b2,b3] H c=D) (hC:aaq C=true) (hpo:acq (o.getD [])=true) (hpA:∀P' E L' C' B,A P' E L' C' B->aaq C'=true/\acq (B.getD [])=true)
  (g0:hget I b0=some (149,wuW r v P h (L.map lkW).length b1 b2 b3 o)) (g1:hget I b1=some (144,meq L)) (g2:hget I b2=some (96,C)) (g3:oIn I b3 87 282 o)
  (O:[b0,b1,b2,b3].Nodup) (J:∀b∈[b0,b1,b2,b3],b<H)
  (Z:HpW) (hZ:∀k y,hget Z k=some y->(∀b∈[b0,b1,b2,b3],k≠b)/\hget I k=some y) (X:∀q∈Z,q.1<H/\∀b∈[b0,b1,b2,b3],q.1≠b) (hZd:(Z.map (·.1)).Nodup)
  (k:∀P' E L' C' B,A P' E L' C' B->K (adq (afq [b0,b1,b2,b3] H) ans) ((hN3 b0 b1 b2 D r v P' E L' C' B++Z)++oH D 87 282 B) (H+(m'-4)) R (some .dirty)):aeq cfg G op fr I H R K:=by
 have Y:yVq (afq [b0,b1,b2,b3] H) us=us:=xoq hus;have V:asq 4 us=true:=zaq (w:=.tup us) hus;refine yXq (zDq (ext:=[b0,b1,b2,b3]) (ws:=.ptr 0 0::us) (hp0:=hN 0 1 2 3 r v P h L C o) ho hx he hxs (by rw[yVq,Y,ZT];rfl) sp O J (by cases o<;>simp[hN,hN3,oH]) (jjq ⟨⟨by simp,qzq Xi Xi Xi,b0,rfl,by rw[Y7q];exact g0⟩,⟨by simp,zaq (yoq L),b1,rfl,by rw[zdq (yoq L)];exact g1⟩,⟨by simp,zaq hC,b2,rfl,by rw[zdq hC];exact g2⟩,Djq rfl hpo g3⟩) (by show(true&&asq 4 us)=true;rw[V];rfl) ?_);rintro w hp1 nw1 ⟨rfl,⟨P',E,L',C',B,hA,rfl⟩,rfl⟩;obtain⟨hC',T⟩:=hpA _ _ _ _ _ hA
 have eH:ahq (afq [b0,b1,b2,b3] H) (hN 0 1 2 c r v P' E L' C' B)=hN3 b0 b1 b2 D r v P' E L' C' B++oH D 87 282 B:=by
  unfold hN;rw[upq,uoq _ _ _ _ T,Q];unfold hN3;rw[ahq,ahq,zZq hC',Y7q,zdq (yoq L'),Q];rfl
 rw[eH]
 have S:∀q∈Z,q.1≠D:=λq M=>by
  have:=X q M;rcases hcN with e|e
  .rw[e];exact this.2 b3 Xi
  .rw[e];omega
 refine⟨_,λi y hi=>?_,?_,k _ _ _ _ _ hA⟩
 .have j:hget ((hN3 b0 b1 b2 D r v P' E L' C' B++Z)++oH D 87 282 B) i=some y:=hi;rw[qoq,qoq] at j;rw[qoq,qoq];cases h1:hget (hN3 b0 b1 b2 D r v P' E L' C' B) i with
  |some z=>rw[h1] at j;exact j
  |none=>
   rw[h1] at j;cases U:hget Z i with
   |some z=>
    rw[U] at j;obtain⟨z1,z2⟩:=hZ i z U
    have z3:i≠D:=λq=>by
     rw[q,yPq λp I=>S p I] at U;cases U
    rw[yPq (λq M=>by rw[qNq q M];exact z3.symm),Xgq (λb hb=>(z1 b hb).symm),z2];exact j
   |none=>
    rw[U] at j;have j:hget (oH D 87 282 B) i=some y:=j;rw[j];rfl
 .simp only[Y1,ZB,ZW,or_false,not_or] at O;have q0:=J b0 Xi;have q1:=J b1 Xi;have q2:=J b2 Xi;refine q0q (λq M=>?_) ?_
  .rcases ZO.1 M with h|h
   .simp only[hN3,ZB,ZW,or_false] at h;rcases h with rfl|rfl|rfl
    .show b0≠D;omega
    .show b1≠D;omega
    .show b2≠D;omega
   .exact S q h
  .rw[Z4];refine List.nodup_append.2 ⟨?_,hZd,λa ha b hb e=>?_⟩
   .simp[hN3,O]
   .obtain⟨q,M,rfl⟩:=Z2.1 hb;simp only[hN3,ZD,List.map_nil,ZB,ZW,or_false] at ha;rcases ha with q1|q1|q1<;>exact(X q M).2 _ Xi (e.symm.trans q1)
theorem q4q{G:Nat->Option W}{R:Res}{op:Oper}{fr:FrW}{m:HpW}{j:Nat}{z:W->HpW->Nat->Res->Option EvW->Prop}{x:Operand}{xs:Array Operand}{K:Array TypeId}{F:FuncId}{us:List W}{H:W}{b0 b1 b2 b3:Nat}{r:Ru}{v:Vw}{P P':List Shd}{h I:Hb}{L L':List Int}{C C':W}{o B:Option (List W)}{c E m':Nat}
  (ho:op.op= .call ⟨.value x,xs,K⟩) (hx:evW cfg G fr x=some (.fn F [] [])) (he:cfg.ext F=none) (hxs:avq cfg G fr xs.toList=some (.ptr b0 0::us)) (hus:acq us=true)
  (sp:zUq cfg G F 4 (.ptr 0 0::us) (hN 0 1 2 3 r v P h L C o) λw m j=>w=H/\m=hN 0 1 2 c r v P' I L' C' B/\j=m')
  (O:E=b3\/E=j) (M:afq [b0,b1,b2,b3] j c=E) (hC:aaq C=true) (J:aaq C'=true) (V:acq (o.getD [])=true) (D:acq (B.getD [])=true)
  (g0:hget m b0=some (149,wuW r v P h (L.map lkW).length b1 b2 b3 o)) (g1:hget m b1=some (144,meq L)) (g2:hget m b2=some (96,C)) (g3:oIn m b3 87 282 o)
  (Q:[b0,b1,b2,b3].Nodup) (hlt:∀b∈[b0,b1,b2,b3],b<j)
  (Z:HpW) (hZ:∀k y,hget Z k=some y->(∀b∈[b0,b1,b2,b3],k≠b)/\hget m k=some y) (T:∀q∈Z,q.1<j/\∀b∈[b0,b1,b2,b3],q.1≠b) (hZd:(Z.map (·.1)).Nodup)
  (k:z (adq (afq [b0,b1,b2,b3] j) H) ((hN3 b0 b1 b2 E r v P' I L' C' B++Z)++oH E 87 282 B) (j+(m'-4)) R (some .dirty)):aeq cfg G op fr m j R z:=
 g0q (A:=λP2 Y L2 C2 o2=>P2=P'/\Y=I/\L2=L'/\C2=C'/\o2=B) ho hx he hxs hus (λR Γ X vs h1 s hv=>by
  obtain⟨n,v,Γ',X',w',S,R',a1,a2,a3,a4,a5,a6,a7,a8⟩:=sp R Γ X vs h1 s hv;exact⟨n,v,Γ',X',w',S,R',a1,a2,a3,a4,a5,a6,⟨P',I,L',C',B,⟨rfl,rfl,rfl,rfl,rfl⟩,a7⟩,a8⟩) O M hC V (λP2 Y L2 C2 o2 U=>by obtain⟨rfl,rfl,rfl,rfl,rfl⟩:=U;exact⟨J,D⟩) g0 g1 g2 g3 Q hlt Z hZ T hZd (λP2 Y L2 C2 o2 U=>by obtain⟨rfl,rfl,rfl,rfl,rfl⟩:=U;exact k)
attribute [local irreducible] CoW OpW FlW aeq ajq
section
variable {G:Nat->Option W} {r:Ru} {v:Vw} {P:List Shd} {h:Hb} {L:List Int} {C:W} {o:Option (List W)}
theorem gkq(c:aaq C=true)(a:acq (o.getD [])=true):zUq cfg G 55 4 [.ptr 0 0] (hN 0 1 2 3 r v P h L C o) λw d b=>w= .ptr 2 0/\d=hN 0 1 2 3 r v P h L C o/\b=4:=by
 intro R;refine gIs 16 Y (λe=>?_);exact gP 0 Y (ypq (i:=0) Y Y Y Y Y Y Y Xg) (zbq 4 Y (fin Jr (zvq (nw2:=4) (fr2:=[(2,.ptr 2 0)]) (hp2:=hN 0 1 2 3 r v P h L C o) Xg Xg ⟨rfl,trivial⟩ rfl (zoq (YHq ⟨⟨by decide,rfl,qzq Xg Xg Xg⟩,⟨by decide,rfl,zaq (yoq L)⟩,⟨by decide,rfl,zaq c⟩,trivial⟩ (bhq Xg a (qhq (ycq (l:=[0,1,2]) rfl Xg))))) (q0q (ycq (l:=[0,1,2]) rfl Xg) (by simp[hN3]))) rfl ⟨rfl,rfl,rfl,rfl⟩))
/-- the same, by one who only looks -/
theorem ioq(b:aaq C=true)(K:List W)(T:W):PS cfg G 55 [.fel (.agg 159 [wdR r (.fz K 2 false) v P h (.fz [C] 383 false) T,.int .i64 0])] (.fel C):=by
 exact gI 16 Y (λR c=>gP 0 Y (zyq (i:=0) Y Y Y Y Y Y Y Y) (gQa 4 Y))
end
end
section
attribute [local irreducible] CoW OpW FlW aeq ajq
def mvR:W:=.agg 38 [.int .u8 0,.nils,.agg 35 [.int .u8 0,z32,.int .u64 0,.int .i64 0],.int .i64 0]
def trR(k:Int)(i:Int)(f:W)(r:W):W:=.agg 282 [.int .u8 k,.int .i64 0,.int .i64 i,f,r,mvR]
def rpR:W:=rvR 0 0 0 dhq
theorem jdq:aaq rpR=true:=qgq rfl
theorem sJq:aaq mvR=true:=by decide+kernel
theorem ugq{k i:Int}{f r:W}(b:aaq f=true)(a:aaq r=true):aaq (trR k i f r)=true:=by
 show(true&&(true&&(true&&(aaq f&&(aaq r&&(aaq mvR&&true))))))=true;rw[b,a,sJq];rfl
section
variable {G:Nat->Option W} {r:Ru} {v:Vw} {P:List Shd} {h:Hb} {L:List Int} {C:W} {o:Option (List W)}
theorem woq{n c b a:Nat}:zGq 50 (wuW r v P h n c b a o) 157 1 false=some (oW a 282 o):=by cases o<;>rfl
theorem gtq{b:HpW}(m:aaq C=true)(d:acq (o.getD [])=true)(k:amq b 0=some (wuW r v P h (L.map lkW).length 1 2 3 o))(j:amq b 1=some (meq L))(w:amq b 2=some C)(x:oIn b 3 87 282 o)(q:ymq 50 C 0 1 383=some [C]):View (amq b) (.ptr 0 0) (.fel (.agg 159 [wdR r (.fz (L.map lkW) 2 false) v P h (.fz [C] 383 false) (.fz (o.getD []) 282 false),.int .i64 0])):=
 .ptr2 (n:=159) (ag:=true) k (.agg (.cons (.agg (.cons (.pur (jHq r)) (.cons (.sl j (yoq L) (zqq Xg Y Y) Xj) (.cons (.pur (kbq v)) (.cons (.pur (jwq P)) (.cons (.pur (xeq h)) (.cons (.sl w m q Xj) (.cons (.pur x1q) (vR (vR (.cons (Qbq Xg d x) .nil))))))))))) (.cons (.pur rfl) .nil))) rfl
theorem Qcq(k i:Int)(j:aaq C=true)(E:ymq 50 C 0 1 383=some [C])(F:zGq 50 C 1 1 false=some (.int .i64 i))(d:acq (o.getD [])=true)(q:(o.getD []).length<=1000):zUq cfg G 104 4 [.ptr 0 0,.int .u8 k] (hN 0 1 2 3 r v P h L C o) λw J I=>w= .tup []/\J=hN 0 1 2 4 r v P h L C (some (o.getD []++[trR k i .nils rpR]))/\I=5:=by
 have x:acq (o.getD []++[trR k i .nils rpR])=true:=by
  rw[qsq,d];show(true&&(aaq (trR k i .nils rpR)&&true))=true;rw[ugq rfl jdq];rfl
 have A:acq [W.fel (.agg 159 [wdR r (.fz (L.map lkW) 2 false) v P h (.fz [C] 383 false) (.fz (o.getD []) 282 false),.int .i64 0])]=true:=by
  show((aaq (wdR r (.fz (L.map lkW) 2 false) v P h (.fz [C] 383 false) (.fz (o.getD []) 282 false))&&true)&&true)=true;rw[cwq r (L:=.fz (L.map lkW) 2 false) (C:=.fz [C] 383 false) (T:=.fz (o.getD []) 282 false) v P h (uvq L) (by show(aaq C&&true)=true;rw[j];rfl) d];rfl
 have B:aaq (.arr ((o.getD []++[trR k i .nils rpR]).length*282) 282 (o.getD []++[trR k i .nils rpR]))=true:=x;intro R;cases o with
 |none=>
  refine gIs 6 Y (λH=>?_);refine gM 0 Y (zwq Y Y Y woq) (zbq 6 Y ?_)
  (refine yeq rfl (YKq (uXq Y Y Y Y (.cons (gtq j d Y Y Y (λl q=>by cases q) E) .nil) (ioq j _ _) A) (q4q Y Y Y Y Y (gkq j d) (.inl rfl) rfl j j d d Y Y Y (λl q=>by cases q) Xg Xg [] (λk y D=>by simp[hget] at D) Xi Xi ?_));refine⟨by kernel_rfl,?_⟩)
  exact w3q 2 Y (gM 0 Y (zwq Y Y Y F) (gM 2 Y (yLq Y Y (gcq (o:=none) (b:=3) (ty:=87) (news:=[trR k i .nils rpR]) (k:=B8q) Y Y Y Y Y (j3q Y Y Y Y) Xi (by show(_+1)*528<=_;omega) (by show _+1<=_;omega) (λl q=>by cases q))) (zbq 5 Y (fin (.inl rfl) (yiq (b:=4) (k:=5) (fr2:=[]) (hp2:=hN 0 1 2 4 r v P h L C (some ([]++[trR k i .nils rpR]))) Xg Xg Xg trivial ⟨⟨by decide,by rw[Y7q];rfl,qzq Xg Xg Xg⟩,⟨by decide,by rw[zdq (yoq L)];rfl,zaq (yoq L)⟩,⟨by decide,by rw[zdq j];rfl,zaq j⟩,⟨by decide,(Zc (λw=>some ((87:TypeId),w)) (zdq B)).symm,zaq B⟩,trivial⟩ Yf) rfl ⟨rfl,rfl,rfl,rfl⟩))))
 |some l=>
  refine gIs 6 Y (λH=>?_);refine gM 0 Y (zwq Y Y Y woq) (zbq 6 Y ?_)
  (refine yeq rfl (YKq (uXq Y Y Y Y (.cons (gtq j d Y Y Y (λl q=>by cases q;rfl) E) .nil) (ioq j _ _) A) (q4q Y Y Y Y Y (gkq j d) (.inl rfl) rfl j j d d Y Y Y (λl q=>by cases q;rfl) Xg Xg [] (λk y D=>by simp[hget] at D) Xi Xi ?_));refine⟨by kernel_rfl,?_⟩)
  exact w3q 2 Y (gM 0 Y (zwq Y Y Y F) (gM 2 Y (yLq Y Y (gcq (o:=some l) (b:=3) (ty:=87) (news:=[trR k i .nils rpR]) (k:=B8q) Y Y Y Y Y (j3q Y Y Y Y) Xi (by show(_+1)*528<=_;omega) (by show _+1<=_;omega) (λl q=>by cases q;rfl))) (zbq 5 Y (fin (.inl rfl) (yiq (b:=4) (k:=5) (fr2:=[]) (hp2:=hN 0 1 2 4 r v P h L C (some (l++[trR k i .nils rpR]))) Xg Xg Xg trivial ⟨⟨by decide,by rw[Y7q];rfl,qzq Xg Xg Xg⟩,⟨by decide,by rw[zdq (yoq L)];rfl,zaq (yoq L)⟩,⟨by decide,by rw[zdq j];rfl,zaq j⟩,⟨by decide,(Zc (λw=>some ((87:TypeId),w)) (zdq B)).symm,zaq B⟩,trivial⟩ Yf) rfl ⟨rfl,rfl,rfl,rfl⟩))))
end
def clX(a:Fs)(k p:Nat)(q:Aq)(u:Option Vw)(x:W):W:=clR a (.int .i64 (k:Int)) (.int .u8 (p:Int)) (aqW q) (vwO u) x
theorem yTq{a:Fs}{k p:Nat}{q:Aq}{u:Option Vw}{x:W}(h:aaq x=true):aaq (clX a k p q u x)=true:=by
 show(aaq (flW a)&&(true&&(true&&(aaq (aqW q)&&(aaq (vwO u)&&(aaq x&&true))))))=true;rw[kgq,zLq,gEq,h];rfl
section
variable {G:Nat->Option W} {r:Ru} {v:Vw} {P:List Shd} {h:Hb} {L:List Int} {C:W} {o:Option (List W)} {cs:Fs} {k p:Nat} {q:Aq} {x:Rv}
theorem wtq(f:aaq C=true)(b:acq (o.getD [])=true)(a:Hb):zUq cfg G 106 4 [.ptr 0 0,hbW a,.int .i64 0] (hN 0 1 2 3 r v P h L C o) λw j c=>w= .tup []/\j=hN 0 1 2 3 r v P a L C o/\c=4:=by
 intro R;refine gIs 8 Y (λm=>?_);exact gT 0 Y (eqI_iff.2 (rfl)) (zbq 11 Y (fin (.inl rfl) (zvq (nw2:=4) (fr2:=[]) (hp2:=hN 0 1 2 3 r v P a L C o) Xg Xg trivial rfl (zoq (YHq ⟨⟨by decide,rfl,qzq Xg Xg Xg⟩,⟨by decide,rfl,zaq (yoq L)⟩,⟨by decide,rfl,zaq f⟩,trivial⟩ (bhq Xg b (daq (z:=(149,wuW r v P a (L.map lkW).length 1 2 3 o)) (d:=0) Xg rfl (zSq Xg (qhq (ycq (l:=[0,1,2]) rfl Xg))))))) (q0q (ycq (l:=[0,1,2]) rfl Xg) (by simp[hN3]))) rfl ⟨rfl,rfl,rfl,rfl⟩))
theorem wuq(b:aaq C=true)(a:acq (o.getD [])=true)(e:Int)(f:e≠0):zUq cfg G 106 4 [.ptr 0 0,hb0,.int .i64 e] (hN 0 1 2 3 r v P h L C o) λw d c=>w= .tup []/\d=hN 0 1 2 3 r v P h L C o/\c=4:=by
 intro R;refine gIs 8 Y (λg=>?_);exact gF 0 Y (eqI_not.2 (f)) (zbq 4 Y (fin (.inl rfl) (zvq (nw2:=4) (fr2:=[]) (hp2:=hN 0 1 2 3 r v P h L C o) Xg Xg trivial rfl (zoq (YHq ⟨⟨by decide,rfl,qzq Xg Xg Xg⟩,⟨by decide,rfl,zaq (yoq L)⟩,⟨by decide,rfl,zaq b⟩,trivial⟩ (bhq Xg a (zSq Xg (qhq (ycq (l:=[0,1,2]) rfl Xg)))))) (q0q (ycq (l:=[0,1,2]) rfl Xg) (by simp[hN3]))) rfl ⟨rfl,rfl,rfl,rfl⟩))
theorem gyq(f:aaq C=true)(d:acq (o.getD [])=true)(b:Option Hb)(e:Int)(k:t5q b e):zUq cfg G 106 4 [.ptr 0 0,hbr b,.int .i64 e] (hN 0 1 2 3 r v P h L C o) λw l j=>w= .tup []/\l=hN 0 1 2 3 r v P (b.getD h) L C o/\j=4:=by
 rcases k with ⟨g,rfl,_,rfl⟩|⟨rfl,he⟩
 .exact wtq f d g
 .exact wuq f d e he
theorem Yqq(cs:Fs)(k p:Nat)(q:Aq)(u:Option Vw)(x:W):ymq 50 (clX cs k p q u x) 0 1 383=some [clX cs k p q u x]:=rfl
theorem xEq{l:List W}{k i:Int}{f z:W}(a:acq l=true)(c:aaq f=true)(b:aaq z=true):acq (l++[trR k i f z])=true:=by
 rw[qsq,a];show(true&&(aaq (trR k i f z)&&true))=true;rw[ugq c b];rfl
theorem pIq(B:PS cfg G 63 [vwG v] (vwG v))(b:acq (o.getD [])=true)(A:(o.getD []).length<=1000):zUq cfg G 50 4 [.ptr 0 0] (hN 0 1 2 3 r v P h L (clX cs k p q none (rvW x)) o) λw E D=>w= .tup []/\E=hN 0 1 2 4 r v P h L (clX cs k 3 q (some v) (rvW x)) (some (o.getD []++[trR 2 k .nils rpR]))/\D=5:=by
 have c:aaq (clX cs k p q none (rvW x))=true:=yTq (ytq x);have j:aaq (clX cs k 3 q (some v) (rvW x))=true:=yTq (ytq x);have d:=xEq (k:=2) (i:=k) b rfl jdq (f:=.nils);have z:aaq (.arr ((o.getD []++[trR 2 k .nils rpR]).length*282) 282 (o.getD []++[trR 2 k .nils rpR]))=true:=d;intro R;refine gIs 3 Y (λF=>?_)
 (refine zhq rfl (q4q Y Y Y Y Y (gkq c b) (.inl rfl) rfl c c b b Y Y Y (qhq (ycq (l:=[0,1,2]) rfl Xg)) Xg Xg [] (λk y m=>by simp[hget] at m) Xi Xi ?_))
 refine zeq 6 Y ?_
 (refine zhq rfl (q4q Y Y Y Y Y (Qcq 2 k c (Yqq ..) rfl b A) Jr rfl c c b d Y Y Y (qhq (ycq (l:=[0,1,2]) rfl Xg)) Xg Xg [] (λk y m=>by simp[hget] at m) Xi Xi ?_))
 exact zeq 10 Y (gC 0 Y (B) (zbq 7 Y (fin (.inl rfl) (zvq (nw2:=5) (fr2:=[]) (hp2:=hN 0 1 2 4 r v P h L (clX cs k 3 q (some v) (rvW x)) (some (o.getD []++[trR 2 k .nils rpR]))) Xg Xg trivial rfl (zoq ⟨⟨by decide,rfl,qzq Xg Xg Xg⟩,⟨by decide,rfl,zaq (yoq L)⟩,⟨by decide,rfl,zaq j⟩,⟨by decide,rfl,zaq z⟩,trivial⟩) Yf) rfl ⟨rfl,rfl,rfl,rfl⟩)))
end
theorem mVq{a:Type}(l:List a)(x y:a):(l++[x]).set l.length y=l++[y]:=by simp
theorem ctq{r:Ru}{v:Vw}{P:List Shd}{h:Hb}{n d c a:Nat}{l b:List W}(e:l.length=b.length):wuW r v P h n d c a (some l)=wuW r v P h n d c a (some b):=by
 have q:oW a 282 (some l)=oW a 282 (some b):=by show W.sl a 0 0 l.length 282 none=W.sl a 0 0 b.length 282 none;rw[e]
 rw[wuW,wdN,q];rfl
theorem cGq{l:List W}{x y z:W}{b:Nat}(f:b<282)(i:y.size<282)(d:0<y.size)(c:z7q 49 x b y=some z):z7q 50 (.arr ((l++[x]).length*282) 282 (l++[x])) (0+l.length*282+b) y=some (.arr ((l++[z]).length*282) 282 (l++[z])):=by
 rw[pkq (L:=l++[x]) (j:=l.length) (x:=x) (z:=z) Xi f i d c,mVq];simp
section
variable {r:Ru} {v:Vw} {P:List Shd} {h:Hb} {L:List Int} {o:Option (List W)} {cs:Fs} {k:Nat} {q:Aq} {x:Rv} {fr:List UInt8}
theorem oQq(j:cs[k]? =some fr)(J:fr.length<=400)(b:acq (o.getD [])=true)(H:(o.getD []).length<=900)(F:(rdQ fr).2=0):zUq cfg glT 48 4 [.ptr 0 0] (hN 0 1 2 3 r v P h L (clX cs k 0 q none (rvW x)) o) λw D G=>w= .tup []/\D=hN 0 1 2 4 r v P h L (clX cs k 1 (rdQ fr).1 none (rvW x)) (some (o.getD []++[trR 1 k (bW fr) rpR]))/\G=5:=by
 have c:aaq (clX cs k 0 q none (rvW x))=true:=yTq (ytq x);have z:aaq (clX cs k 1 (rdQ fr).1 none (rvW x))=true:=yTq (ytq x);have A:=xEq (k:=1) (i:=k) b rfl jdq (f:=.nils);have B:=xEq (k:=1) (i:=k) b (Jiq fr) jdq;have E:aaq (.arr ((o.getD []++[trR 1 k (bW fr) rpR]).length*282) 282 (o.getD []++[trR 1 k (bW fr) rpR]))=true:=B;have C:(o.getD []++[trR 1 k .nils rpR]).length=(o.getD []).length+1:=by simp
 have m:=Yyq kkq (cYq fr false Xd);have d:z7q 50 (.arr ((o.getD []++[trR 1 k .nils rpR]).length*282) 282 (o.getD []++[trR 1 k .nils rpR])) (0+(o.getD []).length*282+3) (bW fr)=some (.arr ((o.getD []++[trR 1 k (bW fr) rpR]).length*282) 282 (o.getD []++[trR 1 k (bW fr) rpR])):=cGq Xg (by show 1<282;decide) (by show 0<1;decide) rfl;intro R;refine gIs 3 Y (λI=>?_)
 (refine zhq rfl (q4q Y Y Y Y Y (gkq c b) (.inl rfl) rfl c c b b Y Y Y (qhq (ycq (l:=[0,1,2]) rfl Xg)) Xg Xg [] (λk y j=>by simp[hget] at j) Xi Xi ?_))
 refine zeq 6 Y ?_
 (refine zhq rfl (q4q Y Y Y Y Y (Qcq 1 k c (Yqq ..) rfl b Xd) Jr rfl c c b A Y Y Y (qhq (ycq (l:=[0,1,2]) rfl Xg)) Xg Xg [] (λk y j=>by simp[hget] at j) Xi Xi ?_))
 exact zeq 12 Y (gP 0 Y (zyq (i:=k) Y Y Y Y Y Y Y (ziq bW j)) (gZ 16 Y C (gA 0 Y ((o.getD []).length) (gC 1 Y (jOq fr false Xd) (gP 0 Y (ypq (i:=(o.getD []).length) Y Y Y Y Y Y Y (by rw[C];omega)) (gM 1 Y (qmq Y Y Y Y Y d rfl) (gC 5 Y (m) (gF 12 Y (Zc not (eqI_iff.2 (F))) (zbq 16 Y (fin (.inl rfl) (zvq (nw2:=5) (fr2:=[]) (hp2:=hN 0 1 2 4 r v P h L (clX cs k 1 (rdQ fr).1 none (rvW x)) (some (o.getD []++[trR 1 k (bW fr) rpR]))) Xg Xg trivial rfl (zoq ⟨⟨by decide,Zc (λw=>some ((149:TypeId),w)) (ctq (l:=o.getD []++[trR 1 k .nils rpR]) Xi),qzq Xg Xg Xg⟩,⟨by decide,rfl,zaq (yoq L)⟩,⟨by decide,rfl,zaq z⟩,⟨by decide,rfl,zaq E⟩,trivial⟩) Yf) rfl ⟨rfl,rfl,rfl,rfl⟩))))))))))
theorem oRq(z:cs[k]? =some fr)(O:fr.length<=400)(c:acq (o.getD [])=true)(F:(o.getD []).length<=900)(K:(rdQ fr).2≠0):zUq cfg glT 48 4 [.ptr 0 0] (hN 0 1 2 3 r v P h L (clX cs k 0 q none (rvW x)) o) λw I M=>w= .tup []/\I=hN 0 1 2 4 r v P h L (clX cs k 6 q none (rvR 0 (rdQ fr).2 0 dhq)) (some ((o.getD []++[trR 1 k (bW fr) rpR])++[trR 2 k .nils rpR]))/\M=5:=by
 have d:aaq (clX cs k 0 q none (rvW x))=true:=yTq (ytq x);have A:aaq (clX cs k 6 q none (rvR 0 (rdQ fr).2 0 dhq))=true:=yTq (qgq rfl);have E:=xEq (k:=1) (i:=k) c rfl jdq (f:=.nils);have j:=xEq (k:=1) (i:=k) c (Jiq fr) jdq;have C:=xEq (k:=2) (i:=k) j rfl jdq (f:=.nils);have H:aaq (.arr (((o.getD []++[trR 1 k (bW fr) rpR])++[trR 2 k .nils rpR]).length*282) 282 ((o.getD []++[trR 1 k (bW fr) rpR])++[trR 2 k .nils rpR]))=true:=C;have G:(o.getD []++[trR 1 k .nils rpR]).length=(o.getD []).length+1:=by simp
 have J:(o.getD []++[trR 1 k (bW fr) rpR]).length=(o.getD []).length+1:=by simp
 have D:=Yyq kkq (cYq fr false Xd);have B:z7q 50 (.arr ((o.getD []++[trR 1 k .nils rpR]).length*282) 282 (o.getD []++[trR 1 k .nils rpR])) (0+(o.getD []).length*282+3) (bW fr)=some (.arr ((o.getD []++[trR 1 k (bW fr) rpR]).length*282) 282 (o.getD []++[trR 1 k (bW fr) rpR])):=cGq Xg (by show 1<282;decide) (by show 0<1;decide) rfl;intro R;refine gIs 3 Y (λN=>?_)
 (refine zhq rfl (q4q Y Y Y Y Y (gkq d c) (.inl rfl) rfl d d c c Y Y Y (qhq (ycq (l:=[0,1,2]) rfl Xg)) Xg Xg [] (λk y z=>by simp[hget] at z) Xi Xi ?_))
 refine zeq 6 Y ?_
 (refine zhq rfl (q4q Y Y Y Y Y (Qcq 1 k d (Yqq ..) rfl c Xd) Jr rfl d d c E Y Y Y (qhq (ycq (l:=[0,1,2]) rfl Xg)) Xg Xg [] (λk y z=>by simp[hget] at z) Xi Xi ?_))
 refine zeq 12 Y (gP 0 Y (zyq (i:=k) Y Y Y Y Y Y Y (ziq bW z)) (gZ 16 Y G (gA 0 Y ((o.getD []).length) (gC 1 Y (jOq fr false Xd) (gP 0 Y (ypq (i:=(o.getD []).length) Y Y Y Y Y Y Y (by rw[G];omega)) (gM 1 Y (qmq Y Y Y Y Y B rfl) (gC 5 Y (D) (gT 12 Y (Zc not (eqI_not.2 (K))) (zbq 6 Y ?_)))))))))
 (refine zhq rfl (q4q (o:=some (o.getD []++[trR 1 k (bW fr) rpR])) (b0:=0) (b1:=1) (b2:=2) (b3:=4) Y Y Y Y Y (Qcq 2 k d (Yqq ..) rfl j (by show(o.getD []++_).length<=_;rw[J];omega)) Jr rfl d d j C (Zc (λw=>some ((149:TypeId),w)) (ctq (l:=o.getD []++[trR 1 k .nils rpR]) Xi)) Y Y (λl F=>by cases F;rfl) Xg Xg [] (λk y z=>by simp[hget] at z) Xi Xi ?_))
 exact zeq 18 Y (fin Jr (yiq (b:=4) (k:=6) (fr2:=[]) (hp2:=hN 0 1 2 4 r v P h L (clX cs k 6 q none (rvR 0 (rdQ fr).2 0 dhq)) (some ((o.getD []++[trR 1 k (bW fr) rpR])++[trR 2 k .nils rpR]))) Xg Xg Xg trivial ⟨⟨by decide,by rw[Y7q];rfl,qzq Xg Xg Xg⟩,⟨by decide,by rw[zdq (yoq L)];rfl,zaq (yoq L)⟩,⟨by decide,(Zc (λw=>some ((96:TypeId),w)) (zdq A)).symm,zaq A⟩,⟨by decide,(Zc (λw=>some ((87:TypeId),w)) (zdq H)).symm,zaq H⟩,trivial⟩ Yf) rfl ⟨rfl,rfl,rfl,rfl⟩)
end
def bzq(n:Nat)(q:Aq):Int:=if q.kind=1 then(atE (akq q.tx.pub) n:Nat) else if q.kind=6\/q.kind=7\/q.kind=8 then n else-1
theorem cuq{b:HpW}{r:Ru}{v:Vw}{P:List Shd}{h:Hb}{L:List Int}{C:W}{T:List W}{m k j:Nat}(y:aaq C=true)(d:acq T=true)(q:amq b m=some (meq L))(A:amq b k=some C)(w:amq b j=some (.arr (T.length*282) 282 T))(x:ymq 50 C 0 1 383=some [C]):View (amq b) (wdN r v P h (L.map lkW).length m k j (some T)) (wdR r (.fz (L.map lkW) 2 false) v P h (.fz [C] 383 false) (.fz T 282 false)):=
 .agg (.cons (.pur (jHq r)) (.cons (.sl q (yoq L) (zqq Xg Y Y) Xj) (.cons (.pur (kbq v)) (.cons (.pur (jwq P)) (.cons (.pur (xeq h)) (.cons (.sl A y x Xj) (.cons (.pur x1q) (vR (vR (.cons (.sl w d (zqq Xg Y Y) Xj) .nil))))))))))
theorem gzq{r:Ru}{v:Vw}{P:List Shd}{h:Hb}{L:List Int}{C:W}{T:List W}(b:aaq C=true)(a:acq T=true):acq [wdR r (.fz (L.map lkW) 2 false) v P h (.fz [C] 383 false) (.fz T 282 false),.int .i64 0]=true:=by
 show(aaq (wdR r (.fz (L.map lkW) 2 false) v P h (.fz [C] 383 false) (.fz T 282 false))&&(true&&true))=true;rw[cwq r (L:=.fz (L.map lkW) 2 false) (C:=.fz [C] 383 false) (T:=.fz T 282 false) v P h (uvq L) (by show(aaq C&&true)=true;rw[b];rfl) a];rfl
section
variable {r:Ru} {v:Vw} {P:List Shd} {h:Hb} {L:List Int} {T:List W} {cs:Fs} {k p:Nat} {q:Aq} {u:Option Vw} {x:Rv} {K:List W} {X:W}
theorem KJq(o:1<=P.length/\P.length<=8):PS cfg glT 46 [wdR r (.fz K 2 false) v P h (.fz [clX cs k p q u (rvW x)] 383 false) X,.int .i64 0] (.int .i64 (bzq P.length q)):=by
 have d:(P.map shdW).length=P.length:=Ze _;by_cases a:q.kind=1
 .skip
  exact gI 12 Y (λR j=>gP 0 Y (zyq (i:=0) Y Y Y Y Y Y Y Y) (gT 15 Y (eqI_iff.2 (a)) (gC 8 Y (Yyq kkq (JTq q.tx)) (gZ 2 Y d (gC 0 Y (pAq (akq q.tx.pub) P.length o) (gQ 16 Y (by rw[bzq,Zl a])))))))
 by_cases b:q.kind=6
 .skip
  exact gI 12 Y (λR j=>gP 0 Y (zyq (i:=0) Y Y Y Y Y Y Y Y) (gF 15 Y (eqI_not.2 (a)) (gT 7 Y (eqI_iff.2 (b)) (gZ 11 Y d (gQ 6 Y (by rw[bzq,Zg a,Zl (.inl b)]))))))
 by_cases c:q.kind=7
 .skip
  exact gI 12 Y (λR j=>gP 0 Y (zyq (i:=0) Y Y Y Y Y Y Y Y) (gF 15 Y (eqI_not.2 (a)) (gF 7 Y (eqI_not.2 (b)) (gT 6 Y (eqI_iff.2 (c)) (gZ 11 Y d (gQ 6 Y (by rw[bzq,Zg a,Zl (.inr (.inl c))])))))))
 by_cases m:q.kind=8
 .skip
  exact gI 12 Y (λR j=>gP 0 Y (zyq (i:=0) Y Y Y Y Y Y Y Y) (gF 15 Y (eqI_not.2 (a)) (gF 7 Y (eqI_not.2 (b)) (gF 6 Y (eqI_not.2 (c)) (gT 5 Y (eqI_iff.2 (m)) (gZ 8 Y d (gQ 6 Y (by rw[bzq,Zg a,Zl (.inr (.inr m))]))))))))
 .skip
  exact gI 12 Y (λR j=>gP 0 Y (zyq (i:=0) Y Y Y Y Y Y Y Y) (gF 15 Y (eqI_not.2 (a)) (gF 7 Y (eqI_not.2 (b)) (gF 6 Y (eqI_not.2 (c)) (gF 5 Y (eqI_not.2 (m)) (gQ 13 Y (by rw[bzq,Zg a,Zg Xd])))))))
theorem isq(L:List Int)(i:Nat)(y:Int):W.arr ((L.map lkW).length*2) 2 ((L.map lkW).set i (lkW y))=meq (L.set i y):=by
 unfold meq;rw[List.map_set,YI]
theorem o8q{o:Option (List W)}{b:Nat}(i:Nat)(y:Int):wuW r v P h (L.map lkW).length 1 2 b o=wuW r v P h ((L.set i y).map lkW).length 1 2 b o:=by
 rw[List.map_set,YI]
theorem wPq(I:PS cfg glT 63 [vwG v] (vwG v))(H:1<=P.length/\P.length<=8)(z:bzq P.length q=-1)(C:acq T=true)(m:T.length<=900):zUq cfg glT 49 4 [.ptr 0 0] (hN 0 1 2 3 r v P h L (clX cs k 1 q none (rvW x)) (some T)) λw G J=>w= .tup []/\G=hN 0 1 2 4 r v P h L (clX cs k 5 q (some v) (rvW x)) (some (T++[trR 2 k .nils rpR]))/\J=5:=by
 have d:aaq (clX cs k 1 q none (rvW x))=true:=yTq (ytq x);have B:aaq (clX cs k 5 q (some v) (rvW x))=true:=yTq (ytq x);have b:acq ((some T).getD [])=true:=C;have F:aaq (.arr (T.length*282) 282 T)=true:=C;have A:aaq (clX cs k 3 q (some v) (rvW x))=true:=yTq (ytq x);have j:=xEq (k:=2) (i:=k) C rfl jdq (f:=.nils);have F:aaq (.arr ((T++[trR 2 k .nils rpR]).length*282) 282 (T++[trR 2 k .nils rpR]))=true:=j;intro R;refine gIs 3 Y (λM=>?_)
 (refine zhq rfl (q4q Y Y Y Y Y (gkq d b) (.inl rfl) rfl d d b b Y Y Y (λl m=>by cases m;rfl) Xg Xg [] (λk y E=>by simp[hget] at E) Xi Xi ?_))
 refine zeq 13 Y ?_
 (refine Znq Y Y Y Y Y (.cons (cuq d b Y Y Y (Yqq ..)) (.cons (.pur rfl) .nil)) (zrq (w':=.int .i64 (-1)) (KJq H) (by rw[z])) (gzq d b) rfl Xp ?_)
 refine zWq 7 Y (gT 0 Y (ltI_iff.2 Xg) (zbq 6 Y ?_))
 (refine zhq rfl (q4q Y Y Y Y Y (pIq I b (by show T.length<=_;omega)) Jr rfl d A b j Y Y Y (λl m=>by cases m;rfl) Xg Xg [] (λk y E=>by simp[hget] at E) Xi Xi ?_))
 exact zeq 12 Y (fin Jr (zvq (nw2:=5) (fr2:=[]) (hp2:=hN 0 1 2 4 r v P h L (clX cs k 5 q (some v) (rvW x)) (some (T++[trR 2 k .nils rpR]))) Xg Xg trivial rfl (zoq ⟨⟨by decide,rfl,qzq Xg Xg Xg⟩,⟨by decide,rfl,zaq (yoq _)⟩,⟨by decide,rfl,zaq B⟩,⟨by decide,rfl,zaq F⟩,trivial⟩) Yf) rfl ⟨rfl,rfl,rfl,rfl⟩)
theorem wQq(G:1<=P.length/\P.length<=8){i:Nat}(j:bzq P.length q=(i:Int))(C:L[i]? =some 0)(J:L.length<=1000)(A:acq T=true):zUq cfg glT 49 4 [.ptr 0 0] (hN 0 1 2 3 r v P h L (clX cs k 1 q u (rvW x)) (some T)) λw E H=>w= .tup []/\E=hN 0 1 2 3 r v P h (L.set i 1) (clX cs k 2 q u (rvW x)) (some T)/\H=4:=by
 have d:aaq (clX cs k 1 q u (rvW x))=true:=yTq (ytq x);have m:aaq (clX cs k 2 q u (rvW x))=true:=yTq (ytq x);have b:acq ((some T).getD [])=true:=A;have F:aaq (.arr (T.length*282) 282 T)=true:=A;have z:=ziq lkW C;have f:=yGq z;intro R;refine gIs 3 Y (λM=>?_)
 (refine zhq rfl (q4q Y Y Y Y Y (gkq d b) (.inl rfl) rfl d d b b Y Y Y (λl B=>by cases B;rfl) Xg Xg [] (λk y I=>by simp[hget] at I) Xi Xi ?_))
 refine zeq 13 Y ?_
 (refine Znq Y Y Y Y Y (.cons (cuq d b Y Y Y (Yqq ..)) (.cons (.pur rfl) .nil)) (zrq (w':=.int .i64 (i:Int)) (KJq G) (by rw[j])) (gzq d b) rfl Xp ?_)
 refine zWq 7 Y (gF 0 Y (ltI_not.2 Xd) (gP 19 Y (ypq (i:=i) Y Y Y Y Y Y Y f) ?_))
 (refine yeq rfl (ujq (n:=(L.map lkW).length) (e:=2) Y Y Y Y Y Y Y z Y Y Xg ?_);refine⟨by kernel_rfl,?_⟩)
 refine zWq 4 Y (gWr 0 Y (gC 0 Y (sNq) (gP 4 Y (ypq (i:=i) Y Y Y Y Y Y Y f) ?_)))
 (refine yeq rfl (xlq (n:=(L.map lkW).length) (e:=2) Y Y Y Y Y Y Y z Y Y Y Y Xg ?_);refine⟨by kernel_rfl,?_⟩)
 exact zWq 8 Y (fin (.inl rfl) (zvq (nw2:=4) (fr2:=[]) (hp2:=hN 0 1 2 3 r v P h (L.set i 1) (clX cs k 2 q u (rvW x)) (some T)) Xg Xg trivial rfl (zoq ⟨⟨by decide,Zc (λw=>some ((149:TypeId),w)) (o8q i 1),qzq Xg Xg Xg⟩,⟨by decide,Zc (λw=>some ((144:TypeId),w)) (isq L i 1),zaq (yoq _)⟩,⟨by decide,rfl,zaq m⟩,⟨by decide,rfl,zaq F⟩,trivial⟩) Yf) rfl ⟨rfl,rfl,rfl,rfl⟩)
theorem Bbq(G:1<=P.length/\P.length<=8){i:Nat}(j:bzq P.length q=(i:Int))(C:L[i]? =some 1)(J:L.length<=1000)(A:acq T=true):zUq cfg glT 52 4 [.ptr 0 0] (hN 0 1 2 3 r v P h L (clX cs k 4 q u (rvW x)) (some T)) λw E H=>w= .tup []/\E=hN 0 1 2 3 r v P h (L.set i 0) (clX cs k 6 q u (rvW x)) (some T)/\H=4:=by
 have d:aaq (clX cs k 4 q u (rvW x))=true:=yTq (ytq x);have m:aaq (clX cs k 6 q u (rvW x))=true:=yTq (ytq x);have b:acq ((some T).getD [])=true:=A;have F:aaq (.arr (T.length*282) 282 T)=true:=A;have z:=ziq lkW C;have f:=yGq z;intro R;refine gIs 10 Y (λM=>?_)
 (refine Znq Y Y Y Y Y (.cons (cuq d b Y Y Y (Yqq ..)) (.cons (.pur rfl) .nil)) (zrq (w':=.int .i64 (i:Int)) (KJq G) (by rw[j])) (gzq d b) rfl Xp ?_)
 refine zWq 17 Y (gP 0 Y (ypq (i:=i) Y Y Y Y Y Y Y f) ?_)
 (refine yeq rfl (ujq (n:=(L.map lkW).length) (e:=2) Y Y Y Y Y Y Y z Y Y Xg ?_);refine⟨by kernel_rfl,?_⟩)
 refine zWq 4 Y (gWr 0 Y (gC 0 Y (sRq) (gP 4 Y (ypq (i:=i) Y Y Y Y Y Y Y f) ?_)))
 (refine yeq rfl (xlq (n:=(L.map lkW).length) (e:=2) Y Y Y Y Y Y Y z Y Y Y Y Xg ?_);refine⟨by kernel_rfl,?_⟩)
 refine zWq 4 Y ?_
 (refine zhq rfl (q4q (L:=L.set i 0) Y Y Y Y Y (gkq d b) (.inl rfl) rfl d d b b (Zc (λw=>some ((149:TypeId),w)) (o8q i 0)) (Zc (λw=>some ((144:TypeId),w)) (isq L i 0)) rfl (λl B=>by cases B;rfl) Xg Xg [] (λk y I=>by simp[hget] at I) Xi Xi ?_))
 exact r2q 4 Y (fin (.inl rfl) (zvq (nw2:=4) (fr2:=[]) (hp2:=hN 0 1 2 3 r v P h (L.set i 0) (clX cs k 6 q u (rvW x)) (some T)) Xg Xg trivial rfl (zoq ⟨⟨by decide,rfl,qzq Xg Xg Xg⟩,⟨by decide,rfl,zaq (yoq _)⟩,⟨by decide,rfl,zaq m⟩,⟨by decide,rfl,zaq F⟩,trivial⟩) Yf) rfl ⟨rfl,rfl,rfl,rfl⟩)
end
def clA(a:Fs)(k p:Nat)(q:Aq)(x:W):W:=clR a (.int .i64 (k:Int)) (.int .u8 (p:Int)) (aqW q) wdq x
theorem uJq{a:Fs}{k p:Nat}{q:Aq}{x:W}(h:aaq x=true):aaq (clA a k p q x)=true:=by
 show(aaq (flW a)&&(true&&(true&&(aaq (aqW q)&&(true&&(aaq x&&true))))))=true;rw[kgq,zLq,h];rfl
section
variable {r:Ru} {v:Vw} {P:List Shd} {h:Hb} {L:List Int} {T:List W} {cs:Fs} {k:Nat} {q:Aq} {u:Vw} {x:Rv}
def Epq(r:Ru)(v:Vw)(L:List Int)(T:List W)(cs:Fs)(k:Nat)(q:Aq)(z:Rv×List Shd×Hb):W->HpW->Nat->Prop:=λw c b=>w= .tup []/\(∃y:W,(∀a,View a y (rvW z.1))/\aaq y=true/\c=hN 0 1 2 3 r v z.2.1 z.2.2 L (clA cs k 4 q y) (some T))/\b=4
theorem DNq{m:Nat}(g:GoodA m r P h)(hm:m<=100)(hdn:u.down=false)(nt:Nat)(J:Go.Proofs.YtcoldbcijgmidaaGreatDoor.T)(hA:IsA u.ch.tree nt J)(hq:q.kind=1\/q.kind=6\/q.kind=7\/q.kind=8)(hx:q.tx.ok)(hT:acq T=true)(O:Aq->Rp):zUq cfg glT 51 4 [.ptr 0 0] (hN 0 1 2 3 r v P h L (clX cs k 3 q (some u) (rvW x)) (some T)) (Epq r v L T cs k q (aMq r (λk=>(yBq J k).nonce) u.number O P h q)):=by
 have F:aaq (clX cs k 3 q (some u) (rvW x))=true:=yTq (ytq x);have d:acq ((some T).getD [])=true:=hT;have I:aaq (.arr (T.length*282) 282 T)=true:=hT;have ok:=g.ok (v:=u) Xd;have V:=g.sm (v:=u) Xd;have K:=g.ru;unfold okU at K;have hdw:zGq 50 (clX cs k 3 q (some u) (rvW x)) 138 1 false=some (.bool false):=by show some (W.bool u.down)=_;rw[hdn]
 have U:=YRq kkq (h1q P ok.pool V.shards (g.pl Xd) g.gs hm u.ch.tree nt J hA r.cap q.tx hx);have hjn:=eMq h g.hub V.taps r.subs u.number K.2.2.2.2.2.1 K.2.2.2.2.2.2;have hpl:=iJq h g.hub V.taps q.sub;have Z:=eKq h g.hub V.taps q.sub;have A:∀(y:W) (rv:Rv) (P':List Shd) (h':Hb),aMq r (λk=>(yBq J k).nonce) u.number O P h q=(rv,P',h') ->(∀μ,View μ y (rvW rv)) ->aaq y=true->Epq r v L T cs k q (aMq r (λk=>(yBq J k).nonce) u.number O P h q) (.tup []) (hN 0 1 2 3 r v P' h' L (clA cs k 4 q y) (some T)) 4:=λy rv P' h' e a b=>by rw[e];exact⟨rfl,⟨y,a,b,rfl⟩,rfl⟩
 intro R;refine ZSq (fn:=Tryz.f51) Y Y Y (Yb rfl) (λk0=>?_);refine Zyq 3 (zCq 3 Y ?_)
 (refine zhq rfl (q4q Y Y Y Y Y (gkq F d) (.inl rfl) rfl F F d d Y Y Y (λl N=>by cases N;rfl) Xg Xg [] (λk y C=>by simp[hget] at C) Xi Xi ?_))
 refine zeq 22 Y (gM 0 Y (zwq Y Y Y hdw) (zbq 23 Y ?_));skip
 by_cases M:q.kind=1
 .refine gT 2 Y (eqI_iff.2 (M)) (zbq 30 Y ?_);skip
  have H:aMq r (λk=>(yBq J k).nonce) u.number O P h q=_:=Zl M;have j:=h6q P (g.pl Xd) g.gs hm r.cap (yBq J (akq q.tx.pub)).nonce q.tx hx;refine gSf 0 Y (qfq Y Y Y Y Y U Yd ?_);skip
  skip
  rintro w E rfl;generalize plF r.cap P (yBq J (akq q.tx.pub)).nonce q.tx=z at E H j⊢;rcases z with e|⟨s',old⟩
  .refine⟨by first|rfl|kernel_rfl,?_⟩;exact gF 13 Y (eqI_not.2 (j)) (zbq 25 Y (jsq Ye (fin (.inl rfl) (zvq (nw2:=4) (fr2:=[]) (hp2:=hN 0 1 2 3 r v P h L (clA cs k 4 q (rvR q.kind e 0 dhq)) (some T)) Xg Xg trivial rfl (zoq ⟨⟨by decide,rfl,qzq Xg Xg Xg⟩,⟨by decide,rfl,zaq (yoq _)⟩,⟨by decide,rfl,zaq (uJq (x:=rvR q.kind e 0 dhq) (qgq rfl))⟩,⟨by decide,rfl,zaq I⟩,trivial⟩) Yf) rfl ⟨rfl,A _ _ _ _ H (λ_=>qXq qFq) (qgq rfl)⟩)))
  .refine⟨by first|rfl|kernel_rfl,?_⟩;exact gT 13 Y (eqI_iff.2 (rfl)) (zbq 32 Y (jsq Ye (fin (.inl rfl) (zvq (nw2:=4) (fr2:=[]) (hp2:=hN 0 1 2 3 r v (P.set (atE (akq q.tx.pub) P.length) s') h L (clA cs k 4 q (rvR q.kind 0 0 dhq)) (some T)) Xg Xg trivial rfl (zoq ⟨⟨by decide,rfl,qzq Xg Xg Xg⟩,⟨by decide,rfl,zaq (yoq _)⟩,⟨by decide,rfl,zaq (uJq (x:=rvR q.kind 0 0 dhq) (qgq rfl))⟩,⟨by decide,rfl,zaq I⟩,trivial⟩) Yf) rfl ⟨rfl,A _ _ _ _ H (λ_=>qXq qFq) (qgq rfl)⟩)))
 by_cases Q:q.kind=6
 .refine gF 2 Y (eqI_not.2 (M)) (gT 6 Y (eqI_iff.2 (Q)) (zbq 27 Y ?_));skip
  have H:aMq r (λk=>(yBq J k).nonce) u.number O P h q=_:=(Zg M).trans (Zl Q);have j:=iEq g.hub (most:=r.subs) (beg:=u.number) K.2.2.2.2.2.2;refine gSf 0 Y (qfq Y Y Y Y Y hjn Yd ?_);skip
  rintro w E rfl;generalize joF h r.subs u.number=z at E H j⊢;obtain⟨o,id,e⟩:=z;have B:=gyq (r:=r) (v:=v) (P:=P) (h:=h) (L:=L) (G:=glT) F d o e j;have hpo2:=vBq o;obtain⟨a1,a2,S⟩:=uyq o;simp only at E⊢;rw[S] at B hpo2 E⊢;refine⟨by first|rfl|kernel_rfl,?_⟩;refine zbq 16 Y ?_
  (refine zhq rfl (q4q (us:=[.agg 2 [a1,a2],.int .i64 e]) (b0:=0) (b1:=1) (b2:=2) (b3:=3) (o:=some T) Y Y Y Y Qe B (.inl rfl) rfl F F d d Y Y Y (λl N=>by cases N;rfl) Xg Xg [(4,81,rvR q.kind e id dhq)] (λk y C=>by rw[zfq] at C;split at C;(rename_i q;subst q;cases C;exact⟨by simp,rfl⟩);simp[hget] at C) Xi Xi ?_))
  exact zeq 22 Y (jsq Ye (fin (.inl rfl) (zvq (nw2:=4) (fr2:=[]) (hp2:=hN 0 1 2 3 r v P (o.getD h) L (clA cs k 4 q (rvR q.kind e id dhq)) (some T)) Xg Xg trivial rfl (zoq ⟨⟨by decide,rfl,qzq Xg Xg Xg⟩,⟨by decide,rfl,zaq (yoq _)⟩,⟨by decide,rfl,zaq (uJq (x:=rvR q.kind e id dhq) (qgq rfl))⟩,⟨by decide,rfl,zaq I⟩,trivial⟩) Yf) rfl ⟨rfl,A _ _ _ _ H (λ_=>qXq qFq) (qgq rfl)⟩))
 by_cases X:q.kind=7
 .refine gF 2 Y (eqI_not.2 (M)) (gF 6 Y (eqI_not.2 (Q)) (gT 6 Y (eqI_iff.2 (X)) (zbq 18 Y ?_)));skip
  have H:aMq r (λk=>(yBq J k).nonce) u.number O P h q=_:=(Zg M).trans ((Zg Q).trans (Zl X));have j:=hZq g.hub q.sub itZ;refine gSf 0 Y (qfq Y Y Y Y Y hpl Yd ?_);skip
  rintro w E rfl;generalize poF h q.sub itZ=z at E H j⊢;obtain⟨o,z,e⟩:=z;have B:=gyq (r:=r) (v:=v) (P:=P) (h:=h) (L:=L) (G:=glT) F d o e j;have hpo2:=vBq o;obtain⟨a1,a2,S⟩:=uyq o;simp only at E⊢;rw[S] at B hpo2 E⊢;refine⟨by first|rfl|kernel_rfl,?_⟩;refine zbq 16 Y ?_
  (refine zhq rfl (q4q (us:=[.agg 2 [a1,a2],.int .i64 e]) (b0:=0) (b1:=1) (b2:=2) (b3:=3) (o:=some T) Y Y Y Y Qe B (.inl rfl) rfl F F d d Y Y Y (λl N=>by cases N;rfl) Xg Xg [(4,81,rvR q.kind e 0 (aiq z))] (λk y C=>by rw[zfq] at C;split at C;(rename_i q;subst q;cases C;exact⟨by simp,rfl⟩);simp[hget] at C) Xi Xi ?_))
  exact zeq 22 Y (jsq Ye (fin (.inl rfl) (zvq (nw2:=4) (fr2:=[]) (hp2:=hN 0 1 2 3 r v P (o.getD h) L (clA cs k 4 q (rvR q.kind e 0 (aiq z))) (some T)) Xg Xg trivial rfl (zoq ⟨⟨by decide,rfl,qzq Xg Xg Xg⟩,⟨by decide,rfl,zaq (yoq _)⟩,⟨by decide,rfl,zaq (uJq (x:=rvR q.kind e 0 (aiq z)) (qgq (ygq z)))⟩,⟨by decide,rfl,zaq I⟩,trivial⟩) Yf) rfl ⟨rfl,A _ _ _ _ H (λ_=>qXq (.pur (ygq z))) (qgq (ygq z))⟩))
 by_cases k8:q.kind=8
 .refine gF 2 Y (eqI_not.2 (M)) (gF 6 Y (eqI_not.2 (Q)) (gF 6 Y (eqI_not.2 (X)) (gT 6 Y (eqI_iff.2 (k8)) (zbq 18 Y ?_))));skip
  have H:aMq r (λk=>(yBq J k).nonce) u.number O P h q=_:=(Zg M).trans ((Zg Q).trans ((Zg X).trans (Zl k8)));have j:=ipq g.hub q.sub;refine gSf 0 Y (qfq Y Y Y Y Y Z Yd ?_);skip
  rintro w E rfl;generalize lvF h q.sub=z at E H j⊢;obtain⟨o,e⟩:=z;have B:=gyq (r:=r) (v:=v) (P:=P) (h:=h) (L:=L) (G:=glT) F d o e j;have hpo2:=vBq o;obtain⟨a1,a2,S⟩:=uyq o;simp only at E⊢;rw[S] at B hpo2 E⊢;refine⟨by first|rfl|kernel_rfl,?_⟩;refine zbq 13 Y ?_
  (refine zhq rfl (q4q (us:=[.agg 2 [a1,a2],.int .i64 e]) (b0:=0) (b1:=1) (b2:=2) (b3:=3) (o:=some T) Y Y Y Y Qe B (.inl rfl) rfl F F d d Y Y Y (λl N=>by cases N;rfl) Xg Xg [(4,81,rvR q.kind e 0 dhq)] (λk y C=>by rw[zfq] at C;split at C;(rename_i q;subst q;cases C;exact⟨by simp,rfl⟩);simp[hget] at C) Xi Xi ?_))
  exact zeq 22 Y (jsq Ye (fin (.inl rfl) (zvq (nw2:=4) (fr2:=[]) (hp2:=hN 0 1 2 3 r v P (o.getD h) L (clA cs k 4 q (rvR q.kind e 0 dhq)) (some T)) Xg Xg trivial rfl (zoq ⟨⟨by decide,rfl,qzq Xg Xg Xg⟩,⟨by decide,rfl,zaq (yoq _)⟩,⟨by decide,rfl,zaq (uJq (x:=rvR q.kind e 0 dhq) (qgq rfl))⟩,⟨by decide,rfl,zaq I⟩,trivial⟩) Yf) rfl ⟨rfl,A _ _ _ _ H (λ_=>qXq qFq) (qgq rfl)⟩))
 .exfalso;omega
theorem xtq(A:u.down=false)(f:Aq->Rp)(m:PS cfg glK 76 [ruG r,vwG u,aqW q] (rpW (f q)))(B:acq T=true):zUq cfg glT 53 4 [.ptr 0 0] (hN 0 1 2 3 r v P h L (clX cs k 5 q (some u) (rvW x)) (some T)) λw E H=>w= .tup []/\E=hN 0 1 2 3 r v P h L (clA cs k 6 q (rpW (f q))) (some T)/\H=4:=by
 have j:aaq (clX cs k 5 q (some u) (rvW x))=true:=yTq (ytq x);have z:aaq (clA cs k 6 q (rpW (f q)))=true:=uJq (Qjq _);have c:acq ((some T).getD [])=true:=B;have F:aaq (.arr (T.length*282) 282 T)=true:=B;have s:zGq 50 (clX cs k 5 q (some u) (rvW x)) 138 1 false=some (.bool false):=by show some (W.bool u.down)=_;rw[A]
 have d:=Yyq kkq m;have G:=Qjq (f q);intro R;refine gIs 3 Y (λJ=>?_)
 (refine zhq rfl (q4q Y Y Y Y Y (gkq j c) (.inl rfl) rfl j j c c Y Y Y (λl C=>by cases C;rfl) Xg Xg [] (λk y I=>by simp[hget] at I) Xi Xi ?_))
 exact zeq 22 Y (gM 0 Y (zwq Y Y Y s) (gC 18 Y (d) (zbq 19 Y (fin (.inl rfl) (zvq (nw2:=4) (fr2:=[]) (hp2:=hN 0 1 2 3 r v P h L (clA cs k 6 q (rpW (f q))) (some T)) Xg Xg trivial rfl (zoq ⟨⟨by decide,rfl,qzq Xg Xg Xg⟩,⟨by decide,rfl,zaq (yoq _)⟩,⟨by decide,rfl,zaq z⟩,⟨by decide,rfl,zaq F⟩,trivial⟩) Yf) rfl ⟨rfl,rfl,rfl,rfl⟩))))
end
def aqR:W:=.agg 134 [.int .u8 0,.agg 99 [z32,z32,.int .u64 0,.int .u64 0,.int .u64 0,z32],z32,.int .i64 0,.int .i64 0]
theorem tRq:aaq aqR=true:=by decide+kernel
def clN(b:Fs)(k:Nat):W:=.agg 383 [flW b,.int .i64 (k:Int),.int .u8 0,aqR,wdq,rpR]
theorem dIq(a:Fs)(k:Nat):aaq (clN a k)=true:=by
 show(aaq (flW a)&&(true&&(true&&(aaq aqR&&(true&&(aaq rpR&&true))))))=true;rw[kgq,tRq,jdq];rfl
section
variable {G:Nat->Option W} {r:Ru} {v:Vw} {P:List Shd} {h:Hb} {L:List Int} {T:List W} {cs:Fs} {k:Nat} {q:Aq} {x:Rv}
theorem wxq(H:x.x.pr.l.length<=1000000000)(B:acq T=true)(j:T.length<=900)(m:k<=1000000):zUq cfg G 54 4 [.ptr 0 0] (hN 0 1 2 3 r v P h L (clX cs k 6 q none (rvW x)) (some T)) λw E I=>w= .tup []/\E=hN 0 1 2 4 r v P h L (clN cs (k+1)) (some (T++[trR 3 k .nils (rvW x)]))/\I=5:=by
 have c:aaq (clX cs k 6 q none (rvW x))=true:=yTq (ytq x);have o:=dIq cs (k+1);have b:acq ((some T).getD [])=true:=B;have z:=xEq (k:=3) (i:=k) B rfl jdq (f:=.nils);have A:=xEq (k:=3) (i:=k) B rfl (ytq x) (f:=.nils);have F:aaq (.arr ((T++[trR 3 k .nils (rvW x)]).length*282) 282 (T++[trR 3 k .nils (rvW x)]))=true:=A;have C:(T++[trR 3 k .nils rpR]).length=T.length+1:=by simp
 have d:z7q 50 (.arr ((T++[trR 3 k .nils rpR]).length*282) 282 (T++[trR 3 k .nils rpR])) (0+T.length*282+4) (rvW x)=some (.arr ((T++[trR 3 k .nils (rvW x)]).length*282) 282 (T++[trR 3 k .nils (rvW x)])):=cGq Xg (by show 240<282;decide) (by show 0<240;decide) rfl;intro R;refine gIs 3 Y (λJ=>?_)
 (refine zhq rfl (q4q Y Y Y Y Y (gkq c b) (.inl rfl) rfl c c b b Y Y Y (λl j=>by cases j;rfl) Xg Xg [] (λk y m=>by simp[hget] at m) Xi Xi ?_))
 refine zeq 6 Y ?_
 (refine zhq rfl (q4q Y Y Y Y Y (Qcq 3 k c (Yqq ..) rfl b (by show T.length<=_;omega)) Jr rfl c c b z Y Y Y (λl j=>by cases j;rfl) Xg Xg [] (λk y m=>by simp[hget] at m) Xi Xi ?_))
 exact zeq 14 Y (gZ 0 Y C (gA 0 Y (T.length) (gC 4 Y (cXq x H) (gP 0 Y (ypq (i:=T.length) Y Y Y Y Y Y Y (by show T.length<(T++[trR 3 k .nils rpR]).length;rw[C];omega)) (gM 1 Y (qmq Y Y Y Y Y d rfl) (gA 12 Y (k+1) (zbq 4 Y (fin (.inl rfl) (zvq (nw2:=5) (fr2:=[]) (hp2:=hN 0 1 2 4 r v P h L (clN cs (k+1)) (some (T++[trR 3 k .nils (rvW x)]))) Xg Xg trivial rfl (zoq ⟨⟨by decide,Zc (λw=>some ((149:TypeId),w)) (ctq (l:=T++[trR 3 k .nils rpR]) Xi),qzq Xg Xg Xg⟩,⟨by decide,rfl,zaq (yoq _)⟩,⟨by decide,rfl,zaq o⟩,⟨by decide,rfl,zaq F⟩,trivial⟩) Yf) rfl ⟨rfl,rfl,rfl,rfl⟩))))))))
end
section
variable {r:Ru} {v:Vw} {cs:Fs} {w:Wd}
theorem oHq(c:w.cl.pc=0):PS cfg glT 23 [wdW r v cs w,.int .i64 0] (.bool (decide (w.cl.at_<cs.length))):=by
 have e:(cs.map bW).length=cs.length:=Ze _;by_cases h:w.cl.at_<cs.length
 .rw[Zq h];refine gI 10 Y (λR a=>?_);refine gF 0 Y (ltI_not.2 Xg) ?_;refine gL 4 Y ?_;refine gF 0 Y (Zc not (ltI_iff.2 Qw)) ?_;refine gP 12 Y (zyq (i:=0) Y Y Y Y Y Y Y Y) ?_;refine gT 14 Y (eqI_iff.2 Xd) ?_;refine gZ 10 Y e ?_
  (refine kiq (w':=.bool true) Y Y (Zc W.bool (ltI_iff.2 Xd)) ?_)
  refine zeq 6 Y ?_;exact gQa 0 Y
 .rw[Zw h];refine gI 10 Y (λR a=>?_);refine gF 0 Y (ltI_not.2 Xg) ?_;refine gL 4 Y ?_;refine gF 0 Y (Zc not (ltI_iff.2 Qw)) ?_;refine gP 12 Y (zyq (i:=0) Y Y Y Y Y Y Y Y) ?_;refine gT 14 Y (eqI_iff.2 Xd) ?_;refine gZ 10 Y e ?_
  (refine kiq (w':=.bool false) Y Y (Zc W.bool (ltI_not.2 Xd)) ?_)
  refine zeq 6 Y ?_;exact gQa 0 Y
theorem BIq(g:w.cl.pc=2)(d:1<=w.pool.length/\w.pool.length<=8){i:Nat}(a:bzq w.pool.length w.cl.ask=(i:Int))(f:w.locks[i]? =some 1):PS cfg glT 23 [wdW r v cs w,.int .i64 0] (.bool true):=by
 have e:=ziq lkW f;have c:=ZLq r v cs w;refine gI 10 Y (λR j=>?_);refine gF 0 Y (ltI_not.2 Xg) ?_;refine gL 4 Y ?_;refine gF 0 Y (Zc not (ltI_iff.2 Qw)) ?_;refine gP 12 Y (zyq (i:=0) Y Y Y Y Y Y Y Y) ?_;refine gF 14 Y (eqI_not.2 Xd) ?_;refine gT 6 Y (eqI_iff.2 Xd) ?_;refine gC 10 Y (zrq (w':=.int .i64 (i:Int)) (KJq (r:=r) (v:=v) (P:=w.pool) (h:=w.hub) (cs:=cs) (k:=w.cl.at_) (p:=w.cl.pc) (q:=w.cl.ask) (u:=w.cl.vw) (x:=w.cl.rp) (K:=w.locks.map lkW) (X:=tlW (w.tr.map trW)) d) (by rw[a])) ?_;refine gP 0 Y (zyq (i:=i) Y Y Y Y Y Y Y e) ?_;refine gWr 3 Y ?_;refine gT 0 Y (eqI_iff.2 (rfl)) ?_;exact gQa 6 Y
theorem Jcq(c:w.cl.pc≠0)(a:w.cl.pc≠2):PS cfg glT 23 [wdW r v cs w,.int .i64 0] (.bool true):=by
 refine gI 10 Y (λR d=>?_);refine gF 0 Y (ltI_not.2 Xg) ?_;refine gL 4 Y ?_;refine gF 0 Y (Zc not (ltI_iff.2 Qw)) ?_;refine gP 12 Y (zyq (i:=0) Y Y Y Y Y Y Y Y) ?_;refine gF 14 Y (eqI_not.2 Xd) ?_;refine gF 6 Y (eqI_not.2 Xd) ?_;exact gQa 13 Y
end
end
section
structure OutV(cs:Fs)(w:Wd)(P:List Shd)(h:Hb)(L:List Int)(C:W)(o:Option (List W)):Prop where
 P:P=w.pool
 h:h=w.hub
 L:L=w.locks
 C:aaq C=true/\∀μ,View μ C (clW cs w.cl)
 T:∃T,o=some T/\acq T=true/\(∀μ,ViewL μ T (w.tr.map trW))/\w.tr≠[]
theorem a7q{b:Nat->Option W}:∀{l a:List W},ViewL b l a->l.length=a.length
 |_,_,.nil=>rfl
 |_,_,.cons _ k=>by simp[a7q k]
theorem mzq{l:List TrE}(h:l≠[]):tlW (l.map trW)= .fz (l.map trW) 282 false:=by
 cases l with
 |nil=>exact absurd rfl h
 |cons x r=>rfl
theorem noq{j:Fs}{w:Wd}{P:List Shd}{h:Hb}{L:List Int}{C:W}{o:Option (List W)}(z:OutV j w P h L C o)(r:Ru)(v:Vw){b:HpW}{f m d:Nat}(q:amq b f=some (meq L))(B:amq b m=some C)(D:oIn b d 87 282 o):View (amq b) (wdN r v P h (L.map lkW).length f m d o) (wdW r v j w):=by
 obtain⟨rfl,rfl,rfl,⟨F,x⟩,T,rfl,E,k,A⟩:=z
 have y:amq b d=some (.arr (T.length*282) 282 T):=by
  unfold amq;rw[D T rfl]
 rw[wdW,mzq A];exact .agg (.cons (.pur (jHq r)) (.cons (.sl q (yoq _) (zqq Xg Y Y) Xj) (.cons (.pur (kbq v)) (.cons (.pur (jwq _)) (.cons (.pur (xeq _)) (.cons (.sl2 B (x _) rfl Xj) (.cons (.pur x1q) (vR (vR (.cons (.sl2 (c':=.arr (T.length*282) 282 (w.tr.map trW)) y (.arr (k _)) (zqq Xg (a7q (k λ_=>none)) rfl) Xj) .nil))))))))))
attribute [local irreducible] CoW OpW FlW aeq ajq
theorem Beq{l:List FuncId}{i:Nat}{F:FuncId}(h:l[i]? =some F):zGq 50 (.arr (l.length*1) 1 (l.map λf=>W.fn f [] [])) (0+i*1+0) 1 false=some (.fn F [] []):=klq (ziq (λf=>W.fn f [] []) h) Xd Xd Xi rfl
def stepFs:List FuncId:=[48,49,50,51,52,53,54]
def fnA:W:=.arr (stepFs.length*1) 1 (stepFs.map λf=>W.fn f [] [])
def wdZ:W:=.agg 158 [.agg 38 [.int .i64 0,.int .i64 0,.int .i64 0,.int .i64 0,.int .i64 0,.int .i64 0,z32],.nils,wdq,.nils,.agg 2 [.int .i64 0,.nils],.nils,exZ,.nils,.nils,.nils]
theorem ASq{X A:HpW}{b e:Nat}{f:TypeId}{o:Option (List W)}(i:∀p∈A,p.1≠b):∀k y,hget ((X++A)++oH b f e o) k=some y->hget ((X++oH b f e o)++A) k=some y:=λk y h=>by
 rw[qoq,qoq] at h;rw[qoq,qoq];cases g:hget X k with
 |some z=>rw[g] at h;exact h
 |none=>
  rw[g] at h;by_cases q:k=b
  .subst q;rw[yPq i] at h⊢;cases d:hget (oH k f e o) k with
   |none=>rw[d] at h;exact h
   |some z=>rw[d] at h;exact h
  .have d:hget (oH b f e o) k=none:=yPq λp j=>by rw[qNq p j];exact λe=>q e.symm
   rw[d] at h⊢;cases c:hget A k with
   |none=>rw[c] at h;exact h
   |some z=>rw[c] at h;exact h
theorem xzq{r:Ru}{v:Vw}{f:Fs}{w w':Wd}(ok:WdOk f w)(hv:PS cfg glT 63 [vwG v] (vwG v))(Q:PS cfg glT 64 [plW w.pool] (plW w.pool))(X:PS cfg glT 65 [hbW w.hub] (hbW w.hub))(O:PS cfg glT 63 [vwO w.cl.vw] (vwO w.cl.vw))(J:PS cfg glT 23 [wdW r v f w,.int .i64 0] (.bool true)){F:FuncId}(hF:stepFs[w.cl.pc]? =some F)(Z:cfg.ext F=none){c m:Nat}(M:(c=3/\m=4)\/(c=4/\m=5))
  (sp:zUq cfg glT F 4 [.ptr 0 0] (hN 0 1 2 3 r v w.pool w.hub w.locks (clW f w.cl) (euq (w.tr.map trW))) λu hp nw=>u= .tup []/\(∃P' I L' C' K,OutV f w' P' I L' C' K/\hp=hN 0 1 2 c r v P' I L' C' K)/\nw=m):PS cfg glT 24 [wdW r v f w,.int .i64 0] (.tup [wdW r v f w',.bool true]):=by
 have V:=ZLq r v f w;have G:=dHq f w.cl;have j:acq ((euq (w.tr.map trW)).getD [])=true:=by rw[jJq];exact qBq _
 have W:w.cl.pc<7:=yGq hF;have L:=wpq r v f w ok hv Q X O;refine Afq (fn:=Tryz.f24) Y Y Y (Yb rfl) (λR k0=>?_);have S:aaq (.arr ((w.locks.map lkW).length*2) 2 (w.locks.map lkW))=true:=uvq _;generalize euq (w.tr.map trW)=o at j L sp
 obtain⟨E,U,P⟩:∃E,(E=5\/E=8)/\afq [6,3,4,5] 8 c=E:=by
  rcases M with ⟨rfl,rfl⟩|⟨rfl,rfl⟩
  .exact⟨5,.inl rfl,rfl⟩
  .exact⟨8,.inr rfl,rfl⟩
 have H:E∉[6,3,4,1]:=by simp only[ZB,ZW,or_false,not_or];omega
 refine zCq 12 Y (gC 0 Y J (zbq 9 Y ?_))
 (refine zhq rfl (yXq (yMq Y Y Y Y Y (by show(aaq (wdW r v f w)&&true)=true;rw[V];rfl) L ?_));rintro u hp1 nw1 ⟨rfl,rfl,rfl⟩;rw[Y8q,upq,uoq _ _ _ _ j,show ahq (afq [] 2) [(0,58,wdN r v w.pool w.hub (w.locks.map lkW).length 1 2 3 o),(1,144,.arr ((w.locks.map lkW).length*2) 2 (w.locks.map lkW)),(2,96,clW f w.cl)]=[(2,58,wdN r v w.pool w.hub (w.locks.map lkW).length 3 4 5 o),(3,144,meq w.locks),(4,96,clW f w.cl)] from(by rw[ahq,ahq,zZq G,Y8q,zdq S];rfl)];refine⟨_,ASq (b:=5) (ycq (l:=[1,0]) rfl Xg),q0q (ycq (l:=[2,3,4,1,0]) rfl Xg) (show [2,3,4,1,0].Nodup by decide),?_⟩)
 refine zeq 16 Y ?_
 (refine zhq rfl (q4q (us:=[]) (b0:=6) (b1:=3) (b2:=4) (b3:=5) Y Y Y Y Y (gkq G j) (.inl rfl) rfl G G j j Y Y Y (zSq Xg (zSq Xg (qhq (ycq (l:=[2,3,4,1,0]) rfl Xg)))) Xg Xg [(7,151,fnA),(1,58,wdZ)] (λk y B=>by rw[zfq] at B;split at B;(rename_i q;subst q;cases B;exact⟨by simp,rfl⟩);rw[zfq] at B;split at B;(rename_i q;subst q;cases B;exact⟨by simp,rfl⟩);simp[hget] at B) Xi Xi ?_))
 refine zeq 3 Y (gP 0 Y (kMq (i:=w.cl.pc) Y Y Y Y Y Y W) (gM 0 Y (zwq Y Y Y (Beq hF)) (zbq 1 Y ?_)))
 (refine zhq rfl (g0q (us:=[]) (b0:=6) (b1:=3) (b2:=4) (b3:=5) (A:=OutV f w') Y Y Z Y Y sp U P G j (λP' I L' C' K z=>⟨z.C.1,by obtain⟨T,rfl,t1,_⟩:=z.T;exact t1⟩) Y Y Y (qhq (ycq (l:=[6,3,4,7,1]) rfl Xg)) Xg Xg [(1,58,wdZ)] (λk y B=>by rw[zfq] at B;split at B;(rename_i q;subst q;cases B;exact⟨by simp,rfl⟩);simp[hget] at B) Xi Xi ?_);intro P' I L' C' K hO)
 exact zeq 13 Y (y0q Jr (show _=some (.tup [wdN r v P' I (L'.map lkW).length 3 4 E K,.bool true]) from rfl) (.tup (.cons (noq hO r v Y Y (daq (d:=1) (x:=(58,wdZ)) (λe=>H (by rw[<-e];simp)) rfl (qhq (ycq (l:=[6,3,4,1]) rfl H)))) (.cons (.pur rfl) .nil))))
end
section
attribute [local irreducible] CoW OpW FlW aeq ajq
theorem pEq{i:Int}(h:0<=i):bLq (.int .i64 i)=some i.toNat:=by
 obtain⟨k,rfl⟩:=Int.eq_ofNat_of_zero_le h;rfl
def shW:W:=.agg 1 [.nils]
def shsW(k:Nat):W:=.fz (List.replicate k shW) 1 false
theorem wVq:∀k:Nat,acq (List.replicate k shW)=true
 |0=>rfl
 |k+1=>by rw[List.replicate_succ];simp only[acq,wVq k];rfl
@[simp] theorem Caq(k:Nat):aaq (shsW k)=true:=wVq k
theorem a6q{d:Nat->Option W}{a b:W}(h:View d a b):∀n,ViewL d (List.replicate n a) (List.replicate n b)
 |0=>.nil
 |n+1=>by rw[List.replicate_succ,List.replicate_succ];exact .cons h (a6q h n)
def pl0(n:Nat):List Shd:=List.replicate n []
theorem CYq(n:Nat):plW (pl0 n)= .fz (List.replicate n (shdW [])) 1 false:=by
 unfold plW pl0;rw[List.map_replicate]
theorem Ahq(n:Int)(b:1<=n)(d:n<=8):PS cfg glK 22 [.int .i64 n] (.tup [plW (pl0 n.toNat),.int .i64 0]):=by
 rw[CYq];exact gIv 10 Y (λR e=>gF 0 Y (ltI_not.2 Xd) (gF 2 Y (ltI_not.2 Xd) (gM 9 Y (Zhq (l:=n.toNat) (c:=n.toNat) Y Y Y Y (pEq Xd) (pEq Xd) Y Y (Zb _) (by show 24*n.toNat<=_;omega) Xd Y Y) (zbq 5 Y (y0q Jr rfl (.tup (.cons (.sl2 (full:=false) (c:=.arr (n.toNat*1) 1 (List.replicate n.toNat shW)) (c':=.arr (n.toNat*1) 1 (List.replicate n.toNat (shdW []))) rfl (.arr (a6q (.agg (.cons .nilfz .nil)) _)) (zqq Xg (Z8 ..).symm rfl) Xj) (.cons (.pur rfl) .nil))))))))
def gnq(r:Ru)(l:List Pr):Int:=if okU r then(if okB l then 0 else 8) else 8
def pPq:Hb:=⟨0,[]⟩
theorem bWq{b:Nat->Option W}:View b (.agg 2 [.int .i64 0,.nils]) (hbW pPq):=.agg (vR (.cons .nilfz .nil))
def vw0(t:Tree)(a:T):Vw:=⟨0,false,0,pDq t a⟩
structure FirT(l:List Pr)(t:Tree)(n:Nat)(t0:T):Prop where
 is:IsA t n t0
 all:t0.all=l
 ok:okB l
 len:t.nodes.length<=257*l.length
def AutQ(r:Ru)(l:List Pr):W->Prop:=λw=>(gnq r l≠0/\∃L,w= .tup [.agg 52 L,.int .i64 (gnq r l)])\/(gnq r l=0/\okU r/\∃t n b,FirT l t n b/\w= .tup [amW (auI r (vw0 t b) (pl0 r.shards.toNat) pPq),.int .i64 0])
theorem lLq(r:Ru)(l:List Pr)(k:l.length<=1000000000):PE cfg glK 8 [ruG r,psW l] (AutQ r l):=by
 by_cases b:okU r
 .have j:=b;obtain⟨⟨m,q⟩,_⟩:=j;refine gIe 11 Y (λR x=>gC 0 Y (zrq (w':=.int .i64 0) (keq r) (by rw[Zl b])) (gF 6 Y zN (zbq 8 Y ?_)));skip
  refine gSo 0 Y (qfq Y Y Y Y Y (BBq l false k) Xi ?_);skip
  skip
  rintro w y (⟨hno,rfl⟩|⟨hok,t,n,t0,hA,hl,hn,rfl⟩)
  .have d:gnq r l=8:=by rw[gnq,Zl b,Zg hno]
   exact gT 12 Y (Zc not (eqI_not.2 Xg)) (zbq 13 Y (ybq Jr rfl (.pur Xp) Xp (.inl ⟨by rw[d];decide,_,by rw[d]⟩)))
  .have d:gnq r l=0:=by rw[gnq,Zl b,Zl hok]
   exact gF 12 Y zN (gC 9 Y (Ahq r.shards m q) (zbq 20 Y (ybq (w':=.tup [amW (auI r (vw0 t t0) (pl0 r.shards.toNat) pPq),.int .i64 0]) Jr rfl (.tup (.cons (.agg (.cons (.pur (jHq r)) (.cons (.pur (kbq (vw0 t t0))) (.cons (.pur (jwq _)) (.cons .nilfz (.cons .nilfz (.cons .nilfz (vR (.cons .nilfz (.cons bWq .nil)))))))))) (.cons (.pur rfl) .nil))) (by show(aaq (amW _)&&(true&&true))=true;rw[xhq];rfl) (.inr ⟨d,b,t,n,t0,⟨hA,hl,hok,hn⟩,rfl⟩))))
 .have d:gnq r l=8:=by rw[gnq,Zg b]
  exact gIe 11 Y (λR x=>gC 0 Y (zrq (w':=.int .i64 8) (keq r) (by rw[Zg b])) (gT 6 Y (Zc not (eqI_not.2 Xg)) (zbq 13 Y (ybq Jr rfl (.pur Xp) Xp (.inl ⟨by rw[d];decide,_,by rw[d]⟩)))))
@[simp] theorem taq(l:List Fs):acq (l.map flW)=true:=yvq kgq l
section
variable {G:Nat->Option W}
theorem AYq(d:List Fs)(f:Bool)(F:FuncId)(P:Fs->Prop) [DecidablePred P](C:∀x∈d,PS cfg G F [flW x] (.bool (decide (P x))))(m:cfg.ext F=none)(H:d.length<=1000000000):PE cfg G 36 [.fz (d.map flW) 1 f,.fn F [] []] (λw=>∃i:Int,w= .int .i64 i/\((∃x∈d,P x)↔0<=i)):=by
 refine gIe 9 Y (λR E=>gZ 0 Y (Ze _) ?_);refine gLo (α:=Nat) 4 (λi=>i<=d.length/\∀j x,j<i->d[j]? =some x->¬P x) (λi=>[(8,.int .i64 (i:Int))]) [0,1,4,7] (λi=>d.length-i) (0) rfl (⟨Zf _,λj x h=>by omega⟩) (λi A=>?_);obtain⟨D,v⟩:=A;refine gS 6 Y (λB=>?_) (λB=>?_)
 .obtain⟨x,g⟩:∃x,d[i]? =some x:=⟨_,Za Xd⟩
  refine gP 15 Y (zyq (i:=i) Y Y Y Y Y Y Y (ziq flW g)) (zbq 1 Y (bEq Y Y Y m Y Y (C x (Zj g)) Xi Xi (zeq 2 Y ?_)));refine gS 0 Y (λk=>?_) (λk=>?_)
  .exact gO 9 Y (zbq 2 Y (ybq (w':=.int .i64 (i:Int)) Jr rfl (.pur rfl) rfl ⟨_,rfl,λ_=>by omega,λ_=>⟨x,Zj g,k⟩⟩))
  .exact gA 4 Y (i+1) (gAg 2 Y (i+1) (⟨by omega,λj y hj s=>by rcases ZC.1 hj with q|rfl;exact v j y q s;exact ZA (g.symm.trans s)▸k⟩) Xd)
 .refine gO 2 Y (zbq 8 Y ?_)
  exact ybq (w':=.int .i64 (-1)) Jr rfl (.pur rfl) rfl ⟨_,rfl,λ⟨x,g,q⟩=>by
   obtain⟨j,hj⟩:=List.getElem?_of_mem g;exact absurd q (v j x Yq hj),λh=>absurd h Xg⟩
theorem Byq(a:List Fs)(f:Bool)(F:FuncId)(P:Fs->Prop) [DecidablePred P](d:∀x∈a,PS cfg G F [flW x] (.bool (decide (P x))))(c:cfg.ext F=none)(e:a.length<=1000000000) [Decidable (∃x∈a,P x)]:PS cfg G 14 [.fz (a.map flW) 1 f,.fn F [] []] (.bool (decide (∃x∈a,P x))):=by
 refine gI 9 Y (λR h=>?_);refine gE 0 Y (AYq a f F P d c e) ?_;rintro w g ⟨i,rfl,hi⟩;refine gU 0 Y ?_;exact gQ 4 Y Je
theorem oSq(l:Fs):PS cfg G 15 [flW l] (.bool (decide (32<l.length))):=by
 by_cases h:32<l.length
 .skip
  exact gI 8 Y (λR a=>gZ 0 Y (Ze _) (gT 0 Y (ltI_iff.2 Xd) (gQ 4 Y (Xhq h))))
 .skip
  exact gI 8 Y (λR a=>gZ 0 Y (Ze _) (gF 0 Y (ltI_not.2 Xd) (gQ 4 Y (uHq h))))
theorem AVq(F:FuncId):PS cfg G 37 [.nils,.fn F [] []] (.int .i64 (-1)):=by
 refine gI 9 Y (λR b=>gL 0 Y ?_);refine gLo (α:=Nat) 4 (λi=>i=0) (λi=>[(8,.int .i64 (i:Int))]) [0,1,4,7] (λi=>0) (0) rfl (rfl) (λi a=>?_);subst a;exact gO 9 Y (gQa 8 Y)
theorem Bvq(F:FuncId):PS cfg G 16 [.nils,.fn F [] []] (.bool false):=by
 refine gI 9 Y (λR a=>?_);refine gC 0 Y (AVq F) ?_;refine gU 0 Y ?_;exact gQa 4 Y
end
def rv0:Rv:=rvE 0 0 0 itZ
def wd0(r:Ru):Wd:=⟨List.replicate (r.shards.toNat+1) 0,pl0 r.shards.toNat,pPq,⟨0,0,aq0,none,rv0⟩,[]⟩
def sgq(R L V S C:W):W:=.agg 158 [R,L,V,S,.agg 2 [.int .i64 0,.nils],C,exZ,.nils,.nils,.nils]
theorem oVq{b:Nat->Option W}:View b aqR (aqW aq0):=.agg (vR (.cons YEq (.cons zYq (vR (.cons (.pur rfl) .nil)))))
theorem uZq{a:Nat->Option W}:View a rpR (rvW rv0):=qXq qFq
theorem ffq{d:Nat->Option W}(b:Fs)(k:Nat):View d (clN b k) (clW b ⟨k,0,aq0,none,rv0⟩):=.agg (.cons (.pur (kgq b)) (vR (vR (.cons oVq (vR (.cons uZq .nil))))))
def WldQ(r:Ru)(l:List Pr)(c:Fs):W->Prop:=λw=>(gnq r l≠0/\∃L,w= .tup [.agg 158 L,.int .i64 (gnq r l)])\/(gnq r l=0/\okU r/\∃t n b,FirT l t n b/\w= .tup [wdW r (vw0 t b) c (wd0 r),.int .i64 0])
theorem m4q(c:Nat->Nat)(r:Ru)(v:Vw)(P:List Shd)(a n b m:Nat):adq c (sgq (ruG r) (.sl a 0 0 n 2 none) (vwG v) (plW P) (.sl b 0 0 m 383 none))=sgq (ruG r) (.sl (c a) 0 0 n 2 none) (vwG v) (plW P) (.sl (c b) 0 0 m 383 none):=by
 unfold sgq;simp only[adq,yVq,zdq (jHq r),zdq (kbq v),zdq (jwq P),zdq x1q]
theorem m5q{k:Nat}(r:Ru)(v:Vw)(P:List Shd){a n b m:Nat}(c:a<k)(d:b<k):agq k (sgq (ruG r) (.sl a 0 0 n 2 none) (vwG v) (plW P) (.sl b 0 0 m 383 none))=true:=by
 unfold sgq;simp only[agq,asq,zaq (jHq r),zaq (kbq v),zaq (jwq P),zaq x1q];simp[c,d]
def lk0(n:Nat):W:=.arr (n*2) 2 (List.replicate n (lkW 0))
theorem ddq(n:Nat):aaq (lk0 n)=true:=by
 have:=uvq (List.replicate n 0);rw[List.map_replicate] at this;exact this
def Ekq(r:Ru)(t:Tree)(b:T)(c:Fs):Nat->HpW
 |0=>[(4,58,sgq (ruG r) (.sl 3 0 0 (r.shards.toNat+1) 2 none) (vwG (vw0 t b)) (plW (pl0 r.shards.toNat)) .nils),(3,144,lk0 (r.shards.toNat+1)),(2,64,amW (auI r (vw0 t b) (pl0 r.shards.toNat) pPq)),(1,58,wdZ),(0,25,ruG r)]
 |_+1=>[(4,58,sgq (ruG r) (.sl 3 0 0 (r.shards.toNat+1) 2 none) (vwG (vw0 t b)) (plW (pl0 r.shards.toNat)) (.sl 5 0 0 1 383 none)),(3,144,lk0 (r.shards.toNat+1)),(2,64,amW (auI r (vw0 t b) (pl0 r.shards.toNat) pPq)),(1,58,wdZ),(0,25,ruG r),(5,96,.arr 383 383 [clN c 0])]
theorem ZKq:aaq wdZ=true:=by decide+kernel
theorem mnq(r:Ru)(l:List Pr)(F:l.length<=1000000000)(d:Fs)(M:d.length<=32)(I:∀y∈d,y.length<=400):PE cfg glK 7 [ruG r,psW l,.fz [flW d] 1 false,.nils] (WldQ r l d):=by
 have C:=Byq (G:=glK) [d] false 15 (λl=>32<l.length) (λx _=>oSq x) rfl Xi;have v:=zrq (w':=.bool false) C (Zc W.bool (Zw λ⟨x,D,S⟩=>by obtain rfl:=YH.1 D;omega));have j:aaq (.fz [flW d] 1 false)=true:=by show(aaq (flW d)&&true)=true;rw[kgq];rfl
 refine gIe 11 Y (λR O=>?_);skip
 refine gSo 0 Y (qfq Y Y Y Y Y (lLq r l F) Xi ?_);skip
 skip
 rintro w N (⟨he,L,rfl⟩|⟨he,hr,t,n,t0,hF,rfl⟩)
 .refine gT 12 Y (Zc not (eqI_not.2 (he))) ?_;refine zbq 13 Y ?_;exact ybq Jr rfl (.pur Xp) Xp (.inl ⟨he,_,rfl⟩)
 .obtain⟨⟨P,K⟩,_⟩:=id hr;refine gF 12 Y zN ?_;refine gL 9 Y ?_;refine gF 0 Y (ltI_not.2 (by show¬(8:Int)<1;decide)) ?_;refine gL 2 Y ?_;refine gF 0 Y (ltI_not.2 Xg) ?_;refine gC 3 Y v ?_;refine gC 10 Y (Bvq _) ?_;refine gA 10 Y (r.shards.toNat+1) ?_;refine gM 0 Y (Zhq (l:=r.shards.toNat+1) (c:=r.shards.toNat+1) Y Y Y Y Y Y Y Y (Zb _) (by show 32*(r.shards.toNat+1)<=_;omega) Xd Y Y) ?_;refine gC 5 Y (DEq) ?_;refine gL 9 Y ?_;refine jxq (λ_=>e1q (fr2:=[(53,.fz [flW d] 1 false),(54,.int .i64 1),(12,.ptr 4 0),(8,.ptr 1 0),(9,.int .i64 0)]) ⟨rfl,rfl,rfl,rfl,rfl,trivial⟩) ?_;refine z5q Y Y ?_
  refine zeq 3 Y ?_;refine jzq (α:=Nat) (λi=>i<=1) (λi=>[(55,.int .i64 (i:Int))]) [(8,_),(9,_),(12,_),(53,_),(54,_)] (λi=>Ekq r t t0 d i) (λi=>1-i) (0) ⟨rfl,rfl,rfl,rfl,rfl,trivial⟩ (Zf _) ⟨rfl,trivial⟩ (rfl) (λi J=>?_);have q:=xhq (auI r (vw0 t t0) (pl0 r.shards.toNat) pPq);refine zCq 6 Y ?_;refine gS 0 Y (λD=>?_) (λD=>?_)
  .obtain rfl:i=0:=by omega
   have B:=dIq d 0;have A:aaq (.arr 383 383 [clN d 0])=true:=by show(aaq (clN d 0)&&true)=true;rw[B];rfl
   refine gP 6 Y (zyq (i:=0) Y Y Y Y Y Y Y Y) ?_;refine gC 8 Y (ePq d false Xd (λx H=>by have:=I x H;omega)) ?_;refine gM 2 Y (yLq Y Y (gcq (o:=none) (b:=0) (ty:=96) (news:=[clN d 0]) (k:=CGq) Y Y Y Y Y (j3q Y Y Y Y) Xi (by show(0+1)*680<=_;omega) (by show 0+1<=_;omega) (λl E=>by cases E))) ?_;refine gA 6 Y (1) ?_;refine zbq 2 Y ?_;skip
   refine y6q 1 (Zb _) Xd ?_;refine yiq (b:=5) (k:=7) Xd Xd Xd ⟨⟨rfl,rfl⟩,⟨rfl,rfl⟩,⟨rfl,rfl⟩,⟨rfl,rfl⟩,⟨by rw[zdq j];rfl,zaq j⟩,⟨rfl,rfl⟩,trivial⟩ ⟨⟨by omega,by rw[m4q];rfl,m5q _ _ _ Xd Xd⟩,⟨by omega,by rw[zdq (ddq _)];rfl,zaq (ddq _)⟩,⟨by omega,by rw[zdq q];rfl,zaq q⟩,⟨by omega,by rw[zdq ZKq];rfl,zaq ZKq⟩,⟨by omega,by rw[zdq (jHq _)];rfl,zaq (jHq _)⟩,⟨by omega,by rw[zdq A];rfl,zaq A⟩,trivial⟩ (by simp[Ekq])
  .obtain rfl:i=1:=by omega
   refine zbq 2 Y ?_;refine qQq Xj ?_;refine zRq 10 Y ?_;have Q:lk0 (r.shards.toNat+1)= .arr ((r.shards.toNat+1)*2) 2 (List.replicate (r.shards.toNat+1) (lkW 0)):=rfl;refine ybq (w':=.tup [wdW r (vw0 t t0) d (wd0 r),.int .i64 0]) Jr rfl (.tup (.cons (.agg (.cons (.pur (jHq r)) (.cons ?_ (.cons (.pur (kbq (vw0 t t0))) (.cons (.pur (jwq _)) (.cons bWq (.cons (.sl2 (c:=.arr 383 383 [clN d 0]) (c':=.arr 383 383 [clW d ⟨0,0,aq0,none,rv0⟩]) rfl (.arr (.cons (ffq d 0) .nil)) rfl Xj) (.cons (.pur x1q) (vR (vR (.cons (.pur rfl) .nil))))))))))) (.cons (.pur rfl) .nil))) (by show(aaq (wdW _ _ _ _)&&(true&&true))=true;rw[ZLq];rfl) (.inr ⟨he,hr,t,n,t0,hF,rfl⟩);show View _ (.sl 3 0 0 (r.shards.toNat+1) 2 none) (.fz ((List.replicate (r.shards.toNat+1) (0:Int)).map lkW) 2 false);rw[List.map_replicate];exact .sl (full:=false) (c:=lk0 (r.shards.toNat+1)) rfl (ddq _) (zqq Xg Xi rfl) Xj
theorem cl0n:PS cfg glK 160 [.nils] .nils:=by
 refine c3q (fn:=Tryz.f160) Y Y Y (Yb rfl) (λR a=>?_);skip
 exact zCq 20 Y (gQa 0 Y)
theorem CDq:PS cfg glK 92 [.agg 2 [.nils,.int .i64 0]] (.agg 2 [.nils,.int .i64 0]):=by
 refine gI 10 Y (λR c=>gC 0 Y (cl0n) (gL 9 Y ?_));refine gLo (α:=Nat) 4 (λi=>i=0) (λi=>[(11,.int .i64 (i:Int))]) [1,2,10] (λi=>0) (0) rfl (rfl) (λi b=>?_);subst b;exact gO 9 Y (gQa 9 Y)
theorem trn0:PS cfg glK 186 [.nils,.fn 187 [] []] .nils:=by
 refine gI 14 Y (λR b=>gL 0 Y ?_);refine gLo (α:=Nat) 4 (λi=>i=0) (λi=>[(9,.int .i64 (i:Int))]) [1,4,5,8,10] (λi=>0) (0) rfl (rfl) (λi a=>?_);subst a;exact gO 9 Y (gQa 9 Y)
theorem DFq:PS cfg glK 121 [sGq] (sGq):=by
 exact gI 10 Y (λR a=>gC 0 Y (CDq) (gC 2 Y (trn0) (gQa 5 Y)))
theorem CAq:PS cfg glK 63 [wdq] (wdq):=by
 exact gI 10 Y (λR a=>gC 0 Y (DFq) (gQa 11 Y))
theorem sfq{l:List UInt8}(h:(rdQ l).2≠0):(rdQ l).1=aq0:=by
 cases l with
 |nil=>rfl
 |cons k r=>
  by_cases b:k.toNat=1/\r.length=120/\(aEq r).2≠0
  .have e:rdQ (k::r)=(aq0,(aEq r).2):=Zl b;rw[e]
  .have e:rdQ (k::r)=wgq (goq (k.toNat:Int)) (aXq (cjq (k.toNat:Int)) (aqK (k.toNat:Int),r,false)):=Zg b;rw[e] at h⊢;unfold wgq at h⊢;split at h
   .exact absurd rfl h
   .rename_i q;rw[Zg q]
theorem teq{l:List Pr}{t:Tree}{n:Nat}{a:T}(F:FirT l t n a):MayC (pDq t a):=by
 refine⟨by simp[pDq],by simp[pDq],λx e=>by cases e;rfl,λi x e=>?_⟩;have b:=yGq e;obtain rfl:i=0:=by simp[pDq] at b;exact b
 cases e;exact⟨rfl,⟨by show(0:Int)<=0;decide,by show(0:Int)<=1073741824;decide,by show(0:Int)<=0;decide,by show(0:Int)<=256;decide⟩,λy c=>absurd c Xg,rfl,⟨Zf _,Zf _,λx h=>by cases h⟩,n,a,F.is⟩
theorem JXq{l:List Pr}{t:Tree}{n:Nat}{b:T}(F:FirT l t n b):OkC (pDq t b):=by
 have c:t.nodes.length<=4611686018427387903:=Zt F.is.len Xd;refine⟨λx a=>?_,c,by show(1:Nat)<=_;omega,λx a=>?_⟩
 .rw[YH.1 a];exact⟨λ_ q=>(by cases q),λ_ q=>(by cases q),Zf _,Zf _⟩
 .rw[YH.1 a];exact Zf _
theorem sCq{ns:List Node}(h:okN ns):∀x∈ns,x.val.length<=64:=λx b=>by
 obtain⟨i,a⟩:=List.getElem?_of_mem b;obtain⟨c,k,v,l,r⟩:=x;cases c with
 |true=>exact(vxq h a).2
 |false=>
  have q:=h i _ a;unfold aKq at q;rw[Zg (λq=>by cases q)] at q;have e:v=[]:=q.2.2.2.1;subst e;exact Zf _
theorem b4q{l:List Pr}{t:Tree}{n:Nat}{b:T}(F:FirT l t n b):SmallC (pDq t b):=by
 have d:t.nodes.length<=262144:=F.is.len;have c:=sCq (ns:=t.nodes) F.is.okn;refine⟨by show t.nodes.length<=_;omega,λx a=>by have:=c x a;omega,by show(1:Nat)<=_;omega,λx a=>?_⟩;rw[YH.1 a];exact⟨Zf _,Zf _,Zf _⟩
theorem u6q{l:List Pr}{t:Tree}{n:Nat}{a:T}(F:FirT l t n a):ggq (vw0 t a):=⟨teq F,by show(0:Int)<=0;decide,by show(0:Int)<1;decide,by show(0:Int)<=0;decide,by show(0:Int)<=1073741823;decide⟩
theorem qOq{l:List Pr}{t:Tree}{n:Nat}{a:T}(F:FirT l t n a):PS cfg glT 63 [vwG (vw0 t a)] (vwG (vw0 t a)):=Yyq kkq (ryq (vw0 t a) (b4q F) (by show [_]≠[];simp))
theorem uVq{b:Nat->Option W}{k:Int}{i:Nat}{f z:W}{d:List UInt8}{x:Rv}(e:View b f (bW d))(h:View b z (rvW x)):View b (trR k i f z) (trW ⟨k,i,d,x⟩):=.agg (vR (vR (vR (.cons e (.cons h (.cons (.agg (vR (.cons .nilfz (.cons (.agg (vR (.cons zYq (vR (.cons (.pur rfl) .nil))))) (.cons (.pur rfl) .nil))))) .nil))))))
theorem vUq{a:Nat->Option W}:∀{l:List W},acq l=true->ViewL a l l
 |[],_=>.nil
 |x::l,h=>by
  have h:(aaq x&&acq l)=true:=h;rw[Zd] at h;exact .cons (.pur h.1) (vUq h.2)
theorem vVq{b:Nat->Option W}{x y:W}:∀{l d:List W},ViewL b l d->View b x y->ViewL b (l++[x]) (d++[y])
 |_,_,.nil,h=>.cons h .nil
 |_,_,.cons a k,h=>.cons a (vVq k h)
theorem cDq(l:List TrE)(x:TrE):(l++[x]).map trW=l.map trW++[trW x]:=by rw[Z4];rfl
def frK(a:Fs)(k:Nat):List UInt8:=(a[k]?).getD []
section
variable (r:Ru) (t0:T) (rd:Aq->Rp) (cs:Fs)
def tUq(S:List Shd×Hb)(f:List UInt8):Rv×List Shd×Hb:=mkq r (λk=>(yBq t0 k).nonce) 0 rd S.1 S.2 f
def stS:Nat->List Shd×Hb
 |0=>(pl0 r.shards.toNat,pPq)
 |k+1=>(tUq r t0 rd (stS k) (frK cs k)).2
def rvS(k:Nat):Rv:=(tUq r t0 rd (stS r t0 rd cs k) (frK cs k)).1
def trS:Nat->List TrE
 |0=>[]
 |k+1=>((trS k++[⟨1,k,frK cs k,rv0⟩])++[⟨2,k,[],rv0⟩])++[⟨3,k,[],rvS r t0 rd cs k⟩]
def L0:List Int:=List.replicate (r.shards.toNat+1) 0
def plK(k:Nat):Nat:=(bzq (stS r t0 rd cs k).1.length (rdQ (frK cs k)).1).toNat
def L1(k:Nat):List Int:=(L0 r).set (plK r t0 rd cs k) 1
def tr1(k:Nat):List TrE:=trS r t0 rd cs k++[⟨1,k,frK cs k,rv0⟩]
def tr2(k:Nat):List TrE:=tr1 r t0 rd cs k++[⟨2,k,[],rv0⟩]
def w0(k:Nat):Wd:=⟨L0 r,(stS r t0 rd cs k).1,(stS r t0 rd cs k).2,⟨k,0,aq0,none,rv0⟩,trS r t0 rd cs k⟩
def w1(k:Nat):Wd:=⟨L0 r,(stS r t0 rd cs k).1,(stS r t0 rd cs k).2,⟨k,1,(rdQ (frK cs k)).1,none,rv0⟩,tr1 r t0 rd cs k⟩
def w2(k:Nat):Wd:=⟨L1 r t0 rd cs k,(stS r t0 rd cs k).1,(stS r t0 rd cs k).2,⟨k,2,(rdQ (frK cs k)).1,none,rv0⟩,tr1 r t0 rd cs k⟩
def w3(v:Vw)(k:Nat):Wd:=⟨L1 r t0 rd cs k,(stS r t0 rd cs k).1,(stS r t0 rd cs k).2,⟨k,3,(rdQ (frK cs k)).1,some v,rv0⟩,tr2 r t0 rd cs k⟩
def w4(k:Nat):Wd:=⟨L1 r t0 rd cs k,(stS r t0 rd cs (k+1)).1,(stS r t0 rd cs (k+1)).2,⟨k,4,(rdQ (frK cs k)).1,none,rvS r t0 rd cs k⟩,tr2 r t0 rd cs k⟩
def w5(v:Vw)(k:Nat):Wd:=⟨L0 r,(stS r t0 rd cs k).1,(stS r t0 rd cs k).2,⟨k,5,(rdQ (frK cs k)).1,some v,rv0⟩,tr2 r t0 rd cs k⟩
def w6(k:Nat):Wd:=⟨L0 r,(stS r t0 rd cs (k+1)).1,(stS r t0 rd cs (k+1)).2,⟨k,6,(rdQ (frK cs k)).1,none,rvS r t0 rd cs k⟩,tr2 r t0 rd cs k⟩
end
structure Cx(r:Ru)(l:List Pr)(t:Tree)(n:Nat)(t0:T)(rd:Aq->Rp)(cs:Fs):Prop where
 F:FirT l t n t0
 ru:okU r
 cl:cs.length<=12
 cx:∀y∈cs,y.length<=400
 hrd:∀q,(rd q).kind=q.kind/\PS cfg glK 76 [ruG r,vwG (vw0 t t0),aqW q] (rpW (rd q))
 hrl:∀q,(rd q).pr.l.length<=1000000000
section
variable {r:Ru} {l:List Pr} {t:Tree} {n:Nat} {t0:T} {rd:Aq->Rp} {cs:Fs} (X:Cx r l t n t0 rd cs)
include X
theorem ZRq:∀k,k<=12->GoodA (2*k) r (stS r t0 rd cs k).1 (stS r t0 rd cs k).2
 |0,_=>by
  have b:(pl0 r.shards.toNat).length=r.shards.toNat:=Z8 ..;refine⟨X.ru,by show((pl0 r.shards.toNat).length:Int)=_;rw[b];have:=X.ru.1;omega,λi s a=>?_,⟨⟨⟨by show(0:Int)<=0;decide,by show(0:Int)<1073741824;decide⟩,Zf _⟩,λi s a=>by have a:([]:List Sb)[i]? =some s:=a;simp at a⟩⟩;have a:(List.replicate r.shards.toNat ([]:Shd))[i]? =some s:=a;obtain rfl:s=[]:=(List.mem_replicate.1 (Zj a)).2;exact⟨λ_ q=>(by cases q),.nil,Zf _⟩
 |k+1,h=>by
  have:=oXq (ZRq k Xd) Xd (λk=>(yBq t0 k).nonce) 0 rd (frK cs k);rw[show 2*(k+1)=2*k+2 by omega];exact this
omit X in
theorem s9q{k:Nat}(a:k<cs.length):cs[k]? =some (frK cs k):=by
 rw[frK,Za a];rfl
theorem eQq(k:Nat):(frK cs k).length<=400:=by
 unfold frK;cases e:cs[k]? with
 |none=>exact Zf _
 |some y=>exact X.cx y (Zj e)
theorem ecq(k:Nat):(rvS r t0 rd cs k).x.pr.l.length<=1000000000:=by
 have f:∀a b c d,(rvE a b c d).x.pr.l.length<=1000000000:=λ_ _ _ _=>Zf _
 unfold rvS tUq mkq aMq;repeat' split
 all_goals first|exact f _ _ _ _|exact X.hrl _
omit X in
theorem vdq:∀k,(trS r t0 rd cs k).length=3*k
 |0=>rfl
 |k+1=>by
  show(((trS r t0 rd cs k++[_])++[_])++[_]).length=_;simp[vdq k];omega
theorem plq:∀k,∀e∈trS r t0 rd cs k,e.frame.length<=1000/\e.rp.x.pr.l.length<=1000000000
 |0,e,d=>by cases d
 |k+1,e,d=>by
  rcases ZO.1 d with d|d
  .rcases ZO.1 d with d|d
   .rcases ZO.1 d with d|d
    .exact plq k e d
    .obtain rfl:=YH.1 d;exact⟨by have:=eQq X k;show(frK cs k).length<=_;omega,Zf _⟩
   .obtain rfl:=YH.1 d;exact⟨Zf _,Zf _⟩
  .obtain rfl:=YH.1 d;exact⟨Zf _,ecq X k⟩
theorem Kkq{w:Wd}{k:Nat}(y:k<=12)(q:w.locks.length=r.shards.toNat+1)(j:w.cl.rp=rv0\/w.cl.rp=rvS r t0 rd cs k)(f:w.tr=trS r t0 rd cs k\/w.tr=tr1 r t0 rd cs k\/w.tr=tr2 r t0 rd cs k):WdOk cs w:=by
 have v:=X.ru.1;have u:=vdq (r:=r) (t0:=t0) (rd:=rd) (cs:=cs) k;have d:∀e∈tr2 r t0 rd cs k,e.frame.length<=1000/\e.rp.x.pr.l.length<=1000000000:=λe b=>plq X (k+1) e (List.mem_append_left _ b)
 refine⟨by omega,by omega,by have:=X.cl;omega,λx h=>by have:=X.cx x h;omega,?_,?_,?_⟩
 .rcases j with e|e<;>rw[e]
  .exact Zf _
  .exact ecq X k
 .rcases f with e|e|e<;>rw[e]
  .omega
  .simp only[tr1,Zh,Zo,ZP];omega
  .simp only[tr2,tr1,Zh,Zo,ZP];omega
 .rcases f with e|e|e<;>rw[e]
  .exact λe b=>d e (List.mem_append_left _ (List.mem_append_left _ b))
  .exact λe b=>d e (List.mem_append_left _ b)
  .exact d
end
theorem npq{cs:Fs}{w:Wd}{C:W}{l:List TrE}{x:W}{e:TrE}(f:aaq C=true)(h:∀a,View a C (clW cs w.cl))(c:w.tr=l++[e])(d:aaq x=true)(b:∀a,View a x (trW e)):OutV cs w w.pool w.hub w.locks C (some ((euq (l.map trW)).getD []++[x])):=by
 rw[jJq];refine⟨rfl,rfl,rfl,⟨f,h⟩,_,rfl,?_,λa=>?_,by rw[c];simp⟩
 .rw[qsq,qBq];show(true&&(aaq x&&true))=true;rw[d];rfl
 .rw[c,cDq];exact vVq (vUq (qBq l)) (b a)
theorem nqq{d:Fs}{w:Wd}{C:W}{l:List TrE}(e:aaq C=true)(f:∀b,View b C (clW d w.cl))(c:w.tr=l)(a:l≠[]):OutV d w w.pool w.hub w.locks C (some (l.map trW)):=
 ⟨rfl,rfl,rfl,⟨e,f⟩,_,rfl,qBq l,λb=>by rw[c];exact vUq (qBq l),by rw[c];exact a⟩
theorem xTq{l:List TrE}(h:l≠[]):euq (l.map trW)=some (l.map trW):=by
 cases l with
 |nil=>exact absurd rfl h
 |cons x l=>rfl
theorem C2q{h:Fs}{w:Wd}{C:W}{l:List TrE}{x y:W}{e f:TrE}(k:aaq C=true)(m:∀a,View a C (clW h w.cl))(d:w.tr=(l++[e])++[f])(i:aaq x=true)(b:∀a,View a x (trW e))(j:aaq y=true)(c:∀a,View a y (trW f)):OutV h w w.pool w.hub w.locks C (some (((euq (l.map trW)).getD []++[x])++[y])):=by
 rw[jJq];refine⟨rfl,rfl,rfl,⟨k,m⟩,_,rfl,?_,λa=>?_,by rw[d];simp⟩
 .rw[qsq,qsq,qBq];show((true&&(aaq x&&true))&&(aaq y&&true))=true;rw[i,j];rfl
 .rw[d,cDq,cDq];exact vVq (vVq (vUq (qBq l)) (b a)) (c a)
theorem vnq:PS cfg glT 63 [vwO none] (vwO none):=Yyq kkq CAq
section
variable {r:Ru} {l:List Pr} {t:Tree} {n:Nat} {t0:T} {rd:Aq->Rp} {cs:Fs} (X:Cx r l t n t0 rd cs)
include X
theorem xDq(j:Nat)(b:j<=12):PS cfg glT 64 [plW (stS r t0 rd cs j).1] (plW (stS r t0 rd cs j).1):=by
 have a:=(ZRq X j b).sm (v:=vw0 t t0) Xd;exact pzq _ a.pool a.shards
theorem vWq(j:Nat)(b:j<=12):PS cfg glT 65 [hbW (stS r t0 rd cs j).2] (hbW (stS r t0 rd cs j).2):=by
 have a:=(ZRq X j b).sm (v:=vw0 t t0) Xd;exact pQq _ a.subs a.taps
theorem d6q(j:Nat)(a:j<=12):(stS r t0 rd cs j).1.length=r.shards.toNat:=by
 have:=(ZRq X j a).len;omega
theorem v0q(j:Nat)(a:j<=12):1<=(stS r t0 rd cs j).1.length/\(stS r t0 rd cs j).1.length<=8:=by
 have:=d6q X j a;have:=X.ru.1;omega
def LkQ(q:Aq):Prop:=q.kind=1\/q.kind=6\/q.kind=7\/q.kind=8
theorem CXq{q:Aq}(h:LkQ q)(j:Nat)(b:j<=12):∃i:Nat,bzq (stS r t0 rd cs j).1.length q=(i:Int)/\i<r.shards.toNat+1:=by
 have e:=d6q X j b;have c:=v0q X j b;rw[e] at c⊢;unfold bzq;by_cases a:q.kind=1
 .rw[Zl a];exact⟨_,rfl,Nat.lt_succ_of_lt (Nat.mod_lt _ Xd)⟩
 .rw[Zg a,Zl (by rcases h with h|h;exact absurd h a;exact h)];exact⟨_,rfl,by omega⟩
theorem h3q{j:Nat}(f:j<12)(h:LkQ (rdQ (frK cs j)).1):bzq (stS r t0 rd cs j).1.length (rdQ (frK cs j)).1=(plK r t0 rd cs j:Int)/\bzq (stS r t0 rd cs (j+1)).1.length (rdQ (frK cs j)).1=(plK r t0 rd cs j:Int)/\(L0 r)[plK r t0 rd cs j]? =some 0/\(L1 r t0 rd cs j)[plK r t0 rd cs j]? =some 1/\(L1 r t0 rd cs j).set (plK r t0 rd cs j) 0=L0 r/\(L1 r t0 rd cs j).length=r.shards.toNat+1:=by
 obtain⟨i,e,c⟩:=CXq X h j Xd;have d:plK r t0 rd cs j=i:=by rw[plK,e];rfl
 have b:(L0 r).length=r.shards.toNat+1:=Z8 ..;have a:(L0 r)[i]? =some 0:=by unfold L0;rw[List.getElem?_replicate,Zl c]
 rw[L1,d];refine⟨e,?_,a,?_,?_,by rw[YI,b]⟩
 .rw[d6q X (j+1) Xd,<-d6q X j Xd];exact e
 .rw[List.getElem?_set_self (by rw[b];exact c)]
 .rw[List.set_set,jrq a]
variable {k:Nat} (hk:k<cs.length)
include hk
theorem b_ok(f:(rdQ (frK cs k)).2=0):PS cfg glT 24 [wdW r (vw0 t t0) cs (w0 r t0 rd cs k),.int .i64 0] (.tup [wdW r (vw0 t t0) cs (w1 r t0 rd cs k),.bool true]):=by
 have d:=X.cl;have j:=vdq (r:=r) (t0:=t0) (rd:=rd) (cs:=cs) k;refine xzq (w:=w0 r t0 rd cs k) (w':=w1 r t0 rd cs k) (Kkq X (k:=k) Xd (Z8 ..) (.inl rfl) (.inl rfl)) (qOq X.F) (xDq X k Xd) (vWq X k Xd) vnq (zrq (oHq rfl) (Zc W.bool (Zq hk))) (F:=48) Y Y (c:=4) (m:=5) (.inr ⟨rfl,rfl⟩) (yRq (oQq (s9q hk) (eQq X k) (by rw[jJq];exact qBq _) (by rw[jJq,Ze];show(trS r t0 rd cs k).length<=_;omega) f) ?_);rintro u s q ⟨rfl,rfl,rfl⟩;exact⟨rfl,⟨_,_,_,_,_,npq (w:=w1 r t0 rd cs k) (l:=trS r t0 rd cs k) (e:=⟨1,k,frK cs k,rv0⟩) (yTq (ytq _)) (λa=>.pur (yTq (ytq _))) rfl (ugq (Jiq _) jdq) (λa=>uVq (.pur (Jiq _)) uZq),rfl⟩,rfl⟩
theorem b_no(d:(rdQ (frK cs k)).2≠0):PS cfg glT 24 [wdW r (vw0 t t0) cs (w0 r t0 rd cs k),.int .i64 0] (.tup [wdW r (vw0 t t0) cs (w6 r t0 rd cs k),.bool true]):=by
 have A:=X.cl;have C:=vdq (r:=r) (t0:=t0) (rd:=rd) (cs:=cs) k;have q:tUq r t0 rd (stS r t0 rd cs k) (frK cs k)=(rvE 0 (rdQ (frK cs k)).2 0 itZ,stS r t0 rd cs k):=Zg d;have v:stS r t0 rd cs (k+1)=stS r t0 rd cs k:=by rw[stS,q]
 have x:rvS r t0 rd cs k=rvE 0 (rdQ (frK cs k)).2 0 itZ:=by rw[rvS,q]
 have y:=sfq d;have B:w6 r t0 rd cs k=⟨L0 r,(stS r t0 rd cs k).1,(stS r t0 rd cs k).2,⟨k,6,aq0,none,rvE 0 (rdQ (frK cs k)).2 0 itZ⟩,tr2 r t0 rd cs k⟩:=by rw[w6,v,x,y]
 rw[B];refine xzq (w:=w0 r t0 rd cs k) (Kkq X (k:=k) Xd (Z8 ..) (.inl rfl) (.inl rfl)) (qOq X.F) (xDq X k Xd) (vWq X k Xd) vnq (zrq (oHq rfl) (Zc W.bool (Zq hk))) (F:=48) Y Y (c:=4) (m:=5) (.inr ⟨rfl,rfl⟩) (yRq (oRq (s9q hk) (eQq X k) (by rw[jJq];exact qBq _) (by rw[jJq,Ze];show(trS r t0 rd cs k).length<=_;omega) d) ?_);rintro u E D ⟨rfl,rfl,rfl⟩;exact⟨rfl,⟨_,_,_,_,_,C2q (w:=⟨L0 r,(stS r t0 rd cs k).1,(stS r t0 rd cs k).2,⟨k,6,aq0,none,rvE 0 (rdQ (frK cs k)).2 0 itZ⟩,tr2 r t0 rd cs k⟩) (l:=trS r t0 rd cs k) (e:=⟨1,k,frK cs k,rv0⟩) (f:=⟨2,k,[],rv0⟩) (yTq (qgq rfl)) (λj=>.agg (.cons (.pur (kgq cs)) (vR (vR (.cons (.pur (zLq _)) (vR (.cons (qXq qFq) .nil))))))) rfl (ugq (Jiq _) jdq) (λj=>uVq (.pur (Jiq _)) uZq) (ugq rfl jdq) (λj=>uVq .nilfz uZq),rfl⟩,rfl⟩
theorem t_r(j:¬LkQ (rdQ (frK cs k)).1):PS cfg glT 24 [wdW r (vw0 t t0) cs (w1 r t0 rd cs k),.int .i64 0] (.tup [wdW r (vw0 t t0) cs (w5 r t0 rd cs (vw0 t t0) k),.bool true]):=by
 have v:=X.cl;have y:=vdq (r:=r) (t0:=t0) (rd:=rd) (cs:=cs) k
 have a:bzq (stS r t0 rd cs k).1.length (rdQ (frK cs k)).1=-1:=by
  unfold LkQ at j;rw[bzq,Zg Xd,Zg Xd]
 have q:=xTq (l:=tr1 r t0 rd cs k) (by simp[tr1]);refine xzq (w:=w1 r t0 rd cs k) (w':=w5 r t0 rd cs (vw0 t t0) k) (Kkq X (k:=k) Xd (Z8 ..) (.inl rfl) (.inr (.inl rfl))) (qOq X.F) (xDq X k Xd) (vWq X k Xd) vnq (Jcq (show(1:Nat)≠0 by decide) (show(1:Nat)≠2 by decide)) (F:=49) Y Y (c:=4) (m:=5) (.inr ⟨rfl,rfl⟩) (q.symm▸yRq (wPq (qOq X.F) (v0q X k Xd) a (qBq _) (by rw[Ze];simp only[tr1,Zh,Zo,ZP];omega)) ?_);rintro u B A ⟨rfl,rfl,rfl⟩;refine⟨rfl,⟨_,_,_,_,_,?_,rfl⟩,rfl⟩;have:=npq (cs:=cs) (w:=w5 r t0 rd cs (vw0 t t0) k) (C:=clX cs k 5 (rdQ (frK cs k)).1 (some (vw0 t t0)) (rvW rv0)) (l:=tr1 r t0 rd cs k) (x:=trR 2 k .nils rpR) (e:=⟨2,k,[],rv0⟩) (yTq (ytq _)) (λd=>.pur (yTq (ytq _))) rfl (ugq rfl jdq) (λd=>uVq .nilfz uZq);rwa[jJq] at this
theorem t_l(d:LkQ (rdQ (frK cs k)).1):PS cfg glT 24 [wdW r (vw0 t t0) cs (w1 r t0 rd cs k),.int .i64 0] (.tup [wdW r (vw0 t t0) cs (w2 r t0 rd cs k),.bool true]):=by
 have f:=X.cl;obtain⟨q,y,a,x,z,v⟩:=h3q X Xd d;have j:=xTq (l:=tr1 r t0 rd cs k) (by simp[tr1]);refine xzq (w:=w1 r t0 rd cs k) (w':=w2 r t0 rd cs k) (Kkq X (k:=k) Xd (Z8 ..) (.inl rfl) (.inr (.inl rfl))) (qOq X.F) (xDq X k Xd) (vWq X k Xd) vnq (Jcq (show(1:Nat)≠0 by decide) (show(1:Nat)≠2 by decide)) (F:=49) Y Y (c:=3) (m:=4) (.inl ⟨rfl,rfl⟩) (j.symm▸yRq (wQq (v0q X k Xd) q a (by show(L0 r).length<=1000;have:=X.ru.1;rw[show(L0 r).length=r.shards.toNat+1 from Z8 ..];omega) (qBq _)) ?_);rintro u B A ⟨rfl,rfl,rfl⟩;exact⟨rfl,⟨_,_,_,_,_,nqq (w:=w2 r t0 rd cs k) (l:=tr1 r t0 rd cs k) (yTq (ytq _)) (λs=>.pur (yTq (ytq _))) rfl (by simp[tr1]),rfl⟩,rfl⟩
theorem l_d(q:LkQ (rdQ (frK cs k)).1):PS cfg glT 24 [wdW r (vw0 t t0) cs (w2 r t0 rd cs k),.int .i64 0] (.tup [wdW r (vw0 t t0) cs (w3 r t0 rd cs (vw0 t t0) k),.bool true]):=by
 have s:=X.cl;have B:=vdq (r:=r) (t0:=t0) (rd:=rd) (cs:=cs) k;obtain⟨v,y,x,j,A,d⟩:=h3q X Xd q;have E:=xTq (l:=tr1 r t0 rd cs k) (by simp[tr1]);refine xzq (w:=w2 r t0 rd cs k) (w':=w3 r t0 rd cs (vw0 t t0) k) (Kkq X (k:=k) Xd d (.inl rfl) (.inr (.inl rfl))) (qOq X.F) (xDq X k Xd) (vWq X k Xd) vnq (BIq rfl (v0q X k Xd) v j) (F:=50) Y Y (c:=4) (m:=5) (.inr ⟨rfl,rfl⟩) (yRq (pIq (qOq X.F) (by rw[jJq];exact qBq _) (by rw[jJq,Ze];show(tr1 r t0 rd cs k).length<=_;simp only[tr1,Zh,Zo,ZP];omega)) ?_);rintro u D C ⟨rfl,rfl,rfl⟩;exact⟨rfl,⟨_,_,_,_,_,npq (w:=w3 r t0 rd cs (vw0 t t0) k) (l:=tr1 r t0 rd cs k) (e:=⟨2,k,[],rv0⟩) (yTq (ytq _)) (λa=>.pur (yTq (ytq _))) rfl (ugq rfl jdq) (λa=>uVq .nilfz uZq),rfl⟩,rfl⟩
theorem a_s(f:(rdQ (frK cs k)).2=0)(d:LkQ (rdQ (frK cs k)).1):PS cfg glT 24 [wdW r (vw0 t t0) cs (w3 r t0 rd cs (vw0 t t0) k),.int .i64 0] (.tup [wdW r (vw0 t t0) cs (w4 r t0 rd cs k),.bool true]):=by
 have x:=X.cl;obtain⟨G,B,z,A,C,j⟩:=h3q X Xd d;have v:=xTq (l:=tr2 r t0 rd cs k) (by simp[tr2]);have q:aMq r (λk=>(yBq t0 k).nonce) 0 rd (stS r t0 rd cs k).1 (stS r t0 rd cs k).2 (rdQ (frK cs k)).1=tUq r t0 rd (stS r t0 rd cs k) (frK cs k):=(Zl f).symm;refine xzq (w:=w3 r t0 rd cs (vw0 t t0) k) (w':=w4 r t0 rd cs k) (Kkq X (k:=k) Xd j (.inl rfl) (.inr Jr)) (qOq X.F) (xDq X k Xd) (vWq X k Xd) (qOq X.F) (Jcq (show(3:Nat)≠0 by decide) (show(3:Nat)≠2 by decide)) (F:=51) Y Y (c:=3) (m:=4) (.inl ⟨rfl,rfl⟩) (v.symm▸yRq (DNq (u:=vw0 t t0) (ZRq X k Xd) Xd rfl n t0 X.F.is d (hJq f).2 (qBq _) rd) ?_);rintro u E D ⟨rfl,⟨y,y1,y2,rfl⟩,rfl⟩;rw[show(vw0 t t0).number=0 from rfl,q] at y1⊢;exact⟨rfl,⟨_,_,_,_,_,nqq (w:=w4 r t0 rd cs k) (l:=tr2 r t0 rd cs k) (uJq y2) (λh=>.agg (.cons (.pur (kgq cs)) (vR (vR (.cons (.pur (zLq _)) (vR (.cons (y1 h) .nil))))))) rfl (by simp[tr2]),rfl⟩,rfl⟩
theorem f_s(q:LkQ (rdQ (frK cs k)).1):PS cfg glT 24 [wdW r (vw0 t t0) cs (w4 r t0 rd cs k),.int .i64 0] (.tup [wdW r (vw0 t t0) cs (w6 r t0 rd cs k),.bool true]):=by
 have v:=X.cl;obtain⟨C,f,z,d,j,a⟩:=h3q X Xd q;have x:=xTq (l:=tr2 r t0 rd cs k) (by simp[tr2]);refine xzq (w:=w4 r t0 rd cs k) (w':=w6 r t0 rd cs k) (Kkq X (k:=k) Xd a Jr (.inr Jr)) (qOq X.F) (xDq X (k+1) Xd) (vWq X (k+1) Xd) vnq (Jcq (show(4:Nat)≠0 by decide) (show(4:Nat)≠2 by decide)) (F:=52) Y Y (c:=3) (m:=4) (.inl ⟨rfl,rfl⟩) (x.symm▸yRq (Bbq (v0q X (k+1) Xd) f d (by show(L1 r t0 rd cs k).length<=1000;have:=X.ru.1;omega) (qBq _)) ?_);rintro u B A ⟨rfl,rfl,rfl⟩;rw[show(w4 r t0 rd cs k).locks.set (plK r t0 rd cs k) 0=L0 r from j];exact⟨rfl,⟨_,_,_,_,_,nqq (w:=w6 r t0 rd cs k) (l:=tr2 r t0 rd cs k) (yTq (ytq _)) (λy=>.pur (yTq (ytq _))) rfl (by simp[tr2]),rfl⟩,rfl⟩
theorem r_s(x:(rdQ (frK cs k)).2=0)(f:¬LkQ (rdQ (frK cs k)).1):PS cfg glT 24 [wdW r (vw0 t t0) cs (w5 r t0 rd cs (vw0 t t0) k),.int .i64 0] (.tup [wdW r (vw0 t t0) cs (w6 r t0 rd cs k),.bool true]):=by
 have q:=X.cl;have j:=xTq (l:=tr2 r t0 rd cs k) (by simp[tr2])
 have d:tUq r t0 rd (stS r t0 rd cs k) (frK cs k)=(⟨rd (rdQ (frK cs k)).1,0,itZ⟩,stS r t0 rd cs k):=by
  unfold LkQ at f;rw[tUq,mkq,Zl x,aMq,Zg Xd,Zg Xd,Zg Xd,Zg Xd]
 have e:stS r t0 rd cs (k+1)=stS r t0 rd cs k:=by rw[stS,d]
 have h:rvS r t0 rd cs k=⟨rd (rdQ (frK cs k)).1,0,itZ⟩:=by rw[rvS,d]
 have v:w6 r t0 rd cs k=⟨L0 r,(stS r t0 rd cs k).1,(stS r t0 rd cs k).2,⟨k,6,(rdQ (frK cs k)).1,none,⟨rd (rdQ (frK cs k)).1,0,itZ⟩⟩,tr2 r t0 rd cs k⟩:=by rw[w6,e,h]
 rw[v];refine xzq (w:=w5 r t0 rd cs (vw0 t t0) k) (Kkq X (k:=k) Xd (Z8 ..) (.inl rfl) (.inr Jr)) (qOq X.F) (xDq X k Xd) (vWq X k Xd) (qOq X.F) (Jcq (show(5:Nat)≠0 by decide) (show(5:Nat)≠2 by decide)) (F:=53) Y Y (c:=3) (m:=4) (.inl ⟨rfl,rfl⟩) (j.symm▸yRq (xtq (u:=vw0 t t0) rfl rd (X.hrd _).2 (qBq _)) ?_);rintro u A z ⟨rfl,rfl,rfl⟩;exact⟨rfl,⟨_,_,_,_,_,nqq (w:=⟨L0 r,(stS r t0 rd cs k).1,(stS r t0 rd cs k).2,⟨k,6,(rdQ (frK cs k)).1,none,⟨rd (rdQ (frK cs k)).1,0,itZ⟩⟩,tr2 r t0 rd cs k⟩) (l:=tr2 r t0 rd cs k) (uJq (Qjq _)) (λy=>.agg (.cons (.pur (kgq cs)) (vR (vR (.cons (.pur (zLq _)) (vR (.cons (edq _) .nil))))))) rfl (by simp[tr2]),rfl⟩,rfl⟩
theorem e_s:PS cfg glT 24 [wdW r (vw0 t t0) cs (w6 r t0 rd cs k),.int .i64 0] (.tup [wdW r (vw0 t t0) cs (w0 r t0 rd cs (k+1)),.bool true]):=by
 have d:=X.cl;have h:=vdq (r:=r) (t0:=t0) (rd:=rd) (cs:=cs) k;have g:=xTq (l:=tr2 r t0 rd cs k) (by simp[tr2]);refine xzq (w:=w6 r t0 rd cs k) (w':=w0 r t0 rd cs (k+1)) (Kkq X (k:=k) Xd (Z8 ..) Jr (.inr Jr)) (qOq X.F) (xDq X (k+1) Xd) (vWq X (k+1) Xd) vnq (Jcq (show(6:Nat)≠0 by decide) (show(6:Nat)≠2 by decide)) (F:=54) Y Y (c:=4) (m:=5) (.inr ⟨rfl,rfl⟩) (g.symm▸yRq (wxq (ecq X k) (qBq _) (by rw[Ze];simp only[tr2,tr1,Zh,Zo,ZP];omega) (by show k<=1000000;omega)) ?_);rintro u q j ⟨rfl,rfl,rfl⟩;refine⟨rfl,⟨_,_,_,_,_,?_,rfl⟩,rfl⟩;have:=npq (cs:=cs) (w:=w0 r t0 rd cs (k+1)) (C:=clN cs (k+1)) (l:=tr2 r t0 rd cs k) (x:=trR 3 k .nils (rvW (rvS r t0 rd cs k))) (e:=⟨3,k,[],rvS r t0 rd cs k⟩) (dIq cs (k+1)) (λa=>ffq cs (k+1)) rfl (ugq rfl (ytq _)) (λa=>uVq .nilfz (.pur (ytq _)));rwa[jJq] at this
end
section
variable {r:Ru} {l:List Pr} {t:Tree} {n:Nat} {t0:T} {rd:Aq->Rp} {cs:Fs}
inductive RunW(r:Ru)(t:Tree)(t0:T)(rd:Aq->Rp)(cs:Fs):Wd->Nat->Prop
 |p0 {k m:Nat} (hk:k<=cs.length) (hm:m<=6*k):RunW r t t0 rd cs (w0 r t0 rd cs k) m
 |p1 {k m:Nat} (hk:k<cs.length) (he:(rdQ (frK cs k)).2=0) (hm:m<=6*k+1):RunW r t t0 rd cs (w1 r t0 rd cs k) m
 |p2 {k m:Nat} (hk:k<cs.length) (he:(rdQ (frK cs k)).2=0) (hq:LkQ (rdQ (frK cs k)).1) (hm:m<=6*k+2):RunW r t t0 rd cs (w2 r t0 rd cs k) m
 |p3 {k m:Nat} (hk:k<cs.length) (he:(rdQ (frK cs k)).2=0) (hq:LkQ (rdQ (frK cs k)).1) (hm:m<=6*k+3):RunW r t t0 rd cs (w3 r t0 rd cs (vw0 t t0) k) m
 |p4 {k m:Nat} (hk:k<cs.length) (hq:LkQ (rdQ (frK cs k)).1) (hm:m<=6*k+4):RunW r t t0 rd cs (w4 r t0 rd cs k) m
 |p5 {k m:Nat} (hk:k<cs.length) (he:(rdQ (frK cs k)).2=0) (hq:¬LkQ (rdQ (frK cs k)).1) (hm:m<=6*k+2):RunW r t t0 rd cs (w5 r t0 rd cs (vw0 t t0) k) m
 |p6 {k m:Nat} (hk:k<cs.length) (hm:m<=6*k+5):RunW r t t0 rd cs (w6 r t0 rd cs k) m
def DRq(r:Ru)(v:Vw)(cs:Fs)(w:Wd)(b:Bool):Prop:=PS cfg glT 23 [wdW r v cs w,.int .i64 0] (.bool b)
def DQq(r:Ru)(v:Vw)(cs:Fs)(w a:Wd):Prop:=PS cfg glT 24 [wdW r v cs w,.int .i64 0] (.tup [wdW r v cs a,.bool true])
theorem mYq(X:Cx r l t n t0 rd cs){w:Wd}{m:Nat}(h:RunW r t t0 rd cs w m):(DRq r (vw0 t t0) cs w false/\w=w0 r t0 rd cs cs.length/\m<=6*cs.length)\/(DRq r (vw0 t t0) cs w true/\∃w',DQq r (vw0 t t0) cs w w'/\RunW r t t0 rd cs w' (m+1)/\w.tr.length<=w'.tr.length):=by
 have h12:=X.cl;have e1:∀k,(trS r t0 rd cs k).length<=(tr1 r t0 rd cs k).length:=λk=>by simp[tr1]
 have e2:∀k,(tr1 r t0 rd cs k).length<=(tr2 r t0 rd cs k).length:=λk=>by simp[tr2]
 have e3:∀k,(tr2 r t0 rd cs k).length<=(trS r t0 rd cs (k+1)).length:=λk=>by show _<=(tr2 r t0 rd cs k++[_]).length;simp
 cases h with
 | @p0 k m hk hm=>
  by_cases q:k<cs.length
  .have hc:DRq r (vw0 t t0) cs (w0 r t0 rd cs k) true:=zrq (oHq rfl) (Zc W.bool (Zq q));by_cases he:(rdQ (frK cs k)).2=0
   .exact .inr ⟨hc,_,b_ok X q he,.p1 q he Xd,e1 k⟩
   .exact .inr ⟨hc,_,b_no X q he,.p6 q Xd,Zt (e1 k) (e2 k)⟩
  .obtain rfl:k=cs.length:=by omega
   exact .inl ⟨zrq (oHq rfl) (Zc W.bool (Zw q)),rfl,hm⟩
 | @p1 k m hk he hm=>
  refine .inr ⟨Jcq (show(1:Nat)≠0 by decide) (show(1:Nat)≠2 by decide),?_⟩;by_cases hq:LkQ (rdQ (frK cs k)).1
  .exact⟨_,t_l X hk hq,.p2 hk he hq Xd,Zb _⟩
  .exact⟨_,t_r X hk hq,.p5 hk he hq Xd,e2 k⟩
 | @p2 k m hk he hq hm=>
  obtain⟨p1,p2,p3,p4,p5,p6⟩:=h3q X (show k<12 by omega) hq;exact .inr ⟨BIq rfl (v0q X k Xd) p1 p4,_,l_d X hk hq,.p3 hk he hq Xd,e2 k⟩
 | @p3 k m hk he hq hm=>exact .inr ⟨Jcq (show(3:Nat)≠0 by decide) (show(3:Nat)≠2 by decide),_,a_s X hk he hq,.p4 hk hq Xd,Zb _⟩
 | @p4 k m hk hq hm=>exact .inr ⟨Jcq (show(4:Nat)≠0 by decide) (show(4:Nat)≠2 by decide),_,f_s X hk hq,.p6 hk Xd,Zb _⟩
 | @p5 k m hk he hq hm=>exact .inr ⟨Jcq (show(5:Nat)≠0 by decide) (show(5:Nat)≠2 by decide),_,r_s X hk he hq,.p6 hk Xd,Zb _⟩
 | @p6 k m hk hm=>exact .inr ⟨Jcq (show(6:Nat)≠0 by decide) (show(6:Nat)≠2 by decide),_,e_s X hk,.p0 hk Xd,e3 k⟩
theorem hyq(X:Cx r l t n t0 rd cs){w:Wd}{m:Nat}(h:RunW r t t0 rd cs w m):m<=78/\w.tr.length<=100:=by
 have d:=X.cl;have c:∀k,(trS r t0 rd cs k).length=3*k:=vdq
 have b:∀k,(tr1 r t0 rd cs k).length=3*k+1:=λk=>by simp[tr1,c]
 have a:∀k,(tr2 r t0 rd cs k).length=3*k+2:=λk=>by simp[tr2,b]
 cases h with
 | @p0 k=>exact⟨by omega,by show(trS r t0 rd cs k).length<=_;rw[c];omega⟩
 | @p1 k=>exact⟨by omega,by show(tr1 r t0 rd cs k).length<=_;rw[b];omega⟩
 | @p2 k=>exact⟨by omega,by show(tr1 r t0 rd cs k).length<=_;rw[b];omega⟩
 | @p3 k=>exact⟨by omega,by show(tr2 r t0 rd cs k).length<=_;rw[a];omega⟩
 | @p4 k=>exact⟨by omega,by show(tr2 r t0 rd cs k).length<=_;rw[a];omega⟩
 | @p5 k=>exact⟨by omega,by show(tr2 r t0 rd cs k).length<=_;rw[a];omega⟩
 | @p6 k=>exact⟨by omega,by show(tr2 r t0 rd cs k).length<=_;rw[a];omega⟩
theorem gAq{v:Vw}{w:Wd}:zGq 50 (wdW r v cs w) 157 1 false=some (tlW (w.tr.map trW)):=by
 cases h:w.tr<;>(unfold wdW;rw[h];rfl)
theorem tVq(X:Cx r l t n t0 rd cs):PE cfg glT 9 [wdW r (vw0 t t0) cs (w0 r t0 rd cs 0),.int .i64 0] (λu=>∃(m:Nat) (L:W),m<=6*cs.length/\u= .tup [wdW r (vw0 t t0) cs (w0 r t0 rd cs cs.length),.int .i64 (m:Int),L]):=by
 refine gIe 15 Y (λR N=>jxq (λ_=>e1q (fr2:=[(1,.int .i64 0),(2,.ptr 0 0),(4,.ptr 1 0),(5,.int .i64 0),(6,.nils),(7,.nils)]) ⟨rfl,rfl,rfl,rfl,rfl,rfl,trivial⟩) (z5q Y Y ?_))
 refine zeq 4 Y ?_;refine jzq (α:=Wd×Nat×Option (List W)) (λp=>RunW r t t0 rd cs p.1 p.2.1/\acq (p.2.2.getD [])=true/\(p.2.2.getD []).length<=p.2.1) (λp=>[(8,.int .i64 (p.2.1:Int)),(7,oW 2 1 p.2.2)]) [(1,_),(2,_),(4,_),(5,_),(6,_)] (λp=>[(1,58,wdZ),(0,58,wdW r (vw0 t t0) cs p.1)]++oH 2 3 1 p.2.2) (λp=>300-p.2.1) ((w0 r t0 rd cs 0,0,none)) ⟨rfl,rfl,rfl,rfl,rfl,trivial⟩ (⟨.p0 (Zf _) (Zf _),rfl,Zb _⟩) ⟨rfl,rfl,trivial⟩ (rfl) (λp J=>?_);obtain⟨w,m,o⟩:=p;obtain⟨G,q,B⟩:=J;simp only at G q B⊢;obtain⟨H,M⟩:=hyq X G;have D:=ZLq r (vw0 t t0) cs w;skip
 rcases mYq X G with ⟨E,rfl,K⟩|⟨E,w',hN,hR',hle⟩
 .exact zCq 4 Y (gT 0 Y (ltI_iff.2 Xd) (gC 3 Y E (zbq 6 Y (qQq Xj (zRq 13 Y (ybq (w':=.tup [wdW r (vw0 t t0) cs (w0 r t0 rd cs cs.length),.int .i64 (m:Int),.fz (o.getD []) 1 false]) Jr rfl (.tup (.cons (.pur D) (vR (.cons (Qbq Xg q (daq (d:=1) (x:=(58,wdZ)) Xg rfl (qhq (ycq (l:=[1,0]) rfl Xg)))) .nil)))) (by show(aaq (wdW _ _ _ _)&&(true&&(acq (o.getD [])&&true)))=true;rw[D,q];rfl) ⟨m,_,K,rfl⟩))))))
 .have j:=ZLq r (vw0 t t0) cs w';have I:=(hyq X hR').2;have A:acq (o.getD []++[.int .i64 ((w'.tr.length-w.tr.length:Nat):Int)])=true:=by rw[qsq,q];rfl
  cases o with
  |none=>
   refine zCq 4 Y (gT 0 Y (ltI_iff.2 Xd) (gC 3 Y E (gC 11 Y (hN) (gM 22 Y (zwq Y Y Y gAq) (gP 0 Y ((show _=some (W.int .i64 ((w'.tr.length:Nat):Int)) from by generalize w'.tr=T;cases T with|nil=>rfl|cons a b=>exact Zc (λn:Nat=>some (W.int .i64 (n:Int))) (show((a::b).map trW).length=(a::b).length from Ze _))) (gM 1 Y (zwq Y Y Y gAq) (gP 0 Y ((show _=some (W.int .i64 ((w.tr.length:Nat):Int)) from by generalize w.tr=T;cases T with|nil=>rfl|cons a b=>exact Zc (λn:Nat=>some (W.int .i64 (n:Int))) (show((a::b).map trW).length=(a::b).length from Ze _))) (gA 0 Y (w'.tr.length-w.tr.length) (gM 1 Y (yLq Y Y (gcq (o:=none) (b:=2) (ty:=3) (news:=[.int .i64 ((w'.tr.length-w.tr.length:Nat):Int)]) (k:=ti3) Y Y Y Y Y (j3q Y Y Y Y) Xi (by show(0+1)*8<=_;omega) (by show 0+1<=_;omega) (λl F=>by cases F))) (gA 11 Y (m+1) (zbq 3 Y ?_)))))))))));skip
   refine y6q (w',m+1,some (([]:List W)++[W.int .i64 ((w'.tr.length-w.tr.length:Nat):Int)])) ⟨hR',A,by show(([]:List W)++[_]).length<=m+1;simp only[Zh,Zo,ZP];omega⟩ (by show 300-(m+1)<300-m;omega) ?_;have C:aaq (.arr ((([]:List W)++[W.int .i64 ((w'.tr.length-w.tr.length:Nat):Int)]).length*1) 1 (([]:List W)++[W.int .i64 ((w'.tr.length-w.tr.length:Nat):Int)]))=true:=A;exact yiq (b:=2) (k:=5) Xd Xd Xd ⟨⟨rfl,rfl⟩,⟨rfl,rfl⟩,⟨rfl,rfl⟩,⟨rfl,rfl⟩,⟨rfl,rfl⟩,⟨rfl,rfl⟩,⟨rfl,rfl⟩,trivial⟩ ⟨⟨by decide,by rw[zdq ZKq];rfl,zaq ZKq⟩,⟨by decide,(Zc (λw=>some ((58:TypeId),w)) (zdq j)).symm,zaq j⟩,⟨by decide,(Zc (λw=>some ((3:TypeId),w)) (zdq C)).symm,zaq C⟩,trivial⟩ (by simp[oH])
  |some L=>
   have B:L.length<=m:=B;refine zCq 4 Y (gT 0 Y (ltI_iff.2 Xd) (gC 3 Y E (gC 11 Y (hN) (gM 22 Y (zwq Y Y Y gAq) (gP 0 Y ((show _=some (W.int .i64 ((w'.tr.length:Nat):Int)) from by generalize w'.tr=T;cases T with|nil=>rfl|cons a b=>exact Zc (λn:Nat=>some (W.int .i64 (n:Int))) (show((a::b).map trW).length=(a::b).length from Ze _))) (gM 1 Y (zwq Y Y Y gAq) (gP 0 Y ((show _=some (W.int .i64 ((w.tr.length:Nat):Int)) from by generalize w.tr=T;cases T with|nil=>rfl|cons a b=>exact Zc (λn:Nat=>some (W.int .i64 (n:Int))) (show((a::b).map trW).length=(a::b).length from Ze _))) (gA 0 Y (w'.tr.length-w.tr.length) (gM 1 Y (yLq Y Y (gcq (o:=some L) (b:=2) (ty:=3) (news:=[.int .i64 ((w'.tr.length-w.tr.length:Nat):Int)]) (k:=ti3) Y Y Y Y Y (j3q Y Y Y Y) Xi (by show(L.length+1)*8<=_;omega) (by show L.length+1<=_;omega) (λl F=>by cases F;rfl))) (gA 11 Y (m+1) (zbq 3 Y ?_)))))))))));skip
   refine y6q (w',m+1,some (L++[W.int .i64 ((w'.tr.length-w.tr.length:Nat):Int)])) ⟨hR',A,by show(L++[_]).length<=m+1;simp only[Zh,Zo,ZP];omega⟩ (by show 300-(m+1)<300-m;omega) ?_;have C:aaq (.arr ((L++[W.int .i64 ((w'.tr.length-w.tr.length:Nat):Int)]).length*1) 1 (L++[W.int .i64 ((w'.tr.length-w.tr.length:Nat):Int)]))=true:=A;exact yiq (b:=2) (k:=5) Xd Xd Xd ⟨⟨rfl,rfl⟩,⟨rfl,rfl⟩,⟨rfl,rfl⟩,⟨rfl,rfl⟩,⟨rfl,rfl⟩,⟨rfl,rfl⟩,⟨rfl,rfl⟩,trivial⟩ ⟨⟨by decide,by rw[zdq ZKq];rfl,zaq ZKq⟩,⟨by decide,(Zc (λw=>some ((58:TypeId),w)) (zdq j)).symm,zaq j⟩,⟨by decide,(Zc (λw=>some ((3:TypeId),w)) (zdq C)).symm,zaq C⟩,trivial⟩ (by simp[oH])
end
end
section
attribute [local irreducible] CoW OpW FlW aeq ajq
variable {G:Nat->Option W}
theorem w0q(a b:List UInt8)(f g:Bool)(B:a.length<=1000000000):PS cfg G 86 [.fz (zcq a) 1 f,.fz (zcq b) 1 g] (.bool (decide (a=b))):=by
 have p:=ztq a;have v:=ztq b;refine gI 9 Y (λR C=>gZ 0 Y p (gZ 1 Y v ?_));refine gS 3 Y (λs=>?_) (λs=>?_)
 .exact gQ 7 Y (by rw[Zw λh=>s (by rw[h])])
 .refine gZ 6 Y p ?_;refine gLo (α:=Nat) 4 (λi=>i<=a.length/\a.take i=b.take i) (λi=>[(13,.int .i64 (i:Int))]) [0,1,4,12] (λi=>a.length-i) (0) rfl (⟨Zf _,rfl⟩) (λi u=>?_);obtain⟨A,m⟩:=u;refine gS 6 Y (λw=>?_) (λw=>?_)
  .obtain⟨x,d⟩:∃x,a[i]? =some x:=⟨_,Za Xd⟩
   obtain⟨y,j⟩:∃y,b[i]? =some y:=⟨_,Za Xd⟩
   refine gP 14 Y (zyq (i:=i) Y Y Y Y Y Y Y (uKq d)) (gP 3 Y (zyq (i:=i) Y Y Y Y Y Y Y (uKq j)) ?_);refine gS 4 Y (λk=>?_) (λk=>?_)
   .exact gO 8 Y (gQ 2 Y (by rw[Zw (C9q d j λq=>k (by rw[q]))]))
   .exact gA 4 Y (i+1) (gAg 2 Y (i+1) (⟨by omega,gUq m d j (UInt8.toNat_inj.1 (Int.ofNat.inj (Classical.not_not.1 k)))⟩) Xd)
  .exact gO 2 Y (gQ 8 Y (by rw[Zq (mDq Xd Xd m)]))
end
section
attribute [local irreducible] CoW OpW FlW aeq ajq
section
variable {G:Nat->Option W}
def Kiq(l:List Pr)(m:Nat):Prop:=m<l.length\/∃x∈l,100<x.2.length
instance(l:List Pr)(m:Nat):Decidable (Kiq l m):=Classical.propDecidable _
theorem n7q(l:List Pr)(f:Bool)(m:Nat)(H:l.length<=1000000000000000):PS cfg G 5 [.fz (l.map pW) 33 f,.int .i64 (m:Int)] (.bool (decide (Kiq l m))):=by
 have e:(l.map pW).length=l.length:=Ze _;refine gI 9 Y (λR F=>gZ 0 Y e ?_);refine gS 4 Y (λC=>?_) (λC=>?_)
 .exact gQ 7 Y (by rw[Zq (show Kiq l m from .inl Xd)])
 .refine gLo (α:=Nat) 9 (λi=>i<=l.length/\∀j x,j<i->l[j]? =some x->¬100<x.2.length) (λi=>[(5,.int .i64 (i:Int))]) [0,4] (λi=>l.length-i) (0) rfl (⟨Zf _,λj x h=>by omega⟩) (λi u=>?_);obtain⟨E,s⟩:=u;refine gZ 5 Y e ?_;refine gS 3 Y (λD=>?_) (λD=>?_)
  .have p:i<l.length:=by omega
   obtain⟨x,d⟩:∃x,l[i]? =some x:=⟨_,Za p⟩
   have B:=ztq x.2;refine gP 8 Y (zyq (i:=i) Y Y Y Y Y Y Y (ziq pW d)) (gZ 2 Y B ?_);refine gS 3 Y (λA=>?_) (λA=>?_)
   .exact gO 8 Y (gQ 2 Y (by rw[Zq (show Kiq l m from .inr ⟨x,Zj d,by omega⟩)]))
   .exact gA 5 Y (i+1) (gAg 2 Y (i+1) (⟨p,λj y hj k=>by rcases ZC.1 hj with q|rfl;exact s j y q k;have:=ZA (d.symm.trans k);subst this;omega⟩) Xd)
  .have w:¬Kiq l m:=by
    rintro(q|⟨x,d,q⟩)
    .omega
    .obtain⟨j,hj⟩:=List.getElem?_of_mem d;exact s j x Yq hj q
   exact gO 2 Y (gQ 8 Y (by rw[Zw w]))
def B6q(a:List Fs):Prop:=a.length<=10/\∀(i:Nat) x,a[i]? =some x->∀(j:Nat) y,j<40->x[j]? =some y->y.length<=400
theorem iUq(m:List Fs)(hc:m.length<=10000000000000)(V:∀x∈m,x.length<=10000000000000):PE cfg G 13 [.fz (m.map flW) 1 false,.nils] (λw=>∃b:Bool,w= .bool b/\(b=false->B6q m)):=by
 have I:(m.map flW).length=m.length:=Ze _;have pc:=taq m;refine gIe 17 Y (λR k0=>?_);refine gLo (α:=Nat×Nat) 0 (λp=>p.1<=m.length/\p.1<=10/\p.2<=40*p.1/\∀(a:Nat) x,a<p.1->m[a]? =some x->∀(j:Nat) y,j<40->x[j]? =some y->y.length<=400) (λp=>[(5,.int .i64 (p.2:Int)),(6,.int .i64 (p.1:Int))]) [0,1,4] (λp=>m.length-p.1) ((0,0)) rfl (⟨Zf _,Zf _,Zf _,λa x h=>by simp at h⟩) (λp H=>?_);obtain⟨i,n⟩:=p;obtain⟨i1,Q,M,C⟩:=H;simp only at i1 Q M C;refine gZ 5 Y I ?_;refine gD 0 Y (λZ=>?_) (λZ=>?_)
 .refine gU 2 Y ?_;refine gS 3 Y (λK=>?_) (λK=>?_)
  .have O:i<m.length:=by omega
   obtain⟨x,A⟩:∃x,m[i]? =some x:=⟨_,Za O⟩
   have S:=V x (Zj A);have U:(x.map bW).length=x.length:=Ze _;have px:acq (x.map bW)=true:=Xmq x;refine gLo (α:=Nat×Nat) 10 (λq=>q.1<=x.length/\q.1<=40/\q.2<=40*i+q.1/\∀(j:Nat) y,j<q.1->x[j]? =some y->y.length<=400) (λq=>[(5,.int .i64 (q.2:Int)),(7,.int .i64 (q.1:Int))]) [0,1,4,6,8,9,10,11,12,13,14,15] (λq=>x.length-q.1) ((0,n)) rfl (⟨Zf _,Zf _,by simpa using M,λj y h=>by simp at h⟩) (λq H=>?_);obtain⟨k,E⟩:=q;obtain⟨N,X,T,F⟩:=H;simp only at N X T F;refine gP 6 Y (zyq (i:=i) Y Y Y Y Y Y Y (ziq flW A)) ?_;refine gZ 1 Y U ?_;refine gD 0 Y (λD=>?_) (λD=>?_)
   .refine gU 2 Y ?_;refine gS 3 Y (λJ=>?_) (λJ=>?_)
    .have hk:k<x.length:=by omega
     obtain⟨y,d⟩:∃y,x[k]? =some y:=⟨_,Za hk⟩
     refine gP 9 Y (zyq (i:=i) Y Y Y Y Y Y Y (ziq flW A)) ?_;refine gP 2 Y (zyq (i:=k) Y Y Y Y Y Y Y (ziq bW d)) ?_;refine gZ 1 Y (ztq y) ?_;refine gS 3 Y (λP=>?_) (λP=>?_)
     .refine gO 9 Y ?_;refine gO 3 Y ?_;refine zbq 2 Y ?_;exact ybq (w':=.bool true) Jr rfl (.pur rfl) rfl ⟨true,rfl,λq=>by cases q⟩
     .refine gA 4 Y (E+1) ?_;refine gA 6 Y (k+1) ?_;exact gAg 2 Y ((k+1,E+1)) (⟨by omega,by omega,by omega,λj z B c=>by rcases ZC.1 B with q|rfl;exact F j z q c;have:=ZA (d.symm.trans c);subst this;omega⟩) Xd
    .skip
     refine gO 2 Y ?_;refine gA 5 Y (i+1) ?_;exact gAg 2 Y ((i+1,E)) (⟨by omega,by omega,by omega,λa z L c j y B d=>by rcases ZC.1 L with q|rfl;exact C a z q c j y B d;have:=ZA (A.symm.trans c);subst this;exact F j y Xd d⟩) Xd
   .skip
    refine gO 9 Y ?_;refine gA 5 Y (i+1) ?_;exact gAg 2 Y ((i+1,E)) (⟨by omega,by omega,by omega,λa z L c j y B d=>by rcases ZC.1 L with q|rfl;exact C a z q c j y B d;have:=ZA (A.symm.trans c);subst this;exact F j y (by have:=yGq d;omega) d⟩) Xd
  .refine gO 2 Y ?_;refine gZ 5 Y I ?_;refine gD 0 Y (λD=>?_) (λD=>?_)
   .refine zbq 13 Y ?_;exact ybq (w':=.bool true) Jr rfl (.pur rfl) rfl ⟨true,rfl,λq=>by cases q⟩
   .refine gD 2 Y (λJ=>?_) (λJ=>?_)
    .refine zbq 10 Y ?_;exact ybq (w':=.bool true) Jr rfl (.pur rfl) rfl ⟨true,rfl,λq=>by cases q⟩
    .refine gL 3 Y ?_;refine gF 0 Y (ltI_not.2 Xg) ?_;refine zbq 5 Y ?_;exact ybq (w':=.bool false) Jr rfl (.pur rfl) rfl ⟨false,rfl,λ_=>⟨by omega,λa z c j y B d=>C a z (by have:=yGq c;omega) c j y B d⟩⟩
 .skip
  refine gO 9 Y ?_;refine gZ 5 Y I ?_;refine gD 0 Y (λK=>?_) (λK=>?_)
  .refine zbq 13 Y ?_;exact ybq (w':=.bool true) Jr rfl (.pur rfl) rfl ⟨true,rfl,λq=>by cases q⟩
  .refine gD 2 Y (λD=>?_) (λD=>?_)
   .refine zbq 10 Y ?_;exact ybq (w':=.bool true) Jr rfl (.pur rfl) rfl ⟨true,rfl,λq=>by cases q⟩
   .refine gL 3 Y ?_;refine gF 0 Y (ltI_not.2 Xg) ?_;refine zbq 5 Y ?_;exact ybq (w':=.bool false) Jr rfl (.pur rfl) rfl ⟨false,rfl,λ_=>⟨by omega,λa z c j y B d=>C a z (by have:=yGq c;omega) c j y B d⟩⟩
theorem nKq(c:Fs)(F:c.length<=10000000000000):PE cfg G 6 [.fz [flW c] 1 false,.nils] (λw=>∃b:Bool,w= .bool b/\(b=false->c.length<=12/\∀y∈c,y.length<=400)):=by
 have C:(c.map bW).length=c.length:=Ze _;have E:=iUq (G:=G) [c] Xi (by simpa using F);have d:acq [W.fz [flW c] 1 false,.nils]=true:=by show((aaq (flW c)&&true)&&(true&&true))=true;rw[kgq];rfl
 obtain⟨q,N,v⟩:∃q:Nat,q<=100/\(q=c.length\/(100<c.length/\q=100)):=by
  by_cases h:c.length<=100
  .exact⟨c.length,h,.inl rfl⟩
  .exact⟨100,Zb _,.inr ⟨by omega,rfl⟩⟩
 refine gIe 17 Y (λR M=>?_);refine gLo (α:=Nat×Nat) 0 (λp=>p.1<=1/\p.2=p.1*q) (λp=>[(6,.int .i64 (p.1:Int)),(5,.int .i64 (p.2:Int))]) [0,1,4] (λp=>1-p.1) ((0,0)) rfl (⟨Zf _,by simp⟩) (λp A=>?_);obtain⟨i,m⟩:=p;obtain⟨J,H⟩:=A;simp only at J H;skip
 by_cases I:i=0
 .subst I;obtain rfl:m=0:=by omega
  refine gL 5 Y ?_;refine gT 0 Y (ltI_iff.2 Qw) ?_;refine gT 2 Y (ltI_iff.2 Xg) ?_;refine gP 12 Y (zyq (i:=0) Y Y Y Y Y Y Y Y) ?_;refine gZ 1 Y C ?_
  (refine kiq (w':=.int .i64 (q:Int)) Y Y (by rcases v with e|⟨h,e⟩;(subst e;have z:ltI 100 (c.length:Int)=false:=(by rw[Yjq];simp;omega);rw[z]);(subst e;have z:ltI 100 (c.length:Int)=true:=(by rw[Yjq];simp;omega);rw[z];rfl)) ?_)
  refine pBq (q) Y Y (by first|rfl|omega) ⟨by omega,by omega⟩ ?_;refine zeq 6 Y ?_;refine gA 0 Y (1) ?_;exact gAg 2 Y ((1,q)) (⟨Zb _,by simp⟩) (by show 1-1<1-0;decide)
 .obtain rfl:i=1:=by omega
  obtain rfl:m=q:=by omega
  refine gL 5 Y ?_;refine gF 0 Y (ltI_not.2 (by show¬(1:Int)<1;decide)) ?_;refine gO 9 Y ?_;refine zbq 6 Y ?_;skip
  refine gSo 0 Y (qfq Y Y Y Y Y E d ?_);rintro w L ⟨b,rfl,hb⟩;skip
  skip
  cases b with
  |true=>
   skip
   refine zeq 13 Y ?_;exact ybq (w':=.bool true) Jr rfl (.pur rfl) rfl ⟨true,rfl,λq=>by cases q⟩
  |false=>
   skip
   by_cases K:12<m
   .refine zeq 2 Y ?_;refine gT 0 Y (ltI_iff.2 Xd) ?_;refine zbq 10 Y ?_;exact ybq (w':=.bool true) Jr rfl (.pur rfl) rfl ⟨true,rfl,λq=>by cases q⟩
   .skip
    refine zeq 2 Y ?_;refine gF 0 Y (ltI_not.2 Xd) ?_;refine gL 3 Y ?_;refine gF 0 Y (ltI_not.2 Xg) ?_;refine zbq 5 Y ?_;obtain⟨_,B⟩:=hb rfl
    exact ybq (w':=.bool false) Jr rfl (.pur rfl) rfl ⟨false,rfl,λ_=>⟨by omega,λy D=>by
     obtain⟨j,hj⟩:=List.getElem?_of_mem D;exact B 0 c rfl j y Yq hj⟩⟩
theorem wZq(a:List Dig)(p:a.length<=1000000000):PS cfg G 87 [.fz (a.map dW) 32 false,.fz (a.map dW) 32 false] (.bool true):=by
 have d:(a.map dW).length=a.length:=Ze _;refine gI 9 Y (λR q=>gV (w':=.int .i64 (a.length:Int)) 0 Y (by rw[<-d];rfl) (gV (w':=.int .i64 (a.length:Int)) 1 Y (by rw[<-d];rfl) (gF 0 Y zN (gV (w':=.int .i64 (a.length:Int)) 9 Y (by rw[<-d];rfl) ?_))));refine gLo (α:=Nat) 4 (λi=>i<=a.length) (λi=>[(13,.int .i64 (i:Int))]) [0,1,4,12] (λi=>a.length-i) (0) rfl (Zf _) (λi m=>?_);refine gS 6 Y (λk=>?_) (λk=>?_)
 .obtain⟨x,j⟩:∃x,a[i]? =some x:=⟨_,Za Xd⟩
  exact gP 14 Y (zyq (i:=i) Y Y Y Y Y Y Y (ziq dW j)) (gP 3 Y (zyq (i:=i) Y Y Y Y Y Y Y (ziq dW j)) (zbq 1 Y (k6q (w':=.bool false) rfl (kUq Y Y Y Y (yUq Y Y Y Y Y Y x x 250)) (by rw[Zq rfl];rfl) (zWq 7 Y (gA 0 Y (i+1) (gAg 2 Y (i+1) Xd Xd))))))
 .exact gO 2 Y (gQa 8 Y)
theorem ngq(p:PrV)(a:p.l.length<=1000000000):PS cfg G 34 [p.w,p.w] (.bool true):=by
 have d:=p.pur;have c:=p.hl;exact gI 13 Y (λR e=>kiq (w':=.bool true) rfl (yEq Y Y Y Y (yUq Y Y Y Y Y Y p.k p.k 250)) Yw (zeq 5 Y (gT 0 Y (eqI_iff.2 (rfl)) (zbq 6 Y (kiq (w':=.bool true) rfl (yEq Y Y Y Y (yUq Y Y Y Y Y Y p.o p.o 250)) Yw (zeq 6 Y (gC 0 Y (zrq (w':=.bool true) (w0q p.l p.l false false a) Yw) (gC 6 Y (wZq p.ds Xd) (gQa 5 Y)))))))))
theorem mXq(x:Rv)(a:x.x.pr.l.length<=1000000000):PS cfg G 11 [rvW x,rvW x] (.bool true):=by
 have c:=ytq x;exact gI 14 Y (λR d=>gC 0 Y (ngq x.x.pr a) (gT 12 Y (eqI_iff.2 (rfl)) (gT 5 Y (eqI_iff.2 (rfl)) (gT 6 Y (eqI_iff.2 (rfl)) (zbq 6 Y (kiq (w':=.bool true) rfl (yEq Y Y Y Y (yUq Y Y Y Y Y Y x.x.dig x.x.dig 250)) Yw (zeq 6 Y (kiq (w':=.bool true) rfl (yEq Y Y Y Y (i7q x.x.acct x.x.acct)) Yw (zeq 6 Y (kiq (w':=.bool true) rfl (yEq Y Y Y Y (Drq x.x.rc x.x.rc)) Yw (zeq 6 Y (gT 0 Y (eqI_iff.2 (rfl)) (zbq 6 Y (kiq (w':=.bool true) rfl (yEq Y Y Y Y (f1q x.it x.it)) Yw (zeq 5 Y (gQa 0 Y))))))))))))))))
end
theorem cKq:∀{t:T} {d:Nat} {k x:Dig} {v:List UInt8},t.tail d k= .leaf x v->(x,v)∈t.all
 |.nil,_,_,_,_,e=>by cases e
 |.leaf x' v',d,k,x,v,e=>by cases e;exact YH.2 rfl
 |.fork l r,d,k,x,v,e=>by
  unfold T.tail at e;split at e
  .exact List.mem_append_left _ (cKq e)
  .exact List.mem_append_right _ (cKq e)
theorem fMq{l:List Pr}(h:aUq l):∀x∈l,x.2.length<=64:=λx c=>by
 obtain⟨i,a⟩:=List.getElem?_of_mem c;have b:=(h.2 i (yGq a) x a).1;simp only[pcq,Zd,YK] at b;exact b.2
theorem nhq{t:Tree}{n:Nat}{b:T}(h:IsT t n b)(d:∀p∈b.all,p.2.length<=64)(k:Dig):∃p:PrV,p.l.length<=1000000000/\vfq b k=p.w:=by
 have q:=r9q b 0 k _ h.ok;have o:hoq b k= .fz (((b.road 0 k).map baq).map dW) 32 false:=by unfold hoq;rw[List.map_map];rfl
 have j:((b.road 0 k).map baq).length<=1000000:=by rw[Ze];omega
 unfold vfq;rw[o];split
 .rename_i x v e;have d:=d _ (cKq e);have d:v.length<=64:=d;split
  .exact⟨⟨k,1,zeroD,v,_,j⟩,by show v.length<=_;omega,rfl⟩
  .exact⟨⟨k,2,x,v,_,j⟩,by show v.length<=_;omega,rfl⟩
 .exact⟨⟨k,0,zeroD,[],_,j⟩,Zf _,rfl⟩
theorem m3q(r:Ru){l:List Pr}{d:T}{t:Tree}{n:Nat}(F:FirT l t n d)(q:Aq):∃x:Rp,x.kind=q.kind/\x.pr.l.length<=1000000000/\∀t n,FirT l t n d->PS cfg glK 76 [ruG r,vwG (vw0 t d),aqW q] (rpW x):=by
 by_cases m:q.kind=2
 .exact⟨_,rfl,Zf _,λt n F=>zjq r (vw0 t d) q m _ _ (wDq (vw0 t d) (JXq F) (u6q F) q.key (y:=Cmq t d) rfl F.is)⟩
 by_cases k:q.kind=3
 .exact⟨_,rfl,Zf _,λt n F=>x0q r (vw0 t d) q k 0 ⟨0,zeroD,0⟩ 6 (wCq (vw0 t d) (JXq F) (u6q F) q.key)⟩
 by_cases f:q.kind=4
 .by_cases w:0<=q.height/\q.height<1/\(1:Int) -1-q.height<r.window
  .have o:q.height=((0:Nat):Int):=by omega
   obtain⟨p,j,e⟩:=nhq F.is.toIsT (λp j=>fMq F.ok.1 p (by rw[<-F.all];exact j)) q.key
   exact⟨_,rfl,j,λt n F=>pvq r (vw0 t d) q f (tfq d).state p 0 (by
    have:=mrq (vw0 t d) (JXq F) (b4q F) (u6q F) r.window 0 q.key (by rw[<-o];exact w) (x:=Cmq t d) rfl n d F.is.toIsT;rw[e,<-o] at this;exact this)⟩
  .exact⟨_,rfl,Zf _,λt n F=>pvq r (vw0 t d) q f zeroD prZV 180 (cxq (vw0 t d) (JXq F) (u6q F) r.window q.height q.key w)⟩
 by_cases u:q.kind=5
 .exact⟨_,rfl,Zf _,λt n F=>sdq r (vw0 t d) q u (tfq d).height (iQq (tfq d)) 0 (msq (vw0 t d) (JXq F) (u6q F) (y:=Cmq t d) rfl)⟩
 exact⟨_,rfl,Zf _,λt n F=>CQq r (vw0 t d) q ⟨m,k,f,u⟩⟩
theorem yyq(r:Ru){l:List Pr}{b:T}{t:Tree}{n:Nat}(F:FirT l t n b):∃a:Aq->Rp,(∀q,(a q).pr.l.length<=1000000000)/\∀t n,FirT l t n b->∀q,(a q).kind=q.kind/\PS cfg glK 76 [ruG r,vwG (vw0 t b),aqW q] (rpW (a q)):=
 ⟨λq=>Classical.choose (m3q r F q),λq=>(Classical.choose_spec (m3q r F q)).2.1,λt n F' q=>⟨(Classical.choose_spec (m3q r F q)).1,(Classical.choose_spec (m3q r F q)).2.2 t n F'⟩⟩
theorem okq{l:List Pr}{t d:Tree}{n e:Nat}{a b:T}(h:FirT l t n a)(c:FirT l d e b):a=b:=h.is.toIsT.same c.is.toIsT (h.all.trans c.all.symm)
end
theorem w4q{b:Ctx}:∀{l:List Nat} {s:List V},RSL b (l.map λn=>W.int .u32 (.ofNat n)) s->s=l.map aJq
 |[],s,h=>by simpa[RSL] using h
 |c::p,s,h=>by
  have h:RS b (.int .u32 (.ofNat c)) (s.take 1)/\RSL b (p.map λn=>W.int .u32 (.ofNat n)) (s.drop 1):=h;have d:s.take 1=[.int .u32 (.ofNat c)]:=by simpa[RS] using h.1
  rw[<-ZK 1 s,d,w4q h.2];rfl
theorem tXq{C:Cfg}{G:Nat->Option W}{F:FuncId}{g:Nat}{ns:List Nat}(E:C.known F=some (r4q (bGq g ns)))(v:C.glob g=true)(A:G g=some (.arr ns.length 1 (ns.map λn=>W.int .u32 (.ofNat n)))):PS C G F [] (.bool true):=λR d X I p s m=>by
 obtain rfl:=RVL_nil.1 m;obtain⟨b,w,j,e,H,m,B,K,J,c⟩:=xbq (s.gl g _ v A 0 λi=>i);cases e;have y:(W.arr ns.length 1 (ns.map λn=>W.int .u32 (.ofNat n))).size=ns.length:=rfl;rw[y] at B c;rw[ZX] at c;have c:((zmq j).take ns.length).length=ns.length/\(∀x∈(ns.map λn=>W.int .u32 (.ofNat n)),x.size=1)/\RSL ⟨0,λi=>i,d.D,d.h⟩ (ns.map λn=>W.int .u32 (.ofNat n)) ((zmq j).take ns.length):=c;have m:d.h.val g=some j:=m
 have q:bGq g ns d.h=true:=by
  unfold bGq;rw[m];show(Nat.ble ns.length j.size&&b9q ((zmq j).take ns.length) ns)=true;rw[w4q c.2.2,J4q,Zn Xd];rfl
 refine⟨1,.bool true,d,X,.bool true,[],R,?_,s,by rw[<-p];exact Frm.refl _ _ _ _,RV_bool.2 rfl,rfl,rfl⟩;simp only[y9q,E,r4q,q]
section
attribute [local irreducible] CoW OpW FlW aeq ajq
theorem clq:PS cfg glT 4 [] (.bool true):=tXq (g:=1) (ns:=kA) Y Y Y
section
variable {r:Ru} {t0:T} {rd:Aq->Rp} {cs:Fs}
theorem pjq:∀{k i:Nat},i<3*k->∃x,(trS r t0 rd cs k)[i]? =some x/\x.call=i/3/\(i%3=2->x.kind=3/\x.rp=rvS r t0 rd cs (i/3))/\(i%3≠2->x.kind≠3)
 |0,i,h=>by omega
 |k+1,i,h=>by
  have c:=vdq (r:=r) (t0:=t0) (rd:=rd) (cs:=cs) k;rw[trS];by_cases g:i<3*k
  .obtain⟨x,f,q⟩:=pjq g;refine⟨x,?_,q⟩;rw[Zx,Zx,List.getElem?_append_left Xd];exact f
  .rw[Zx,Zx,List.getElem?_append_right Xd,c];have j:i-3*k=0\/i-3*k=1\/i-3*k=2:=by omega
   have d:i/3=k:=by omega
   rcases j with e|e|e
   .rw[e];exact⟨_,rfl,by show k=_;omega,λq=>by omega,λ_=>by show(1:Int)≠3;decide⟩
   .rw[e];exact⟨_,rfl,by show k=_;omega,λq=>by omega,λ_=>by show(2:Int)≠3;decide⟩
   .rw[e];exact⟨_,rfl,by show k=_;omega,λq=>⟨rfl,by rw[d]⟩,λq=>by omega⟩
end
theorem CFq{l:List W}(h:0<l.length):tlW l= .fz l 282 false:=by cases l with|nil=>exact absurd h Xg|cons a b=>rfl
theorem paq{r:Ru}{v:Vw}{a:Fs}{w:Wd}:zGq 50 (wdW r v a w) 48 1 false=some (.fz [clW a w.cl] 383 false):=rfl
theorem Ajq{C:Cfg}{G G2:Nat->Option W}{f:FuncId}{a:List W}{A:W->Prop}(b:∀g w,G g=some w->G2 g=some w)(h:PE C G f a A):PE C G2 f a A:=YRq b h
theorem alone27_s(r:Ru)(l:List Pr)(d:Fs)(hb0:l.length<=1000000000000000)(hc:d.length<=10000000000000):PS cfgA glT 3 [ruG r,psW l,flW d] (.bool true):=by
 have P:(d.map bW).length=d.length:=Ze _;have H:=jHq r;have hF:=kgq d;have A:=n7q (G:=glT) l false 20 hb0;by_cases V:Kiq l 20
 .rw[Zq V] at A;exact gI 8 Y (λR k0=>gC 0 Y (upS clq) (gC 7 Y (upS A) (gQa 20 Y)))
 rw[Zw V] at A;have hb:l.length<=1000000000:=by have:¬20<l.length:=λq=>V (.inl q);omega
 have Z:=nKq (G:=glT) d hc;have D:aaq (.fz [flW d] 1 false)=true:=by show(aaq (flW d)&&true)=true;rw[hF];rfl
 have E:aaq (psW l)=true:=KFq l;refine gI 8 Y (λR k0=>gC 0 Y (upS clq) (gC 7 Y (upS A) (zbq 3 Y ?_)));skip
 refine jxq (λ_=>Z8q 1 [(1,psW l),(2,flW d),(3,.ptr 0 0),(6,.bool false),(7,.bool true),(22,.bool false),(24,.fz [flW d] 1 false)] [(0,25,ruG r)] rfl D (Zf _) ⟨⟨_,rfl,.pur E⟩,⟨_,rfl,.pur hF⟩,⟨_,rfl,.ptrK rfl⟩,⟨_,rfl,.pur rfl⟩,⟨_,rfl,.pur rfl⟩,⟨_,rfl,.pur rfl⟩,⟨_,rfl,.sl (full:=false) rfl D rfl Xj⟩,trivial⟩ ⟨⟨by omega,_,rfl,.pur H⟩,trivial⟩ Xi) ?_;refine zhq rfl (qfq Y Y Y Y Y (upE Z) (by show(aaq (.fz [flW d] 1 false)&&_)=true;rw[D];rfl) ?_);rintro w hw ⟨b,rfl,hbb⟩;skip
 skip
 cases b with
 |true=>
  skip
  exact zeq 16 Y (gQa 0 Y)
 |false=>
  obtain⟨h12,B⟩:=hbb rfl;skip
  refine zeq 16 Y ?_;skip
  have hbg:=upE (Ajq kkq (mnq r l hb d Xd B));have J:=upE (Ajq kkq (lLq r l hb));refine jxq (λ_=>Z8q 2 [(1,psW l),(2,flW d),(3,.ptr 0 0),(6,.bool false),(7,.bool true),(33,ruG r),(34,psW l),(36,.fz [flW d] 1 false)] [(0,25,ruG r)] rfl D (Zf _) ⟨⟨_,rfl,.pur E⟩,⟨_,rfl,.pur hF⟩,⟨_,rfl,.ptrK rfl⟩,⟨_,rfl,.pur rfl⟩,⟨_,rfl,.pur rfl⟩,⟨_,rfl,.pur H⟩,⟨_,rfl,.pur E⟩,⟨_,rfl,.sl (full:=false) rfl D rfl Xj⟩,trivial⟩ ⟨⟨by omega,_,rfl,.pur H⟩,trivial⟩ Xi) ?_;refine zhq rfl (qfq Y Y Y Y Y hbg (by show(aaq (ruG r)&&(aaq (psW l)&&(aaq (.fz [flW d] 1 false)&&_)))=true;rw[H,E,D];rfl) ?_);skip
  rintro w hw (⟨hno,L,rfl⟩|⟨h0,hru,t,n,t0,F,rfl⟩)
  .skip
   refine zeq 12 Y ?_;skip
   refine gSo 0 Y (qfq Y Y Y Y Y J (by show(aaq (ruG r)&&(aaq (psW l)&&true))=true;rw[H,E];rfl) ?_);rintro w hw2 (⟨_,L2,rfl⟩|⟨h0,_⟩)
   .skip
    exact gT 12 Y (Zc not (eqI_not.2 (hno))) (gT 13 Y (eqI_iff.2 (rfl)) (gQa 6 Y))
   .exact absurd h0 hno
  .skip
   refine zeq 12 Y ?_;skip
   refine gSo 0 Y (qfq Y Y Y Y Y J (by show(aaq (ruG r)&&(aaq (psW l)&&true))=true;rw[H,E];rfl) ?_);rintro w hw2 (⟨hno,_⟩|⟨_,_,t2,n2,t02,F2,rfl⟩)
   .exact absurd h0 hno
   .obtain rfl:=okq F F2;skip
    refine gF 12 Y zN (gF 2 Y zN (zbq 9 Y ?_));skip
    obtain⟨j,S,I⟩:=yyq r F;have X:Cx r l t n t0 j d:=⟨F,hru,h12,B,I t n F,S⟩;have hpw:=ZLq r (vw0 t t0) d;skip
    refine gSo 0 Y (qfq Y Y Y Y Y (upE (tVq X)) (by show(aaq (wdW r (vw0 t t0) d (wd0 r))&&_)=true;rw[hpw];rfl) ?_);rintro w hw3 ⟨m,L,hm,rfl⟩;obtain⟨TR,C⟩:∃TR,trS r t0 j d d.length=TR:=⟨_,rfl⟩
    have htl:TR.length=3*d.length:=C▸vdq (r:=r) (t0:=t0) (rd:=j) (cs:=d) d.length
    have O:zGq 50 (wdW r (vw0 t t0) d (w0 r t0 j d d.length)) 157 1 false=some (tlW (TR.map trW)):=C▸gAq
    have y:0<TR.length->zGq 50 (wdW r (vw0 t t0) d (w0 r t0 j d d.length)) 157 1 false=some (.fz (TR.map trW) 282 false):=λh=>O.trans (Zc some (CFq (by rw[Ze];exact h)))
    have M:=λ{i:Nat}=>pjq (r:=r) (t0:=t0) (rd:=j) (cs:=d) (k:=d.length) (i:=i)
    rw[C] at M;have hAu:=λi=>xhq (auI r (vw0 t2 t0) (stS r t0 j d i).1 (stS r t0 j d i).2)
    have hpt:=qBq TR;skip
    refine zbq 21 Y ?_;refine jzq (α:=Nat×Nat) (λp=>p.1<=3*d.length/\p.2=p.1/3) (λp=>[(15,.int .i64 (p.1:Int)),(14,.int .i64 (p.2:Int))]) [(2,_),(6,_),(7,_),(8,_),(10,_),(12,_)] (λp=>[(4,64,amW (auI r (vw0 t2 t0) (stS r t0 j d p.2).1 (stS r t0 j d p.2).2)),(3,58,wdW r (vw0 t t0) d (w0 r t0 j d d.length)),(0,25,ruG r)]) (λp=>3*d.length-p.1) ((0,0)) ⟨rfl,rfl,rfl,rfl,rfl,rfl,trivial⟩ (⟨Zf _,rfl⟩) ⟨rfl,rfl,trivial⟩ (rfl) (λp hI=>?_);obtain⟨i,a⟩:=p;obtain⟨hi3,N⟩:=hI;simp only at hi3 N⊢;refine zCq 5 Y (gM 0 Y (zwq Y Y Y O) (gP 0 Y ((show _=some (W.int .i64 ((3*d.length:Nat):Int)) from by rw[<-htl];cases TR with|nil=>rfl|cons a b=>exact Zc (λn:Nat=>some (W.int .i64 (n:Int))) (show((a::b).map trW).length=(a::b).length from Ze _))) ?_));refine gS 3 Y (λh1=>?_) (λh1=>?_)
    .have hi:i<3*d.length:=by omega
     obtain⟨x,Q,hxc,hx3,hxn⟩:=M hi;have y:=y Xd;skip
     by_cases h2:i%3=2
     .obtain⟨hk,hrp⟩:=hx3 h2;have T:a<d.length:=by omega
      have U:=s9q T;have hsm:PS cfgA glT 11 [rvW x.rp,rvW (rvS r t0 j d a)] (.bool true):=by rw[hrp,<-N];exact upS (mXq _ (ecq X a))
      have hdo:=Dsq (ZRq X a Xd) Xd (JXq F2) (u6q F2) rfl n2 t0 F2.is j (I t2 n2 F2) (qOq F2) (frK d a) false (eQq X a) (z:=(rvS r t0 j d a,stS r t0 j d (a+1))) rfl;exact gM 8 Y (zwq Y Y Y y) (gP 1 Y (zyq (i:=i) Y Y Y Y Y Y Y (ziq trW Q)) (gF 2 Y (Zc not (eqI_iff.2 (hk))) (gZ 10 Y P (gF 0 Y (Zc not (ltI_iff.2 Xd)) (gP 10 Y (zyq (i:=a) Y Y Y Y Y Y Y (ziq bW U)) (gV (w':=mvK (frK d a) false) 1 Y Y (gC 0 Y (hdo) (gF 15 Y zN (gM 2 Y (zwq Y Y Y y) (gP 1 Y (zyq (i:=i) Y Y Y Y Y Y Y (ziq trW Q)) (gF 3 Y (Zc not (eqI_iff.2 Xd)) (gM 3 Y (zwq Y Y Y y) (gP 1 Y (zyq (i:=i) Y Y Y Y Y Y Y (ziq trW Q)) (gC 3 Y hsm (gA 15 Y (a+1) (gA 6 Y (i+1) (zbq 2 Y (u2q ((i+1,a+1)) (⟨by omega,by omega⟩) Xu (Zf _) ⟨rfl,rfl,trivial⟩ ⟨rfl,rfl,rfl,rfl,rfl,rfl,trivial⟩ Xh Xh Xd Xk Xt))))))))))))))))))
     .exact gM 8 Y (zwq Y Y Y y) (gP 1 Y (zyq (i:=i) Y Y Y Y Y Y Y (ziq trW Q)) (gT 2 Y (Zc not (eqI_not.2 ((hxn h2)))) (gA 9 Y (i+1) (zbq 2 Y (u2q ((i+1,a)) (⟨by omega,by omega⟩) Xu (Zf _) ⟨rfl,rfl,trivial⟩ ⟨rfl,rfl,rfl,rfl,rfl,rfl,trivial⟩ Xh Xh Xd Xk Xt)))))
    .have hi:i=3*d.length:=by omega
     obtain rfl:a=d.length:=by omega
     exact zbq 2 Y (qQq Xj (zRq 7 Y (gT 0 Y (Zc not (ltI_not.2 Xd)) (gZ 4 Y P (gA 0 Y (6*d.length) (gT 0 Y (Zc not (ltI_not.2 Xd)) (gZ 4 Y P (gT 0 Y (eqI_iff.2 (rfl)) (gM 3 Y (zwq Y Y Y paq) (gL 0 Y (gT 0 Y (eqI_iff.2 (rfl)) (gM 3 Y (zwq Y Y Y paq) (gP 0 Y (zyq (i:=0) Y Y Y Y Y Y Y Y) (gZ 3 Y P (gT 0 Y (eqI_iff.2 (rfl)) (gQa 5 Y))))))))))))))))
end
mutual
/-- all blocks in it lie below n -/
def ltB(n:Nat):V->Bool
 |.ptr b _=>decide (b<n)
 |.sl b _ _ _ _ _=>decide (b<n)
 |.map b=>decide (b<n)
 |.yield b=>decide (b<n)
 |.fn _ a c=>ltL n a&&ltL n c
 |.iface _ v=>ltB n v
 |.agg _ l=>ltL n l
 |.arr _ _ l=>ltL n l
 |.tup l=>ltL n l
 |.undef=>true
 |.bool _=>true
 |.int _ _=>true
 |.str _=>true
 |.nilp=>true
 |.nils=>true
 |.nilm=>true
 |.nilf=>true
 |.nili=>true
def ltL(n:Nat):List V->Bool
 |[]=>true
 |v::l=>ltB n v&&ltL n l
end
mutual
theorem n2q{D:Nat->Nat->Prop}{n:Nat}:∀{v:V},InD D v->ltB n v=true->InD (λi m=>D i m/\i<n) v
 |.ptr _ _,hi,h=>⟨hi,YF h⟩
 |.sl _ _ _ _ _ _,hi,h=>⟨hi.1,hi.2.1,hi.2.2,YF h⟩
 |.map _,hi,h=>⟨hi,YF h⟩
 |.yield _,hi,h=>⟨hi,YF h⟩
 |.fn _ a c,hi,h=>by
  simp only[ltB,Zd] at h;exact⟨QDq (l:=a) hi.1 h.1,QDq (l:=c) hi.2 h.2⟩
 |.iface _ v,hi,h=>n2q (v:=v) hi Ji
 |.agg _ l,hi,h=>QDq (l:=l) hi Ji
 |.arr _ _ l,hi,h=>QDq (l:=l) hi Ji
 |.tup l,hi,h=>QDq (l:=l) hi Ji
 |.undef,_,_=>trivial
 |.bool _,_,_=>trivial
 |.int _ _,_,_=>trivial
 |.str _,_,_=>trivial
 |.nilp,_,_=>trivial
 |.nils,_,_=>trivial
 |.nilm,_,_=>trivial
 |.nilf,_,_=>trivial
 |.nili,_,_=>trivial
theorem QDq{D:Nat->Nat->Prop}{n:Nat}:∀{l:List V},InDL D l->ltL n l=true->InDL (λi m=>D i m/\i<n) l
 |[],_,_=>trivial
 |v::l,hi,h=>by
  simp only[ltL,Zd] at h;exact⟨n2q hi.1 h.1,QDq hi.2 h.2⟩
end
mutual
def khq:W->Bool
 |.bool _=>true
 |.int _ _=>true
 |.str _=>true
 |.nilp=>true
 |.nils=>true
 |.nilm=>true
 |.nilf=>true
 |.nili=>true
 |.agg _ l=>Quq l
 |.arr _ _ l=>Quq l
 |_=>false
def Quq:List W->Bool
 |[]=>true
 |w::l=>khq w&&Quq l
end
mutual
theorem hAq{q Γ':Ctx}:∀{w:W} {s j:List V},khq w=true->RS q w s->RS Γ' w j->s=j
 |.undef,_,_,h,_,_=>by simp[khq] at h
 |.bool _,_,_,_,h,k=>by simp only[RS] at h k;rw[h,k]
 |.int _ _,_,_,_,h,k=>by simp only[RS] at h k;rw[h,k]
 |.str _,_,_,_,h,k=>by simp only[RS] at h k;rw[h,k]
 |.nilp,_,_,_,h,k=>by simp only[RS] at h k;rw[h,k]
 |.ptr _ _,_,_,h,_,_=>by simp[khq] at h
 |.nils,_,_,_,h,k=>by simp only[RS] at h k;rw[h,k]
 |.sl _ _ _ _ _ _,_,_,h,_,_=>by simp[khq] at h
 |.fz _ _ _,_,_,h,_,_=>by simp[khq] at h
 |.fel _,_,_,h,_,_=>by simp[khq] at h
 |.nilm,_,_,_,h,k=>by simp only[RS] at h k;rw[h,k]
 |.fn _ _ _,_,_,h,_,_=>by simp[khq] at h
 |.yield _,_,_,h,_,_=>by simp[khq] at h
 |.nilf,_,_,_,h,k=>by simp only[RS] at h k;rw[h,k]
 |.iface _ _,_,_,h,_,_=>by simp[khq] at h
 |.nili,_,_,_,h,k=>by simp only[RS] at h k;rw[h,k]
 |.agg n l,_,_,hp,h,k=>by simp only[khq] at hp;simp only[RS] at h k;exact Kxq hp h.2 k.2
 |.arr n e l,_,_,hp,h,k=>by simp only[khq] at hp;simp only[RS] at h k;exact Kxq hp h.2.2 k.2.2
 |.tup _,_,_,h,_,_=>by simp[khq] at h
theorem Kxq{c Γ':Ctx}:∀{l:List W} {s a:List V},Quq l=true->RSL c l s->RSL Γ' l a->s=a
 |[],_,_,_,h,k=>by simp only[RSL] at h k;rw[h,k]
 |w::l,s,a,hp,h,k=>by
  simp only[Quq,Zd] at hp;simp only[RSL] at h k;have d:=hAq hp.1 h.1 k.1;have b:=Kxq hp.2 h.2 k.2;rw[<-ZK w.size s,<-ZK w.size a,d,b]
end
theorem llq{f Γ':Ctx}{w:W}{v b:V}(g:khq w=true)(h:RV f w v)(k:RV Γ' w b)(d:Env):abq d v=abq d b:=by
 have e:=hAq g h.2 k.2;cases c:v.isAgg with
 |true=>
  have a:b.isAgg=true:=by rw[<-k.1,h.1,c]
  rw[qPq c,qPq a,qkq,qkq,e]
 |false=>
  have a:b.isAgg=false:=by rw[<-k.1,h.1,c]
  rw[kOq c,kOq a] at e;cases e;rfl
def fRq(n:Nat):Option Blk->Option Blk
 |some (.cells ty v)=>if ltB n v then some (.cells ty v) else none
 |some (.ro v)=>if ltB n v then some (.ro v) else none
 |_=>none
theorem fQq{n:Nat}{o:Option Blk}{b:Blk}(h:fRq n o=some b):o=some b/\∀D,InB D b->InB (λi m=>D i m/\i<n) b:=by
 unfold fRq at h;split at h
 .split at h
  .rename_i f;cases h;exact⟨rfl,λD d=>n2q d f⟩
  .cases h
 .split at h
  .rename_i f;cases h;exact⟨rfl,λD d=>n2q d f⟩
  .cases h
 .cases h
def cnq(h:Heap):Nat->Prop:=λb=>b<h.next/\∃v,h.val b=some v/\ltB h.next v=true
section
variable {P:Program} {C:Cfg} {G:Nat->Option W}
structure ReadsK(C:Cfg)(G:Nat->Option W)(vs:List V)(h:Heap)(ws:List W):Prop where
 args:RVL ⟨0,λi=>i,cnq h,h⟩ ws vs
 lt:ltL h.next vs=true
 glt:∀g,C.glob g=true->g<h.next
 gl:GRel C G ⟨0,λi=>i,cnq h,h⟩
theorem fOq(hmx:P.follows .mixedOrders=true)(hC:CfgOK P C)(hF:Ycq P C)(hK:jQq P C){f:FuncId}{k:List V->Heap->Option (V×Heap)}
  (hk:∀Y h v y,k Y h=some (v,y) ->y=h/\ciq v=true/\∃ws w,ReadsK C G Y h ws/\khq w=true/\zUq C G f 0 ws [] (λw' _ _=>w'=w)/\∃Γ,RV Γ w v):qVq P C f k:=λY h v y he=>by
 obtain⟨rfl,hbv,ws,w,N,hpl,sp,Γ2,hrv⟩:=hk Y h v y he;obtain⟨t,ht⟩:=Tr.of (λi=>fRq y.next (y.get i)) y.next;let L:Heap:=⟨y.next,y.next,t⟩
 have H:∀i,i<y.next->L.get i=fRq y.next (y.get i):=λi z=>by show t.get i=_;rw[ht,Zl z]
 have F:∀i,y.next<=i->L.get i=none:=λi z=>by show t.get i=_;rw[ht,Zg Xd]
 have q:∀{i b},L.get i=some b->i<y.next/\y.get i=some b/\∀D,InB D b->InB (λi m=>D i m/\i<y.next) b:=λ{i b} E=>by
  rcases ZL i y.next with z|z
  .rw[H i z] at E;exact⟨z,fQq E⟩
  .rw[F i z] at E;cases E
 have I:∀{b v},b<y.next->y.val b=some v->ltB y.next v=true->L.val b=some v:=λ{b v} E B K=>by
  simp only[Heap.val,H b E] at B⊢;cases R:y.get b with
  |none=>rw[R] at B;cases B
  |some x=>
   rw[R] at B;cases x with
   |cells ty u=>cases B;simp only[fRq,K,if_true]
   |ro u=>cases B;simp only[fRq,K,if_true]
   |loop=>cases B
   |dfr=>cases B
   |map=>cases B
   |siter=>cases B
   |miter=>cases B
 have Q:∀{b v},L.val b=some v->b<y.next:=λ{b v} B=>by
  simp only[Heap.val] at B;cases R:L.get b with
  |none=>rw[R] at B;cases B
  |some x=>exact(q R).1
 have le:∀X σ,Ctx.Le ⟨X,σ,cnq y,y⟩ ⟨X,σ,λb=>∃v,L.val b=some v,L⟩:=λX σ=>
  ⟨Zb _,λ_ _=>rfl,λb E=>by obtain⟨B,u,K,Z⟩:=E;exact⟨u,I B K Z⟩,λb E=>by
   obtain⟨B,u,K,Z⟩:=E;show L.val b=y.val b;rw[I B K Z,K]⟩
 have sat:SatH C G ⟨0,λi=>i,λb=>∃v,L.val b=some v,L⟩ [] (λ_=>False) Res.none:=
  ⟨F,λ_ _ _ h=>by simp[hget] at h,λ_ _ _ _ h=>by simp[hget] at h,YN,λ_ _ h=>h,λ_ h=>h.elim,λc J=>by obtain⟨u,hu⟩:=J;exact Q hu,trivial,λg w B K X σ=>(N.gl g w B K X σ).mono (le X σ)⟩
 obtain⟨n,v1,Γ1,X1,w1,hp1,R1,g1,g2,g3,g4,rfl,hq⟩:=sp Res.none _ (λ_=>False) Y rfl sat (RVL.mono (le _ _) N.args)
 have hw:y.next<=Γ1.h.wmin:=g3.wmin (λc=>y.next<=c) (Zb _) (λc h=>h) λc J=>by
  rcases J with ⟨b,x,B,_⟩|J
  .simp[hget] at B
  .exact J.elim
 have rn:=(brq hmx hC hF hK n).self;have hn:y.next<=Γ1.h.next:=g3.next;refine⟨Mono.refl _,rn.fnEnter _ _ _ _ _ g1,λs0 U D M w0 hU gl hin A=>?_⟩;have up:∀{b},InB (λi m=>DD D M i m/\i<y.next) b->InB (DD (λi=>D i/\i<y.next) M) b:=λh=>h.mono λi m z=>⟨⟨z.1.1,z.2⟩,z.1.2⟩
 have relS:Rel s0 Γ1.h.next (λi=>D i/\i<y.next) M L w0:=by
  refine⟨λi z=>.inl z.2,F,λi b z E=>A.has i b z.1 (q E).2.1,λi b z E=>up ((q E).2.2 _ (A.clo i b z.1 (q E).2.1)),λi j b c z hj E J=>A.inj i j b c z.1 hj.1 (q E).2.1 (q J).2.1,λi b z E=>A.own i b z.1 (q E).2.1,λi j b c z hj E J=>A.old i j b c z.1 hj.1 (q E).2.1 (q J).2.1,A.base⟩
 have glS:GlobOK C (DD (λi=>D i/\i<y.next) M) M:=λg R=>by
  obtain⟨B,K⟩:=gl g R;exact⟨⟨⟨B.1,N.glt g R⟩,B.2⟩,K⟩
 have hinS:InDL (DD (λi=>D i/\i<y.next) M) Y:=InDL_iff.2 λv hv=>InD.mono' (λi m z=>⟨⟨z.1.1,z.2⟩,z.1.2⟩) v (InDL_iff.1 (QDq hin N.lt) v hv)
 refine(rn.fn _ _ _ _ _ g1 s0 Γ1.h.next _ M w0 (Zb _) glS hinS relS).mono λe w'=>?_
 rintro⟨D',T,rfl,r',n',_⟩
 have S:∀c,c<w0.heap.size->w'.heap[c]? =w0.heap[c]? :=λc J=>n'.frame c J λi _ K Z=>by
  have Z:i<y.next:=Z;omega
 have hval:abq T v1=abq M v:=by
  subst hq;exact(llq hpl g4 hrv T).trans (lmq hbv M T)
 refine⟨D,M,by rw[hval],⟨A.lt,A.wf,λi b z E=>?_,A.clo,A.inj,A.own,A.old,r'.base⟩,⟨λ_ h=>h,λ_ h=>.inl h,λ_ _=>⟨rfl,rfl,rfl,rfl⟩,λc J _=>S c J,λi _ B K=>by omega,n'.size,Zb _,Zb _,n'.os,n'.tape,n'.output⟩,bare_in hbv⟩;obtain⟨o,q1,q2⟩:=A.has i b z E;exact⟨o,by rw[S _ (Zs.1 q1).1];exact q1,q2⟩
end
section
variable {kfn:List V->Heap->Option (V×Heap)}
def mQq(l:List Nat):Prop:=∀b∈l,b<256
def u8V(n:Nat):V:=.int .u8 (.ofNat n)
def u32V(n:Nat):V:=.int .u32 (.ofNat n)
def fgq(h:Heap)(b c n:Nat):Option (List V):=match Nat.blt b h.next,h.val b with
 |true,some bv=>match bv.isAgg&&ltB h.next bv&&Nat.ble (c+n) bv.size with
  |true=>some (((zmq bv).drop c).take n)
  |false=>none
 |_,_=>none
theorem Jbq{h:Heap}{b f n:Nat}{s:List V}(j:fgq h b f n=some s):b<h.next/\cnq h b/\s.length=n/\∃g,h.val b=some g/\g.isAgg=true/\f+n<=g.size/\s=((zmq g).drop f).take n:=by
 unfold fgq at j;split at j
 .rename_i g v u;split at j
  .rename_i l;cases j;simp only[Zd] at l;have q:b<h.next:=by simpa using v
   have w:f+n<=g.size:=Yb l.2;refine⟨q,⟨q,g,u,l.1.2⟩,?_,g,u,l.1.1,w,rfl⟩;rw[Zu,Zy,y8q];omega
  .cases j
 .cases j
def u8s:List V->Option (List Nat)
 |[]=>some []
 |.int .u8 (.ofNat n)::l=>match Nat.blt n 256,u8s l with
  |true,some ns=>some (n::ns)
  |_,_=>none
 |_=>none
theorem dVq:∀{s:List V} {l:List Nat},u8s s=some l->s=l.map u8V/\mQq l
 |[],_,h=>by cases h;exact⟨rfl,λb d=>by cases d⟩
 |v::s,l,h=>by
  unfold u8s at h;split at h
  .rename_i f;cases f
  .rename_i n q f;cases f;split at h
   .rename_i o g j;cases h;obtain⟨e,k⟩:=dVq j;refine⟨by rw[e];rfl,λb d=>?_⟩;rcases ZB.1 d with rfl|d
    .simpa using g
    .exact k b d
   .cases h
  .cases h
theorem l3q(c:Ctx):∀l:List Nat,RSL c (bN l) (l.map u8V)
 |[]=>rfl
 |n::l=>qtq (a:=[u8V n]) (b:=l.map u8V) (x:=.int .u8 (.ofNat n)) rfl (l3q c l)
theorem hhq(l:List Nat):∀x∈bN l,x.size=1:=λx a=>by
 obtain⟨n,_,rfl⟩:=Z2.1 a;rfl
def swq(h:Heap):V->Option (List Nat)
 |.nils=>some []
 |.sl b _ off len 1 _=>match fgq h b off len with
  |some s=>u8s s
  |none=>none
 |_=>none
theorem JKq{h:Heap}{v:V}{l:List Nat}(d:swq h v=some l):RS ⟨0,λi=>i,cnq h,h⟩ (vbq (l,false)) [v]/\mQq l:=by
 unfold swq at d;split at d
 .cases d;exact⟨.inl ⟨rfl,rfl⟩,λb y=>by cases y⟩
 .rename_i b f o p k;split at d
  .rename_i s x;obtain⟨_,B,C,u,q,D,A,w⟩:=Jbq x;obtain⟨e,z⟩:=dVq d;refine⟨?_,z⟩
   have j:(bN l).length=p:=by
    rw[ZCq,<-C,e,Ze]
   refine .inr ⟨b,f,o,k,u,by rw[j],λh=>Qi,B,q,D,by rw[j,Z6];exact A,hhq l,?_⟩;rw[j,Z6,<-w,e];exact l3q _ l
  .cases d
 .cases d
def etq(h:Heap):List V->Option (List (List Nat))
 |[]=>some []
 |v::s=>match swq h v with
  |some l=>match etq h s with
   |some a=>some (l::a)
   |none=>none
  |none=>none
def Kjq(a:List (List Nat)):List (List Nat×Bool):=a.map λl=>(l,false)
theorem Qwq{h:Heap}:∀{s:List V} {d:List (List Nat)},etq h s=some d->s.length=d.length/\RSL ⟨0,λi=>i,cnq h,h⟩ ((Kjq d).map vbq) s/\∀p∈d,mQq p
 |[],_,hk=>by cases hk;exact⟨rfl,rfl,λp f=>by cases f⟩
 | v ::s,d,hk=>by
  unfold etq at hk;split at hk
  .rename_i l j;split at hk
   .rename_i u g;cases hk;obtain⟨k,q,o⟩:=Qwq g
    exact⟨Zc (· +1) k,qtq (a:=[v]) (b:=s) (JKq j).1 q,λp f=>by
     rcases ZB.1 f with rfl|f
     .exact(JKq j).2
     .exact o p f⟩
   .cases hk
  .cases hk
def DJq(h:Heap):V->Option (List (List Nat))
 |.nils=>some []
 |.sl b _ off len 1 _=>match fgq h b off len with
  |some s=>etq h s
  |none=>none
 |_=>none
theorem fAq(b:List (List Nat×Bool)):∀x∈b.map vbq,x.size=1:=λx a=>by
 obtain⟨n,_,rfl⟩:=Z2.1 a;rfl
theorem lPq{h:Heap}{v:V}{k:List (List Nat)}(d:DJq h v=some k):RV ⟨0,λi=>i,cnq h,h⟩ (.fz ((Kjq k).map vbq) 1 false) v/\ltB h.next v=true/\∀p∈k,mQq p:=by
 unfold DJq at d;split at d
 .cases d;exact⟨⟨rfl,.inl ⟨rfl,rfl⟩⟩,rfl,λp J=>by cases J⟩
 .rename_i b j u w q;split at d
  .rename_i s C;obtain⟨F,H,I,A,y,E,G,B⟩:=Jbq C;obtain⟨x,D,K⟩:=Qwq d
   have o:((Kjq k).map vbq).length=w:=by
    rw[Ze,Kjq,Ze,<-x,I]
   refine⟨⟨rfl,.inr ⟨b,j,u,q,A,by rw[o];rfl,λh=>Qi,H,y,E,by rw[o,Z6];exact G,fAq _,?_⟩⟩,by simpa[ltB] using F,K⟩;rw[o,Z6,<-B];exact D
  .cases d
 .cases d
def eqK:List V->List Nat->Bool
 |[],[]=>true
 |.int .u32 (.ofNat n)::l,m::ms=>match Nat.beq n m with
  |true=>eqK l ms
  |false=>false
 |_,_=>false
theorem eYq:∀{l:List V} {b:List Nat},eqK l b=true->l=b.map u32V
 |[],[],_=>rfl
 |[],_::_,h=>by simp[eqK] at h
 |v::l,b,h=>by
  unfold eqK at h;split at h
  .simp_all
  .rename_i n g m f e;cases e;split at h
   .rename_i d;obtain rfl:=Zi d;rw[eYq h];rfl
   .cases h
  .cases h
def n9q(h:Heap):Bool:=match h.get 1 with
 |some (.ro (.arr 64 1 l))=>eqK l kW
 |_=>false
theorem rpq(c:Ctx):∀l:List Nat,RSL c (l.map wd) (l.map u32V)
 |[]=>rfl
 |n::l=>qtq (a:=[u32V n]) (b:=l.map u32V) (x:=wd n) rfl (rpq c l)
theorem JQq{h:Heap}(q:Nat.ble 3 h.next=true)(f:n9q h=true):GRel (gmq kfn) glK ⟨0,λi=>i,cnq h,h⟩:=by
 intro g w _ b z y;have q:=Yb q;unfold glK at b;split at b
 .cases b;unfold n9q at f;split at f
  .rename_i l v;obtain rfl:=eYq f;have j:h.val 1=some (.arr 64 1 (kW.map u32V)):=by simp only[Heap.val,v]
   refine RV.of_one ⟨1,0,_,rfl,⟨by omega,_,j,by rfl⟩,j,by exact Zb _,λ_=>rfl,.inr rfl,?_⟩ Y Y;have e:((zmq (.arr 64 1 (kW.map u32V))).drop 0).take 64=kW.map u32V:=by kernel_rfl
   show RS _ _ (((zmq (.arr 64 1 (kW.map u32V))).drop 0).take 64);rw[e];exact⟨rfl,λx u=>by obtain⟨n,_,rfl⟩:=Z2.1 u;rfl,rpq _ kW⟩
  .cases f
 .cases b
theorem lJq:∀l:List Nat,YAq (l.map u8V)=true
 |[]=>rfl
 |n::l=>by simp only[ZD,YAq,u8V,ciq,Y6];exact lJq l
theorem erq:∀l:List Nat,Quq (bN l)=true
 |[]=>rfl
 |n::l=>by simp only[bN,ZD,Quq,khq,Y6];exact erq l
theorem iWq:∀l:List Nat,yaq 1 (l.map u8V)=l.map u8V
 |[]=>rfl
 |n::l=>by
  simp only[ZD,yaq,iWq l];rfl
theorem mUq(a:List (List Nat)):(cTq a).length=32:=by simp[cTq,f3q]
def ofK:List V->Heap->Option (V×Heap)
 |[x],h=>match Nat.ble 3 h.next&&n9q h,DJq h x with
  |true,some ps=>match Nat.blt (qvq ps) 2147483648&&Nat.blt ps.length 2147483648 with
   |true=>some (.arr 32 1 ((cTq ps).map u8V),h)
   |false=>none
  |_,_=>none
 |_,_=>none
theorem a4q(b:List (List Nat)):(Kjq b).map (·.1)=b:=by
 simp[Kjq,Function.comp_def]
theorem ofOK:qVq Tryz.prog (gmq izq) 167 ofK:=fOq (G:=glK) mixed (rcq izq) (pXq izq) (eIq izq λ_ _ _ _ b=>nomatch (show(none:Option (V×Heap))=some _ from b)) λB h v D b=>by
 unfold ofK at b;split at b
 .rename_i x;split at b
  .rename_i d j A;split at b
   .rename_i k;cases b;simp only[Zd] at j k;obtain⟨u,w,C⟩:=lPq A;refine⟨rfl,lJq _,[.fz ((Kjq d).map vbq) 1 false],.arr 32 1 (bN (cTq d)),⟨RVL_cons.2 ⟨_,_,rfl,u,RVL_nil.2 rfl⟩,by simp only[ltL,w,Bool.and_self],λg o=>?_,JQq j.1 j.2⟩,erq _,λR=>?_,⟨0,λi=>i,λ_=>False,h⟩,?_⟩
    .have y:Nat.ble (g+1) 3=true:=o;have:=Yb y;have:=Yb j.1;omega
    .have:=D7q (kfn:=izq) (Kjq d) false (by rw[a4q];simpa using k.1) (by rw[Kjq,Ze];simpa using k.2) R;rw[a4q] at this;exact this
    .have q:((cTq d).map u8V).length=32:=by rw[Ze,mUq]
     refine⟨rfl,?_⟩;show RS _ _ (awq 32 (yaq 1 ((cTq d).map u8V)));rw[iWq,yqq q];exact⟨q,hhq _,l3q _ _⟩
   .cases b
  .cases b
 .cases b
def knownT:Tr (List V->Heap->Option (V×Heap)):=Tr.set .nil 167 (some ofK)
def cfg1:Cfg:={cfg with known:=λf=>knownT.get f}
theorem nTq:jQq Tryz.prog cfg1:=λf k b=>by
 have e:knownT.get f=if f=167 then some ofK else none:=by
  unfold knownT;rw[Tr.get_set,Tr.get_nil]
 have b:knownT.get f=some k:=b;rw[e] at b;split at b
 .rename_i d;cases b;subst d;exact ofOK
 .cases b
end
def Cpq(N:Nat):Option (V×Heap) ->Nat
 |some (.bool true,h)=>match Nat.ble N h.wmin with
  |true=>1
  |false=>0
 |_=>0
theorem sZq{N:Nat}{r:Option (V×Heap)}(h:Cpq N r=1):∃d,r=some (.bool true,d)/\N<=d.wmin:=by
 unfold Cpq at h;split at h
 .rename_i d;split at h
  .rename_i f;exact⟨d,rfl,Yb f⟩
  .cases h
 .cases h
theorem iYq:∀l:List Nat,yaq 1 (l.map aJq)=l.map aJq
 |[]=>rfl
 |n::l=>by
  show awq 1 [aJq n]++yaq 1 (l.map aJq)=_;rw[iYq l,yqq (n:=1) (l:=[aJq n]) rfl];rfl
theorem lKq:∀l:List Nat,YAq (l.map aJq)=true
 |[]=>rfl
 |n::l=>by
  show(ciq (aJq n)&&YAq (l.map aJq))=true;rw[lKq l];rfl
def JBq(N g:Nat)(b:List Nat):Heap:=⟨N,N,Tr.nil.set g (some (.ro (.arr b.length 1 (b.map aJq))))⟩
theorem JAq(N g:Nat)(b:List Nat)(i:Nat):(JBq N g b).get i=if i=g then some (.ro (.arr b.length 1 (b.map aJq))) else none:=by
 show(Tr.nil.set g (some (Blk.ro (.arr b.length 1 (b.map aJq))))).get i=_;rw[Tr.get_set,Tr.get_nil]
theorem Bfq(b:List Nat):zmq (.arr b.length 1 (b.map aJq))=b.map aJq:=by
 show awq b.length (yaq 1 (b.map aJq))=_;rw[iYq];exact yqq (by rw[Ze])
theorem iwq{P:Program}{C:Cfg}(hmx:P.follows .mixedOrders=true)(hC:CfgOK P C)(hF:Ycq P C)(hK:jQq P C){n:Nat}{f:FuncId}{N g:Nat}{q:List Nat}
  (Q:Cpq N (y9q C n f [] (JBq N g q))=1) (hg:∀c,C.glob c=true->c<N) (hgN:g<N):qVq P C f (r4q (bGq g q)):=λvs h v h' K=>by
 unfold r4q at K;split at K
 .split at K
  .rename_i E;cases K;obtain⟨L,Q,hw⟩:=sZq Q;have X:=(brq hmx hC hF hK n).self;refine⟨Mono.refl _,X.fnEnter _ _ _ _ _ Q,λs0 U D B w0 hU gl hin k=>?_⟩;have hm:=X.fnMono _ _ _ _ _ Q
   have H:∀i b,(JBq N g q).get i=some b->i=g/\b= .ro (.arr q.length 1 (q.map aJq)):=λi b u=>by
    rw[JAq] at u;split at u
    .rename_i e;cases u;exact⟨e,rfl⟩
    .cases u
   have F:∀i b,(JBq N g q).get i=some b->b.own=true->False:=λi b u E=>by
    obtain⟨_,rfl⟩:=H i b u;cases E
   have R:Rel s0 L.next (λi=>D i/\i<N) B (JBq N g q) w0:=by
    refine⟨λi w=>.inl w.2,λi w=>?_,λi b w u=>?_,λi b w Z=>?_,λi j b c w hj u I h _=>(F i b u h).elim,λi b w u h=>(F i b u h).elim,λi j b c w hj u I _ h=>(F j c I h).elim,k.base⟩
    .have w:N<=i:=w;rw[JAq,Zg Xd]
    .obtain⟨rfl,rfl⟩:=H i b u;unfold bGq at E;split at E
     .rename_i bv T;simp only[Zd] at E;have hs:=Yb E.1;have ht:=J3q E.2
      have y:cellsV B bv=cellsV B (.arr q.length 1 (q.map aJq))++((zmq bv).drop q.length).map (j9q B):=by
       rw[qkq,qkq,Bfq,<-ht,<-Z4,ZK]
      have hz:(V.arr q.length 1 (q.map aJq)).size=q.length:=rfl;unfold Heap.val at T;split at T
      .rename_i Y v' hget;cases T;obtain⟨o,J,G,W,M,q3,q4⟩:=k.has _ _ w.1 hget;exact⟨o,J,G,_,Y,(0,0),by rw[M,y,Zx],q3,by rw[hz];omega⟩
      .rename_i v' hget;cases T;obtain⟨o,J,G,W,Y,fz,M,q3,q4⟩:=k.has _ _ w.1 hget;exact⟨o,J,G,_,Y,fz,by rw[M,y,Zx],q3,by rw[hz];omega⟩
      .cases T
     .cases E
    .obtain⟨_,rfl⟩:=H i b Z;exact bare_in (v:=.arr q.length 1 (q.map aJq)) (lKq q)
   have glS:GlobOK C (DD (λi=>D i/\i<N) B) B:=λc h0=>by
    obtain⟨L,h2⟩:=gl c h0;exact⟨⟨⟨L.1,hg c h0⟩,L.2⟩,h2⟩
   refine(X.fn _ _ _ _ _ Q s0 L.next _ B w0 (Zb _) glS trivial R).mono λe w'=>?_
   rintro⟨D',ρ',rfl,r',S,_⟩
   have A:∀c,c<w0.heap.size->w'.heap[c]? =w0.heap[c]? :=λc I=>S.frame c I λi _ h2 h3=>by
    have h3:i<N:=h3;omega
   refine⟨D,B,rfl,⟨k.lt,k.wf,λi b w u=>?_,k.clo,k.inj,k.own,k.old,r'.base⟩,⟨λ_ h=>h,λ_ h=>.inl h,λ_ _=>⟨rfl,rfl,rfl,rfl⟩,λc I _=>A c I,λi _ L h2=>by omega,S.size,Zb _,Zb _,S.os,S.tape,S.output⟩,trivial⟩;obtain⟨o,J,M⟩:=k.has i b w u;exact⟨o,by rw[A _ (Zs.1 J).1];exact J,M⟩
  .cases K
 .cases K
def kn2T:Tr (List V->Heap->Option (V×Heap)):=knownT.set 280 (some KYq)
def Ctq:Cfg:={cfg with known:=λf=>kn2T.get f}
theorem BHq:CfgOK Tryz.prog Ctq:=⟨cfgOK.ty,cfgOK.ext,cfgOK.mp,cfgOK.mt,cfgOK.ptr,cfgOK.raw,cfgOK.fnc,cfgOK.room⟩
theorem Bcq:Ycq Tryz.prog Ctq:=ofq
theorem nSq:jQq Tryz.prog Ctq:=λf k b=>by
 have e:kn2T.get f=if f=280 then some KYq else knownT.get f:=by
  unfold kn2T;rw[Tr.get_set]
 have b:kn2T.get f=some k:=b;rw[e] at b;split at b
 .rename_i d;cases b;subst d;exact pMq
 .exact nTq f k b
set_option maxRecDepth 1000000 in
theorem runA:Cpq 3 (y9q Ctq 3000 4 [] (JBq 3 1 kA))=1:=by kernel_rfl
theorem APq:qVq Tryz.prog cfg 4 (r4q (bGq 1 kA)):=
 iwq mixed BHq Bcq nSq runA (λg a=>Yb (show Nat.ble (g+1) 3=true from a)) Xg
theorem eHq:jQq Tryz.prog cfg:=eIq _ APq
theorem cfgAOK:CfgOK Tryz.prog cfgA:=⟨cfgOK.ty,cfgOK.ext,cfgOK.mp,cfgOK.mt,cfgOK.ptr,cfgOK.raw,cfgOK.fnc,cfgOK.room⟩
theorem fnsAOK:Ycq Tryz.prog cfgA:=ofq
theorem BUq:qVq Tryz.prog cfg 28 BVq:=
 ixq λn=>dgq mixed cfgOK ofq eHq Tryz.func28 Xp (Go.Proofs.enters_of Tryz.func28 Xp rfl) Xp
theorem knownAsk:jQq Tryz.prog cfgA:=λf k a=>by
 have a:(match Nat.beq f 28 with|true=>some BVq|false=>cfg.known f)=some k:=a;cases e:Nat.beq f 28 with
 |false=>
  rw[e] at a;exact eHq f k a
 |true=>
  have h:=Zi e;subst h;rw[e] at a;obtain rfl:=ZA a;exact BUq
theorem fit_ru2{w:W}(h:Fit (.st 38 [.int .i64,.int .i64,.int .i64,.int .i64,.int .i64,.int .i64,.arr 32 1 (.int .u8)]) w):∃r:Ru,w=ruG r:=by
 obtain⟨l,rfl,w1,B,rfl,m,w2,D,rfl,q,w3,x,rfl,p,w4,y,rfl,j,w5,z,rfl,v,w6,E,rfl,o,C,A,rfl,k,rfl⟩:=h;obtain⟨a,rfl,_⟩:=Z5q m;obtain⟨b,rfl,_⟩:=Z5q q;obtain⟨c,rfl,_⟩:=Z5q p;obtain⟨d,rfl,_⟩:=Z5q j;obtain⟨e,rfl,_⟩:=Z5q v;obtain⟨f,rfl,_⟩:=Z5q o;obtain⟨g,rfl⟩:=i0q k;exact⟨⟨a,b,c,d,e,f,g⟩,rfl⟩
theorem fit_pr{w:W}(h:Fit (.st 33 [.arr 32 1 (.int .u8),.sl 1 1 (.int .u8)]) w):∃p:Pr,w=pW p/\True:=by
 obtain⟨l,rfl,w1,d,rfl,b,w2,e,rfl,c,rfl⟩:=h;obtain⟨k,rfl⟩:=i0q b;obtain⟨v,rfl,_⟩:=pYq c;exact⟨(k,v),rfl,trivial⟩
theorem fit_fs{w:W}(h:Fit (.sl 1 24 (.sl 1 1 (.int .u8))) w):∃l:Fs,w=flW l/\l.length<=10000000000000:=by
 obtain⟨l,rfl,c,_⟩:=fit_sl (Q:=λ_=>True) h λx a=>by obtain⟨b,rfl,_⟩:=pYq a;exact⟨b,rfl,trivial⟩
 exact⟨l,rfl,by omega⟩
mutual
def lfW:W->List V
 |.int k n=>[.int k n]
 |.bool b=>[.bool b]
 |.agg _ l=>lfL l
 |.arr _ _ l=>lfL l
 |_=>[]
def lfL:List W->List V
 |[]=>[]
 |w::l=>lfW w++lfL l
end
mutual
def aSq:W->Bool
 |.int _ _=>true
 |.bool _=>true
 |.agg n l=>Nat.beq (lfL l).length n&&ivq l
 |.arr n e l=>Nat.beq (lfL l).length n&&l.all (λx=>Nat.beq x.size e)&&ivq l
 |_=>false
def ivq:List W->Bool
 |[]=>true
 |w::l=>aSq w&&ivq l
end
mutual
theorem ANq{q:Ctx}:∀{w:W},aSq w=true->RS q w (lfW w)
 |.int k n,_=>rfl
 |.bool b,_=>rfl
 |.agg n l,h=>by
  simp only[aSq,Zd] at h;exact⟨Zi h.1,iuq h.2⟩
 |.arr n e l,h=>by
  simp only[aSq,Zd] at h;exact⟨Zi h.1.1,λx j=>Zi (List.all_eq_true.1 h.1.2 x j),iuq h.2⟩
 |.undef,h=>by simp[aSq] at h
 |.str _,h=>by simp[aSq] at h
 |.nilp,h=>by simp[aSq] at h
 |.ptr _ _,h=>by simp[aSq] at h
 |.nils,h=>by simp[aSq] at h
 |.sl _ _ _ _ _ _,h=>by simp[aSq] at h
 |.fz _ _ _,h=>by simp[aSq] at h
 |.fel _,h=>by simp[aSq] at h
 |.nilm,h=>by simp[aSq] at h
 |.fn _ _ _,h=>by simp[aSq] at h
 |.yield _,h=>by simp[aSq] at h
 |.nilf,h=>by simp[aSq] at h
 |.iface _ _,h=>by simp[aSq] at h
 |.nili,h=>by simp[aSq] at h
 |.tup _,h=>by simp[aSq] at h
theorem iuq{a:Ctx}:∀{l:List W},ivq l=true->RSL a l (lfL l)
 |[],_=>rfl
 |w::l,h=>by
  simp only[ivq,Zd] at h;exact qtq (ANq h.1) (iuq h.2)
end
def Dtq:V:=.arr 32 1 (List.replicate 32 (.int .u8 0))
def gapV:V:=.agg 101 [.bool true,.agg 100 [.int .i64 0,.bool false,.agg 98 [.int .i64 0,Dtq,Dtq,Dtq,.int .i64 0]]]
theorem x4q{b:Type}(L:List b)(a n:Nat):L.drop a=(L.drop a).take n++L.drop (a+n):=by
 rw[<-YB];exact(ZK n _).symm
theorem Xeq{b:Type}(L:List b)(a n:Nat)(h:L.length=a+n):L.drop a=(L.drop a).take n:=(Zp Yx).symm
def stL:Option TypeDesc->Option (List (TypeId×Nat))
 |some (.struct fs)=>some (fs.toList.map λf=>(f.type,f.offset))
 |_=>none
section
variable {H:Type} {enc:TypeId×Value->H} {P:Program} {w:World} {base:Nat} {spare:Nat->Bool} {held:Bool} {fuel:Nat} {cs:List Value} {p:List MemPlace}
theorem cEq{t:TypeId}{l:List (TypeId×Nat)}{d:DataW H}(q:stL (P.underlying t)=some l)(h:DataW.trod enc P w base spare held fuel t cs=some (d,p)):∃(u:List (DataW H×List MemPlace)) (n:Nat),d= .agg (u.map (·.1))/\cs.length=P.cellsOf t/\∀(i:Nat) (j:TypeId) (o:Nat),l[i]? =some (j,o) ->DataW.trod enc P w base spare held n j ((cs.drop o).take (P.cellsOf j))=u[i]? :=by
 unfold stL at q;split at q
 .rename_i y x;cases q;obtain⟨u,n,_,v,z,_,A⟩:=DataW.trod_struct x h;simp only[ZR] at v;refine⟨u,n,v.1,z,λi j o b=>?_⟩;rw[Z1] at b;cases hf:y.toList[i]? with
  |none=>rw[hf] at b;cases b
  |some f=>
   rw[hf] at b;cases b;exact A i f Jf
 .cases q
end
section
variable {H:Type} {enc:TypeId×Value->H} {w:World} {base:Nat} {spare:Nat->Bool} {held:Bool} {fuel:Nat} {cs:List Value} {p:List MemPlace}
def zdD:DataW H:=.agg (List.replicate 32 (.lit (.int .u8 0)))
def zdC:List Value:=List.replicate 32 (.int .u8 0)
theorem Koq(h:DataW.trod enc Tryz.prog w base spare held fuel 23 cs=some (zdD,p)):cs=zdC:=
 trod_tab (ns:=List.replicate 32 0) (k:=.u8) (n:=32) (e:=5) Xp Xp Xp Xp rfl h
theorem Knq{n:Int}(h:DataW.trod enc Tryz.prog w base spare held fuel 3 cs=some (.lit (.int .i64 n),p)):cs=[.int .i64 n]:=by
 obtain⟨z,b,a,_⟩:=DataW.trod_int (k:=.i64) Xp h;simp only[ZR,DataW.lit.injEq,Lit.int.injEq,true_and] at a;rw[b,a.1]
theorem gJq{b:Bool}(h:DataW.trod enc Tryz.prog w base spare held fuel 4 cs=some (.lit (.bool b),p)):cs=[.bool b]:=by
 obtain⟨z,c,a⟩:=DataW.trod_bool Xp h;simp only[ZR,DataW.lit.injEq,Lit.bool.injEq] at a;rw[c,a.1]
def hdD:DataW H:=.agg [.lit (.int .i64 0),zdD,zdD,zdD,.lit (.int .i64 0)]
def hdC:List Value:=.int .i64 0::(zdC++(zdC++(zdC++[.int .i64 0])))
theorem mwq(h:DataW.trod enc Tryz.prog w base spare held fuel 50 cs=some (hdD,p)):cs=hdC:=by
 obtain⟨F,n,g,k,f⟩:=cEq (l:=[(3,0),(23,1),(23,33),(23,65),(3,97)]) Xp h;have E:Tryz.prog.cellsOf 3=1:=by kernel_rfl
 have B:Tryz.prog.cellsOf 23=32:=by kernel_rfl
 have C:Tryz.prog.cellsOf 50=98:=by kernel_rfl
 rw[C] at k;have g:=(DataW.agg.inj g).symm;match F,g,f with
 |[(a,pa),(b,pb),(c,pc),(d,pd),(e,pe)],g,f=>
  simp only[ZD,List.map_nil,YM,and_true] at g;obtain⟨rfl,rfl,rfl,rfl,rfl⟩:=g;have v:=f 0 _ _ rfl;have x:=f 1 _ _ rfl;have z:=f 2 _ _ rfl;have r:=f 3 _ _ rfl;have j:=f 4 _ _ rfl;rw[E] at v j;rw[B] at x z r;have G:=Knq v;have A:=Koq x;have I:=Koq z;have J:=Koq r;have D:=Knq j;have i:=x4q cs 0 1;have t:=x4q cs 1 32;have u:=x4q cs 33 32;have q:=x4q cs 65 32;have o:=Xeq cs 97 1 k;rw[G] at i;rw[A] at t;rw[I] at u;rw[J] at q;rw[D] at o;rw[ZX] at i;rw[i,t,u,q,o];rfl
def evD:DataW H:=.agg [.lit (.int .i64 0),.lit (.bool false),hdD]
def evC:List Value:=.int .i64 0:: .bool false::hdC
theorem mxq(h:DataW.trod enc Tryz.prog w base spare held fuel 52 cs=some (evD,p)):cs=evC:=by
 obtain⟨z,n,d,j,e⟩:=cEq (l:=[(3,0),(4,1),(50,2)]) Xp h;have v:Tryz.prog.cellsOf 3=1:=by kernel_rfl
 have u:Tryz.prog.cellsOf 4=1:=by kernel_rfl
 have x:Tryz.prog.cellsOf 50=98:=by kernel_rfl
 have t:Tryz.prog.cellsOf 52=100:=by kernel_rfl
 rw[t] at j;have d:=(DataW.agg.inj d).symm;match z,d,e with
 |[(a,pa),(b,pb),(c,pc)],d,e=>
  simp only[ZD,List.map_nil,YM,and_true] at d;obtain⟨rfl,rfl,rfl⟩:=d;have k:=e 0 _ _ rfl;have o:=e 1 _ _ rfl;have q:=e 2 _ _ rfl;rw[v] at k;rw[u] at o;rw[x] at q;have A:=Knq k;have r:=gJq o;have B:=mwq q;have f:=x4q cs 0 1;have g:=x4q cs 1 1;have i:=Xeq cs 2 98 j;rw[A] at f;rw[r] at g;rw[B] at i;rw[ZX] at f;rw[f,g,i];rfl
def itD:DataW H:=.agg [.lit (.bool true),evD]
theorem trod_gap(h:DataW.trod enc Tryz.prog w base spare held fuel 79 cs=some (itD,p)):cs= .bool true::evC:=by
 obtain⟨q,n,c,j,d⟩:=cEq (l:=[(4,0),(52,1)]) Xp h;have t:Tryz.prog.cellsOf 4=1:=by kernel_rfl
 have u:Tryz.prog.cellsOf 52=100:=by kernel_rfl
 have r:Tryz.prog.cellsOf 79=101:=by kernel_rfl
 rw[r] at j;have c:=(DataW.agg.inj c).symm;match q,c,d with
 |[(a,pa),(b,pb)],c,d=>
  simp only[ZD,List.map_nil,YM,and_true] at c;obtain⟨rfl,rfl⟩:=c;have g:=d 0 _ _ rfl;have i:=d 1 _ _ rfl;rw[t] at g;rw[u] at i;have v:=gJq g;have k:=mxq i;have e:=x4q cs 0 1;have f:=Xeq cs 1 100 j;rw[v] at e;rw[k] at f;rw[ZX] at e;rw[e,f];rfl
theorem gap_cells:cellsV (rho0 101) gapV= .bool true::evC:=by kernel_rfl
end
theorem gap_rel{h:Heap}(v:3<=h.next)(u:n9q h=true)(j:h.val 0=some gapV):GRel cfg glT (ctx0 h):=λg w f b l q=>by
 unfold glT at b;split at b
 .rename_i e;obtain rfl:=Zi e;cases b;refine RV.of_one ⟨0,0,_,rfl,(by show 0<h.next;omega),j,by exact Zb _,λ_=>rfl,.inr rfl,?_⟩ Y Y;have e:((zmq gapV).drop 0).take (aiq itG).size=lfW (aiq itG):=by kernel_rfl
  rw[e];exact ANq Xp
 .exact(GRel.mono (Γ':=ctx0 h) (JQq (Zn v) u) ⟨Zb _,λ_ _=>rfl,λ_ h=>h.1,λ_ _=>rfl⟩) g w f b l q
end
end
end Go.Proofs.YtcoldbcijgmidaaGreatDoor

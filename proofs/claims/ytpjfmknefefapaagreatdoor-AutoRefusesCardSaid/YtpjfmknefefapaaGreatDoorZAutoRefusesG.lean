/-
  What the proof of AutoRefuses stands on, part 7. No condition.
-/
import Derived.OpenShut
import Derived.Handed
import Derived.ChangeArms
import Derived.ChangeOld
import Derived.OpenVars
import Derived.Carry
import Derived.Test.YtpjfmknefefapaaGreatDoorZAutoRefusesF
set_option maxRecDepth 100000
set_option linter.unusedSimpArgs false
set_option linter.unusedVariables false
namespace Go.Proofs.YtpjfmknefefapaaGreatDoor
section
open Go.RowKit
set_option maxRecDepth 100000
section
section
variable {C:Cfg} {G:Nat->Option W} {o:Oper} {fr fr2:FrW} {hp:HpW} {nw:Nat} {R:Res} {post:W->HpW->Nat->Res->Option EvW->Prop}
theorem f4q(hf:pdq (apq hp) fr fr2)(h:aeq C G o fr2 [] nw R λw hp' nw' R' ev=>ev=some .gen/\post w hp' nw' R' ev):aeq C G o fr hp nw R post:=λΓ X frv hnw s f0=>by
 let Γ2:Ctx:=⟨Γ.nw,Γ.σ,λc=>Γ.D c\/amq Γ hp c,Γ.h⟩
 have le:Γ.Le Γ2:=⟨Zc _,λ_ _=>rfl,λ_ h=>.inl h,λ_ _=>rfl⟩
 have q:Seen (apq hp) Γ Γ2:=⟨λ_ h _=>h,λ_ _ _=>rfl,λ_ h=>.inl h,λ_ _=>rfl,λb c _ h=>by
  unfold apq at h;split at h
  .rename_i ty c' hg;cases h;obtain⟨v,h1,h2,h3⟩:=qVq s hg;exact⟨.inr ⟨b,_,hg,rfl⟩,v,h2,h3⟩
  .cases h⟩
 have s2:SatH C G Γ2 [] X R:=⟨s.wf,λk ty' w hk=>by simp[hget] at hk,λk k' x y hx=>by simp[hget] at hx,YJ,λd hd hX=>by
  rcases hd with h|⟨b,x,h,rfl⟩
  .exact s.dX d h hX
  .exact(s.own b x.1 x.2 h).2.2.1 hX,s.xlt,λd hd=>by
  rcases hd with h|⟨b,x,h,rfl⟩
  .exact s.dlt d h
  .exact s.own_lt h,R.st _ _ _ _ _ s.res le.D le.val (λ_ _=>rfl) (Zc _),s.gl.mono le⟩
 have a:Frm Γ.nw Γ hp X Γ2 [] X:=⟨λ_ _=>rfl,λh=>h,Zc _,λ_ _ _ _=>rfl,λ_ h=>.inl h,λd hd=>by
  rcases hd with h|h
  .exact .inl h
  .exact .inr (.inl (.inl h)),λk x hk h=>by simp[hget] at h,λk x hk h=>by simp[hget] at h,λ_ h=>.inl h,λ_ h _ _=>h⟩
 obtain⟨n,w,hp',R',ev,v,h',Γ',X',⟨rfl,h1⟩,h2,⟨h3,h3'⟩,h4,h5,h6,h7,h8⟩:=h Γ2 X frv hnw s2 λt w hw=>by
  obtain⟨w0,g1,g2⟩:=u0q hf t w hw;obtain⟨u,g3,g4⟩:=f0 _ _ g1;exact⟨u,g3,j3q q g2 g4⟩
 exact⟨n,w,hp',R',_,v,h',Γ',X',h1,h2,⟨h3,h3'⟩,h4,⟨h5.nw,h5.σ,λc hc=>h5.D c (.inl hc),λc hc=>h5.val c (.inl hc)⟩,h6,a.trans h7,h8⟩
end
attribute [local irreducible] CoW OpW FlW aeq aiq
variable {G:Nat->Option W}
theorem xlq(h:Hdr):PS cfg G 131 [hdW h] (.int .i64 (if okH h then 0 else 8)):=by
 refine gI 11 Y (λR k0=>?_);refine gD 0 Y (λh1=>?_) (λh1=>?_)
 .exact gQ 25 Y Xy
 .refine gD 3 Y (λh2=>?_) (λh2=>?_)
  .exact gQ 21 Y Xy
  .refine gD 4 Y (λh3=>?_) (λh3=>?_)
   .exact gQ 16 Y Xy
   .refine gU 4 Y ?_;refine gS 3 Y (λh4=>?_) (λh4=>?_)
    .exact gQ 7 Y Xy
    .exact gQ 8 Y Xy
theorem bFq(n size:Nat)(hs:1<=size)(hs8:size<=8)(hn:n<256^size)(hn2:n<9223372036854775808):PS cfg G 136 [.int .i64 (n:Int),.int .i64 (size:Int)] (bW (beB size n)):=by
 refine gIv 8 Y (λR k0=>gA 0 Y (n) (zcq 1 Y ?_))
 (refine zsq rfl (yMq Y Y Y Y Y Y (lTq n size hs hs8 hn) ?_);rintro w hp1 nw1 ⟨rfl,rfl,rfl⟩)
 refine zhq 14 Y ?_;have hp:abq (.arr (size*1) 1 (zbq (beB size n)))=true:=q4q _;exact yTq Jm rfl (.sl (full:=false) (c:=.arr (size*1) 1 (zbq (beB size n))) (xs:=zbq (beB size n)) (by show some (adq _ (W.arr (size*1) 1 (zbq (beB size n))))=_;rw[zfq hp]) hp (zvq Xg (by rw[zqq,xvq]) rfl) Xk)
theorem rpq(ps:List (List UInt8))(f:Bool)(h2:2<=ps.length)(hn:ps.length<=140737488355328)(h1:1<=ps.flatten.length)(hb:ps.flatten.length<=140737488355328):PS cfg G 135 [.fz (ps.map bW) 1 f] (bW ps.flatten):=by
 exact gI 8 Y (λR k0=>gC 0 Y (t8q rfl ps f h2 hn h1 hb) (gQa 4 Y))
def hdB(h:Hdr):List UInt8:=[beB 8 h.height.toNat,h.parent.1,h.state.1,h.rows.1,beB 4 h.many.toNat].flatten
theorem hCq(h:Hdr):(hdB h).length=108:=by simp[hdB,xvq,h.parent.2,h.state.2,h.rows.2]
theorem csq(d:Dig)(i:Nat):(((zbq d.1).drop (0/1)).take 32)=zbq d.1:=by
 have h:(zbq d.1).length=32:=by rw[zqq,d.2]
 rw[show 0/1=0 from rfl,ZV,Zm (by rw[h];omega)]
theorem hBq(h:Hdr):ysq 50 (hdW h) 1 32 1=some (zbq h.parent.1)/\ysq 50 (hdW h) 33 32 1=some (zbq h.state.1)/\ysq 50 (hdW h) 65 32 1=some (zbq h.rows.1):=
 ⟨Ze some (csq h.parent 0),Ze some (csq h.state 0),Ze some (csq h.rows 0)⟩
theorem hDq(h:Hdr)(hh:¬okH h):PS cfg G 62 [hdW h] (.tup [.nils,.int .i64 8]):=by
 exact gI 11 Y (λR k0=>gC 0 Y (zoq (w':=.int .i64 8) (xlq h) (by rw[Zg hh])) (gQa 19 Y))
theorem mKq(h:Hdr)(hh:okH h):PS cfg G 62 [hdW h] (.tup [bW (hdB h),.int .i64 0]):=by
 obtain⟨h1,h2,h3,h4⟩:=hh;obtain⟨a,ha⟩:∃a:Nat,h.height=a:=⟨h.height.toNat,by omega⟩
 obtain⟨m,hm⟩:∃m:Nat,h.many=m:=⟨h.many.toNat,by omega⟩
 have ea:h.height.toNat=a:=by omega
 have em:h.many.toNat=m:=by omega
 have hl:=hCq h;have c1:=bFq (G:=G) a 8 Xd Xd (by show a<18446744073709551616;omega) Xd;have c2:=bFq (G:=G) m 4 Xd Xd (by show m<4294967296;omega) Xd;rw[<-ha] at c1;rw[<-hm] at c2;rw[<-ea] at c1;rw[<-em] at c2;have hj:=rpq (G:=G) [beB 8 h.height.toNat,h.parent.1,h.state.1,h.rows.1,beB 4 h.many.toNat] false Xi Xi Qe Qe;rw[show [beB 8 h.height.toNat,h.parent.1,h.state.1,h.rows.1,beB 4 h.many.toNat].flatten=hdB h from rfl] at hj;refine gI 11 Y (λR k0=>gC 0 Y (zoq (w':=.int .i64 0) (xlq h) (by rw[Zt ⟨h1,h2,h3,h4⟩])) (gC 16 Y c1 (gC 8 Y c2 ?_)));refine gSf 1 Y (f4q (fr2:=[(22,.fz ([beB 8 h.height.toNat,h.parent.1,h.state.1,h.rows.1,beB 4 h.many.toNat].map bW) 1 false)]) ⟨⟨_,rfl,(.sl2 (full:=false) rfl (.arr (.cons (.pur Xi) (.cons (.sl (full:=false) (c:=hdW h) (xs:=zbq h.parent.1) rfl Xi (hBq h).1 Xk) (.cons (.sl (full:=false) (c:=hdW h) (xs:=zbq h.state.1) rfl Xi (hBq h).2.1 Xk) (.cons (.sl (full:=false) (c:=hdW h) (xs:=zbq h.rows.1) rfl Xi (hBq h).2.2 Xk) (.cons (.pur Xi) .nil)))))) rfl Xk)⟩,trivial⟩ (Joq Y Y Y Y Y hj Xi Xi ⟨rfl,by first|rfl|kernel_rfl,?_⟩));exact gQa 5 Y
noncomputable def mNq(h:Hdr):Dig:=crq 6 [hdB h]
theorem mIq(h:Hdr)(hh:¬okH h):PS cfg G 19 [hdW h] (.tup [dW zeroD,.int .i64 8]):=by
 exact gI 10 Y (λR k0=>gC 0 Y (hDq h hh) (gV 17 Y v8q (gQa 7 Y)))
theorem cUq(h:Hdr)(hh:okH h):PS cfg glK 19 [hdW h] (.tup [dW (mNq h),.int .i64 0]):=by
 have hl:=hCq h;refine gI 10 Y (λR k0=>gC 0 Y (mKq h hh) (zcq 21 Y ?_));refine ulq Y Y Y Y Y (by(repeat (first|exact .nil|refine .cons ?_ ?_|(refine .sl Y ?_ rfl Xk;first|rfl|(focus (simp;done)))|(refine yYq Y ?_ rfl;first|rfl|(focus (simp;done)))|(refine .pur ?_;first|rfl|(focus (simp;done)))))) (uvq 6 [hdB h] false Xi (by simp[hl])) Xn Xn ?_;exact zhq 5 Y (gQa 0 Y)
end
section
attribute [local irreducible] CoW OpW FlW aeq aiq
variable {G:Nat->Option W}
noncomputable def sHq(r:Rec):W:=.agg 34 [.int .u8 (.ofNat r.kind.toNat),dW r.id,.int .i64 (r.code:Int)]
@[simp] theorem lPq(r:Rec):abq (sHq r)=true:=by simp[sHq]
def okR(r:Rec):Prop:=(r.kind=1\/r.kind=2)/\(r.code=0\/r.code=151\/(r.kind=2/\r.code=150))
def recB(r:Rec):List UInt8:=([r.kind]++r.id.1)++beB 2 r.code
end
section
attribute [local irreducible] CoW OpW FlW aeq aiq
noncomputable def b9q:T->Dig
 |.nil=>crq 0 []
 |.leaf k v=>crq 1 [k.1,v]
 |.fork l r=>crq 2 [(b9q l).1,(b9q r).1]
def vHq(t:T):Prop:=∀p∈t.all,p.2.length<1000000
theorem mjq(x:Node):ysq 50 (nW x) 1 32 1=some (zbq x.key.1):=by
 have h:(zbq x.key.1).length=32:=by rw[zqq,x.key.2]
 show some (((zbq x.key.1).drop (0/1)).take 32)=_;rw[show 0/1=0 from rfl,ZV,Zm (by rw[h];omega)]
theorem o9q:PS cfg glK 60 [] (dW (crq 0 [])):=by
 exact gI 7 Y (λR k0=>ulq Y Y Y Y Y (.cons (.pur rfl) (.cons .nilfz .nil)) (uvq 0 [] false Xi Xi) Xn Xn (zhq 4 Y (gQa 0 Y)))
theorem nSq(t0:Tree)(hb:t0.nodes.length<=4611686018427387903):∀(t:T) (n:Nat),Rep t0.nodes n t->vHq t->PS cfg glK 129 [tW t0,.int .i64 (n:Int)] (dW (b9q t)):=by
 intro t;induction t with
 |nil=>
  intro n hr hs;obtain rfl:n=0:=by cases hr;rfl
  refine gI 13 Y (λR k0=>?_);refine gS 0 Y (λh1=>?_) (λh1=>?_)
  .exact gC 2 Y (o9q) (gQa 5 Y)
  .exfalso;omega
 |leaf k v=>
  intro n hr hs;have hle:=hr.le;have hv:v.length<1000000:=hs (k,v) (by simp[T.all]);cases hr with
  |leaf h=>
  rename_i n l r;refine gI 13 Y (λR k0=>?_);refine gS 0 Y (λh1=>?_) (λh1=>?_)
  .exfalso;omega
  .refine gA 7 Y (n) (gP 0 Y (zyq (i:=n) Y Y Y Y Y Y Y (zgq nW h)) (zcq 20 Y ?_));first|refine YIq Y Y Y Y Y (.cons (.pur rfl) (.cons (.sl2 (full:=false) rfl (.arr (.cons (.sl (full:=false) (c:=nW ⟨true,k,v,l,r⟩) (xs:=zbq k.1) rfl Xi (mjq _) Xk) (.cons (.pur Xi) .nil))) rfl Xk) .nil)) (uvq 1 [k.1,v] false Xi (by simp[k.2,hv])) Xn Xn Xr ?_|refine YIq Y Y Y Y Y (.cons (.pur rfl) (.cons .nilfz .nil)) (uvq 0 [] false Xi Xi) Xn Xn Xr ?_
   exact yhq 5 Y (gQa 0 Y)
 |fork tl tr ihL ihR=>
  intro n hr hs;have hle:=hr.le;cases hr with
  |fork h hl0 hr0 hL hR=>
  rename_i n l r k v;have sL:vHq tl:=λp hp=>hs p (by simp[T.all,hp])
  have sR:vHq tr:=λp hp=>hs p (by simp[T.all,hp])
  refine gI 13 Y (λR k0=>?_);refine gS 0 Y (λh1=>?_) (λh1=>?_)
  .exfalso;omega
  .exact gA 7 Y (n) (gP 0 Y (zyq (i:=n) Y Y Y Y Y Y Y (zgq nW h)) (gC 20 Y (ihL l hL sL) (gC 3 Y (ihR r hR sR) (zcq 11 Y (YIq Y Y Y Y Y (.cons (.pur rfl) (.cons (.sl2 (full:=false) rfl (.arr (.cons (.sl (full:=false) (xs:=zbq (b9q tl).1) rfl Xi (zvq Xg (by simp[zqq,(b9q tl).2]) rfl) Xk) (.cons (.sl (full:=false) (xs:=zbq (b9q tr).1) rfl Xi (zvq Xg (by simp[zqq,(b9q tr).2]) rfl) Xk) .nil))) rfl Xk) .nil)) (uvq 2 [(b9q tl).1,(b9q tr).1] false Xi (by simp[(b9q tl).2,(b9q tr).2])) Xn Xn Xr (yhq 4 Y (gQa 0 Y)))))))
end
section
attribute [local irreducible] CoW OpW FlW aeq aiq
variable {G:Nat->Option W}
def omq(n:Nat):Nat:=2^(lenM (n-1) -1)
noncomputable def pwq:Nat->List (List UInt8) ->Dig
 |0,_=>crq 0 []
 |n+1,ps=>match ps with
  |[]=>crq 0 []
  |[p]=>crq 7 [p]
  |p::q::r=>crq 8 [(pwq n ((p::q::r).take (omq (p::q::r).length))).1,(pwq n ((p::q::r).drop (omq (p::q::r).length))).1]
noncomputable def AHq(ps:List (List UInt8)):Dig:=pwq 256 ps
end
section
theorem Jvq(L:List Rec):acq (L.map sHq)=true:=yfq (λr=>lPq r) L
attribute [local irreducible] CoW OpW FlW aeq aiq
variable {G:Nat->Option W}
end
noncomputable def sgq(ds:List Depo)(xs:List Tx)(f g:Bool):W:=.agg 2 [.fz (ds.map pdW) 34 f,.fz (xs.map txW) 99 g]
@[simp] theorem eFq(ds:List Depo)(xs:List Tx)(f g:Bool):abq (sgq ds xs f g)=true:=by
 have h1:abq (.fz (ds.map pdW) 34 f)=true:=yfq cKq ds;have h2:abq (.fz (xs.map txW) 99 g)=true:=yfq qGq xs;show(abq (.fz (ds.map pdW) 34 f)&&(abq (.fz (xs.map txW) 99 g)&&true))=true;rw[h1,h2];rfl
@[simp] theorem ASq(l:List Depo):acq (l.map pdW)=true:=yfq cKq l
@[simp] theorem qTq(l:List Tx):acq (l.map txW)=true:=yfq qGq l
structure RcI where
 kind:UInt8
 id:Dig
 code:Int
noncomputable def rcW(r:RcI):W:=.agg 34 [.int .u8 (.ofNat r.kind.toNat),dW r.id,.int .i64 r.code]
@[simp] theorem cEq(r:RcI):abq (rcW r)=true:=by simp[rcW]
@[simp] theorem ALq(l:List RcI):acq (l.map rcW)=true:=yfq cEq l
structure Lk where
 hdr:Hdr
 root:Int
 ds:List Depo
 xs:List Tx
 rs:List RcI
noncomputable def lkG(l:Lk):W:=.agg 102 [hdW l.hdr,.int .i64 l.root,sgq l.ds l.xs false false,.fz (l.rs.map rcW) 34 false]
@[simp] theorem hlq(l:Lk):abq (lkG l)=true:=by
 have h:abq (.fz (l.rs.map rcW) 34 false)=true:=yfq cEq l.rs;show(abq (hdW l.hdr)&&(true&&(abq (sgq l.ds l.xs false false)&&(abq (.fz (l.rs.map rcW) 34 false)&&true))))=true;rw[h,rqq,eFq];rfl
@[simp] theorem vZq(l:List Lk):acq (l.map lkG)=true:=yfq hlq l
structure Ch where
 tree:Tree
 links:List Lk
noncomputable def chG(c:Ch):W:=.agg 3 [tW c.tree,.fz (c.links.map lkG) 102 false]
@[simp] theorem saq(c:Ch):abq (chG c)=true:=by
 show(abq (tW c.tree)&&(abq (.fz (c.links.map lkG) 102 false)&&true))=true;rw[fYq,show abq (.fz (c.links.map lkG) 102 false)=true from vZq _];rfl
structure Vw where
 number:Int
 down:Bool
 final:Int
 ch:Ch
noncomputable def vwG(v:Vw):W:=.agg 6 [.int .i64 v.number,.bool v.down,.int .i64 v.final,chG v.ch]
@[simp] theorem oUq(v:Vw):abq (vwG v)=true:=by
 show(true&&(true&&(true&&(abq (chG v.ch)&&true))))=true;rw[saq];rfl
def sDq(ds:List Depo)(xs:List Tx):Prop:=ds.length<=16/\xs.length<=16/\∀x∈xs,x.sign=xCq x
section
attribute [local irreducible] CoW OpW FlW aeq aiq
def hdZ:Hdr:=⟨0,zeroD,zeroD,zeroD,0⟩
end
section
noncomputable def wkF(t:Tree)(box:Dig)(L:List Rec):W:=.agg 35 [tW t,dW box,.fz (L.map sHq) 34 false]
@[simp] theorem Azq(t:Tree)(box:Dig)(L:List Rec):abq (wkF t box L)=true:=by
 show(abq (tW t)&&(abq (dW box)&&(abq (.fz (L.map sHq) 34 false)&&true)))=true;rw[fYq,qhq,show abq (.fz (L.map sHq) 34 false)=true from Jvq L];rfl
attribute [local irreducible] CoW OpW FlW aeq aiq
attribute [local simp] Jvq
noncomputable def Baq(p:Hdr)(t1:T)(L:List Rec):Hdr:=⟨p.height+1,mNq p,b9q t1,AHq (L.map recB),L.length⟩
end
end
section
open Go.RowKit Go.ChangeShapes Go.WideShapes
mutual
/-- cells of the memory at the start that hold what a value says -/
def HC(W0:World):W->List Value->Prop
 |.bool b,cs=>cs=[.bool b]
 |.int k n,cs=>cs=[.int k n]
 |.agg n l,cs=>cs.length=n/\HCL W0 l cs
 |.arr n e l,cs=>cs.length=n/\(∀x∈l,x.size=e)/\l.length*e=n/\HCL W0 l cs
 |.str x,cs=>cs=[.string ⟨⟨x⟩⟩]
 |.fz l e f,cs=>f=false/\((l=[]/\cs=[.slice none 0 0])\/(l=[]/\0<e/\∃(a:Addr) (bn:Nat) (cs':Array Value) (ty:TypeId) (fz:Nat×Nat),cs=[.slice (some a) 0 0]/\W0.heap[bn]? =some (.cells cs' ty fz))\/∃(a:Addr) (cap:Nat),cs=[.slice (some a) l.length cap]/\l.length<=cap/\a.spot=none/\0<e/\(∀x∈l,x.size=e)/\
   ∃(pre mid tail:List Value) (ty:TypeId) (fz:Nat×Nat),W0.heap[a.block]? =some (.cells (pre++(mid++tail)).toArray ty fz)/\pre.length=a.off/\HCL W0 l mid)
 |_,_=>False
def HCL(W0:World):List W->List Value->Prop
 |[],cs=>cs=[]
 |x::l,cs=>∃a b,cs=a++b/\HC W0 x a/\HCL W0 l b
end
theorem HC.len{W0:World}{w:W}{cs:List Value}(h:HC W0 w cs):cs.length=w.size:=by
 cases w<;>simp only[HC] at h<;>first
  |(subst h;rfl)
  |exact h.1
  |exact h.elim
  |(rcases h with ⟨_,⟨_,rfl⟩|⟨_,_,_,_,_,_,_,rfl,_⟩|⟨a,cap,rfl,_⟩⟩<;>rfl)
structure Start(W0:World)(h:Heap)(ρ:Env):Prop where
 wf:∀i,h.next<=i->h.get i=none
 ro:∀i b,h.get i=some b->∃v o,b= .ro v/\W0.heap[ρ.b i]? =some o/\KnB ρ i b o/\InB (DD (λi=>i<h.next) ρ) b
theorem Start.rel{W0:World}{h:Heap}{ρ:Env}(s:Start W0 h ρ){U:Nat}(hU:h.next<=U):Rel W0 U (λi=>i<h.next) ρ h W0:=by
 refine⟨λi hi=>.inl hi,s.wf,λi b _ hb=>?_,λi b _ hb=>?_,λi j b c _ _ hb _ ho=>?_,λi b _ hb ho=>?_,λi j b c _ _ _ hc _ ho=>?_,Below.refl _ _⟩
 .obtain⟨v,o,rfl,h1,h2,h3⟩:=s.ro i b hb;exact⟨o,h1,h2⟩
 .obtain⟨v,o,rfl,h1,h2,h3⟩:=s.ro i b hb;exact h3
 .obtain⟨v,o,rfl,_⟩:=s.ro i b hb;cases ho
 .obtain⟨v,o,rfl,_⟩:=s.ro i b hb;cases ho
 .obtain⟨v,o,rfl,_⟩:=s.ro j c hc;cases ho
theorem law1{P:Program}{C:Cfg}{G:Nat->Option W}(hmx:P.follows .mixedOrders=true)(hC:CfgOK P C)(hF:vJq P C)(hK:jhq P C){f:FuncId}{ws:List W}(sp:PS C G f ws (.bool true)){W0:World}{h:Heap}{ρ:Env}{vs:List V}(s:Start W0 h ρ)
  (gl:GlobOK C (DD (λi=>i<h.next) ρ) ρ) (gr:GRel C G ⟨0,λi=>i,λi=>i<h.next,h⟩) (hin:InDL (DD (λi=>i<h.next) ρ) vs) (hv:RVL ⟨0,λi=>i,λi=>i<h.next,h⟩ ws vs):
  Calls P f (zMq ρ vs).toArray W0 λe w'=>e= .returned (.bool true)/\Below W0.heap.size W0 w':=by
 obtain⟨n,v,Γ',X',w,hp',R',g1,g2,g3,g4,g5,rfl⟩:=sp Res.none ⟨0,λi=>i,λi=>i<h.next,h⟩ (λ_=>False) vs rfl
  ⟨s.wf,λb ty w hb=>by simp[hget] at hb,λb b' x y hb=>by simp[hget] at hb,YJ,λ_ _ h=>h,λ_ h=>h.elim,λ_ h=>h,trivial,gr⟩ hv
 refine(gtq hmx hC hF hK g1 gl hin (s.rel g3.next)).mono λe w'=>?_
 rintro⟨D',ρ',rfl,hb,_⟩
 have hvb:v= .bool true:=by
  have:=g4.one rfl;simpa[RS] using this
 subst hvb;exact⟨rfl,hb⟩
end
section
open Go.RowKit
structure Later(h:Heap)(ρ:Env)(h':Heap)(ρ':Env):Prop where
 next:h.next<=h'.next
 get:∀i,i<h.next->h'.get i=h.get i
 env:∀i,i<h.next->ρ'.b i=ρ.b i/\ρ'.pre i=ρ.pre i/\ρ'.cap i=ρ.cap i/\ρ'.l i=ρ.l i
theorem Later.refl(h:Heap)(ρ:Env):Later h ρ h ρ:=⟨Zc _,λ_ _=>rfl,λ_ _=>⟨rfl,rfl,rfl,rfl⟩⟩
theorem Later.trans{h1 h2 h3:Heap}{ρ1 ρ2 ρ3:Env}(a:Later h1 ρ1 h2 ρ2)(b:Later h2 ρ2 h3 ρ3):Later h1 ρ1 h3 ρ3:=
 ⟨Zs a.next b.next,λi hi=>(b.get i (Zw hi a.next)).trans (a.get i hi),λi hi=>by
  obtain⟨p1,p2,p3,p4⟩:=a.env i hi;obtain⟨q1,q2,q3,q4⟩:=b.env i (Zw hi a.next);exact⟨q1.trans p1,q2.trans p2,q3.trans p3,q4.trans p4⟩⟩
noncomputable def ctx0(h:Heap):Ctx:=⟨0,λi=>i,λi=>i<h.next,h⟩
theorem Later.le{h h':Heap}{ρ ρ':Env}(a:Later h ρ h' ρ'):(ctx0 h).Le (ctx0 h'):=
 ⟨Zc _,λ_ _=>rfl,λc hc=>Zw hc a.next,λc hc=>by
  show h'.val c=h.val c;unfold Heap.val;rw[a.get c hc]⟩
theorem Later.agree{h h':Heap}{ρ ρ':Env}(a:Later h ρ h' ρ'):Env.Agree (DD (λi=>i<h.next) ρ) ρ ρ':=λi m hi=>a.env i hi.1
def Env.more(ρ:Env)(n bn pre cap:Nat)(z:Option Addr):Env:=⟨λi=>if i=n then bn else ρ.b i,λi=>if i=n then pre else ρ.pre i,λi=>if i=n then cap else ρ.cap i,λi=>if i=n then(bn,z) else ρ.l i⟩
theorem v0q(h:Heap)(ρ:Env)(v:V)(bn pre cap:Nat)(z:Option Addr):Later h ρ (h.push (.ro v)) (ρ.more h.next bn pre cap z):=by
 refine⟨YK _,λi hi=>?_,λi hi=>?_⟩
 .rw[Heap.get_push,Zg Xd]
 .have e:i≠h.next:=by omega
  simp only[Env.more,Zg e,and_self]
theorem Start.push{W0:World}{h:Heap}{ρ:Env}(s:Start W0 h ρ)(z:Option Addr){v:V}{bn cap:Nat}{pre tail:List Value}{ty:TypeId}{fz:Nat×Nat}(ho:W0.heap[bn]? =some (.cells (pre++(cellsV ρ v++tail)).toArray ty fz))(hv:InD (DD (λi=>i<h.next) ρ) v)(hc:v.size<=cap):Start W0 (h.push (.ro v)) (ρ.more h.next bn pre.length cap z):=by
 have la:=v0q h ρ v bn pre.length cap z;have mono:∀i m,DD (λi=>i<h.next) ρ i m->DD (λi=>i<(h.push (.ro v)).next) (ρ.more h.next bn pre.length cap z) i m:=λi m hi=>⟨Zw hi.1 la.next,by rw[(la.env i hi.1).2.2.1];exact hi.2⟩
 refine⟨λi hi=>?_,λi b hb=>?_⟩
 .have hi:h.next+1<=i:=hi;rw[Heap.get_push,Zg Xd];exact s.wf i Xd
 .rw[Heap.get_push] at hb;split at hb
  .rename_i e;cases hb;subst e;refine⟨v,_,rfl,by simp only[Env.more,if_true];exact ho,⟨pre,tail,ty,fz,?_,by simp[Env.more],by simp only[Env.more,if_true];exact hc⟩,InD.mono mono hv⟩;rw[yEq la.agree hv]
  .obtain⟨v',o,rfl,h1,h2,h3⟩:=s.ro i b hb;have hi:i<h.next:=Nat.lt_of_not_le λq=>by rw[s.wf i q] at hb;cases hb
   exact⟨v',o,rfl,by rw[(la.env i hi).1];exact h1,h2.agree la.agree (m:=0) ⟨hi,Zi _⟩ h3,InB.mono mono h3⟩
theorem Start.ghost{W0:World}{h:Heap}{ρ:Env}(s:Start W0 h ρ){bn:Nat}{cs:Array Value}{ty:TypeId}{fz:Nat×Nat}(ho:W0.heap[bn]? =some (.cells cs ty fz))(a:Addr):Start W0 (h.push (.ro (.agg 0 []))) (ρ.more h.next bn 0 0 (some a)):=by
 refine Start.push s (some a) (v:=.agg 0 []) (pre:=[]) (tail:=cs.toList) (ty:=ty) (fz:=fz) ?_ trivial (Zc _);rw[ho];simp[cellsV,fit]
structure Opnd(W0:World)(h:Heap)(ρ:Env)(cs:List Value)(s:List V)(h':Heap)(ρ':Env):Prop where
 la:Later h ρ h' ρ'
 st:Start W0 h' ρ'
 eq:cs=s.map (aaq ρ')
 leaf:∀v∈s,v.leaf=true
 ind:InDL (DD (λi=>i<h'.next) ρ') s
theorem Later.dd{h h':Heap}{ρ ρ':Env}(a:Later h ρ h' ρ'):∀i m,DD (λi=>i<h.next) ρ i m->DD (λi=>i<h'.next) ρ' i m:=λi m hi=>⟨Zw hi.1 a.next,by rw[(a.env i hi.1).2.2.1];exact hi.2⟩
theorem Later.map{h h':Heap}{ρ ρ':Env}(a:Later h ρ h' ρ'){s:List V}(hs:InDL (DD (λi=>i<h.next) ρ) s):s.map (aaq ρ')=s.map (aaq ρ):=by
 rw[<-kxq,<-kxq,qoq a.agree hs]
theorem nKq{D:Nat->Nat->Prop}{a b:List V}(ha:InDL D a)(hb:InDL D b):InDL D (a++b):=InDL_iff.2 λv hv=>by
 rcases ZT.1 hv with h|h
 .exact InDL_iff.1 ha v h
 .exact InDL_iff.1 hb v h
theorem Q5q{ρ:Env}:∀{s:List V},(∀v∈s,v.leaf=true) ->jIq ρ s=s.map (aaq ρ)
 |[],_=>rfl
 |v::s,h=>by
  rw[jIq,khq (h v (ZS ..)),Q5q (s:=s) λx hx=>h x (ZP _ hx)];rfl
theorem Y5q{ρ:Env}{s:List V}(h:∀v∈s,v.leaf=true):cellsV ρ (.agg s.length s)=s.map (aaq ρ):=by
 simp only[cellsV,Q5q h];exact yGq Xi
theorem QTq{s:List V}(h:∀v∈s,v.leaf=true):zlq (.agg s.length s)=s:=ZUq (λx hx=>V.leaf_agg (h x hx)) rfl
theorem HCL.len{W0:World}:∀{l:List W} {cs:List Value},HCL W0 l cs->cs.length=iZq l
 |[],cs,h=>by simp only[HCL] at h;subst h;rfl
 |x::l,cs,h=>by
  simp only[HCL] at h;obtain⟨a,b,rfl,h1,h2⟩:=h;rw[Zj,HC.len h1,HCL.len h2];rfl
mutual
theorem g1q{W0:World}:∀(w:W) {cs:List Value} {h:Heap} {ρ:Env},HC W0 w cs->Start W0 h ρ->∃h' ρ' s,Opnd W0 h ρ cs s h' ρ'/\RS (ctx0 h') w s
 |.bool b,cs,h,ρ,hc,st=>by
  simp only[HC] at hc;subst hc
  exact⟨h,ρ,[.bool b],⟨Later.refl _ _,st,by simp[aaq],by simp[V.leaf],⟨trivial,trivial⟩⟩,by simp[RS]⟩
 |.int k n,cs,h,ρ,hc,st=>by
  simp only[HC] at hc;subst hc
  exact⟨h,ρ,[.int k n],⟨Later.refl _ _,st,by simp[aaq],by simp[V.leaf],⟨trivial,trivial⟩⟩,by simp[RS]⟩
 |.str x,cs,h,ρ,hc,st=>by
  simp only[HC] at hc;subst hc
  exact⟨h,ρ,[.str x],⟨Later.refl _ _,st,by simp[aaq],by simp[V.leaf],⟨trivial,trivial⟩⟩,by simp[RS]⟩
 |.agg n l,cs,h,ρ,hc,st=>by
  simp only[HC] at hc;obtain⟨h',ρ',s,o,r⟩:=dYq l hc.2 st;exact⟨h',ρ',s,o,by simp only[RS];exact⟨by rw[<-hc.1,o.eq];simp,r⟩⟩
 |.arr n e l,cs,h,ρ,hc,st=>by
  simp only[HC] at hc;obtain⟨h',ρ',s,o,r⟩:=dYq l hc.2.2.2 st;exact⟨h',ρ',s,o,by simp only[RS];exact⟨by rw[<-hc.1,o.eq];simp,hc.2.1,r⟩⟩
 |.fz l e f,cs,h,ρ,hc,st=>by
  simp only[HC] at hc;obtain⟨rfl,⟨rfl,rfl⟩|⟨rfl,he,a,bn,cs',ty,fz,rfl,ho⟩|⟨a,cap,rfl,hle,hsp,he,hsz,pre,mid,tail,ty,fz,ho,hpre,hl⟩⟩:=hc
  .exact⟨h,ρ,[.nils],⟨Later.refl _ _,st,by simp[aaq],by simp[V.leaf],⟨trivial,trivial⟩⟩,by simp[RS]⟩
  .have la:=v0q h ρ (.agg 0 []) bn 0 0 (some a);refine⟨_,_,[.sl h.next 1 0 0 e (some 0)],⟨la,st.ghost ho a,?_,by simp[V.leaf],⟨⟨he,Zc _,YE _,by simp⟩,trivial⟩⟩,?_⟩
   .simp[aaq,yjq,z8q,vLq,Env.more]
   .simp only[RS];refine .inr ⟨h.next,1,0,some 0,.agg 0 [],rfl,λh=>Qs,YE _,?_,rfl,by simp[V.size],by simp,?_⟩
    .simp[ctx0,Heap.val,Heap.get_push]
    .simp[RSL]
  .obtain⟨h1,ρ1,s,o,r⟩:=dYq l hl st
   have hlen:s.length=l.length*e:=by
    have h1:=HCL.len hl;rw[kyq hsz,o.eq,Zd] at h1;exact h1
   have la:=v0q h1 ρ1 (.agg s.length s) a.block a.off (cap*e) none;have hcl:l.length*e<=cap*e:=Z3 e hle
   have stp:Start W0 (h1.push (.ro (.agg s.length s))) (ρ1.more h1.next a.block a.off (cap*e) none):=by
    rw[<-hpre];refine o.st.push none (tail:=tail) (ty:=ty) (fz:=fz) ?_ o.ind (by show s.length<=cap*e;omega);rw[Y5q o.leaf,<-o.eq];exact ho
   refine⟨_,_,[.sl h1.next 0 0 l.length e (some cap)],⟨o.la.trans la,stp,?_,by simp[V.leaf],⟨⟨he,hle,YE _,by simp[Env.more]⟩,trivial⟩⟩,?_⟩
   .obtain⟨ab,ao,asp⟩:=a;simp only at hsp;subst hsp;by_cases hc0:cap=0
    .subst hc0;simp[aaq,yjq,z8q,Env.more]
    .simp[aaq,yjq,z8q,Env.more,hc0]
   .simp only[RS];refine .inr ⟨h1.next,0,0,some cap,.agg s.length s,rfl,λh=>Qs,YE _,?_,rfl,by simp only[V.size];omega,hsz,?_⟩
    .simp[ctx0,Heap.val,Heap.get_push]
    .rw[ZV,QTq o.leaf,Zm Xd];exact RSL.mono la.le r
 |.undef,cs,h,ρ,hc,st=>by simp[HC] at hc
 |.nilp,cs,h,ρ,hc,st=>by simp[HC] at hc
 |.ptr _ _,cs,h,ρ,hc,st=>by simp[HC] at hc
 |.nils,cs,h,ρ,hc,st=>by simp[HC] at hc
 |.sl _ _ _ _ _ _,cs,h,ρ,hc,st=>by simp[HC] at hc
 |.fel _,cs,h,ρ,hc,st=>by simp[HC] at hc
 |.nilm,cs,h,ρ,hc,st=>by simp[HC] at hc
 |.fn _ _ _,cs,h,ρ,hc,st=>by simp[HC] at hc
 |.yield _,cs,h,ρ,hc,st=>by simp[HC] at hc
 |.nilf,cs,h,ρ,hc,st=>by simp[HC] at hc
 |.iface _ _,cs,h,ρ,hc,st=>by simp[HC] at hc
 |.nili,cs,h,ρ,hc,st=>by simp[HC] at hc
 |.tup _,cs,h,ρ,hc,st=>by simp[HC] at hc
theorem dYq{W0:World}:∀(l:List W) {cs:List Value} {h:Heap} {ρ:Env},HCL W0 l cs->Start W0 h ρ->∃h' ρ' s,Opnd W0 h ρ cs s h' ρ'/\RSL (ctx0 h') l s
 |[],cs,h,ρ,hc,st=>by
  simp only[HCL] at hc;subst hc
  exact⟨h,ρ,[],⟨Later.refl _ _,st,rfl,by simp,trivial⟩,by simp[RSL]⟩
 |x::l,cs,h,ρ,hc,st=>by
  simp only[HCL] at hc;obtain⟨a,b,rfl,h1,h2⟩:=hc;obtain⟨h1',ρ1,s1,o1,r1⟩:=g1q x h1 st;obtain⟨h2',ρ2,s2,o2,r2⟩:=dYq l h2 o1.st;refine⟨h2',ρ2,s1++s2,⟨o1.la.trans o2.la,o2.st,?_,?_,nKq (o1.ind.mono o2.la.dd) o2.ind⟩,qeq (RS.mono o2.la.le r1) r2⟩
  .rw[Z5,o2.la.map o1.ind,<-o1.eq,<-o2.eq]
  .intro v hv;rcases ZT.1 hv with h|h
   .exact o1.leaf v h
   .exact o2.leaf v h
end
def HV(W0:World)(w:W)(v:Value):Prop:=match w.isAgg with
 |true=>∃cs,v= .agg cs.toArray/\HC W0 w cs
 |false=>HC W0 w [v]
def HVL(W0:World):List W->List Value->Prop
 |[],vs=>vs=[]
 |w::ws,vs=>∃v vs',vs=v::vs'/\HV W0 w v/\HVL W0 ws vs'
theorem tNq{W0:World}{w:W}{v:Value}{h:Heap}{ρ:Env}(hv:HV W0 w v)(st:Start W0 h ρ):∃h' ρ' x,Later h ρ h' ρ'/\Start W0 h' ρ'/\aaq ρ' x=v/\InD (DD (λi=>i<h'.next) ρ') x/\RV (ctx0 h') w x:=by
 unfold HV at hv;split at hv
 .rename_i ha;obtain⟨cs,rfl,hc⟩:=hv;obtain⟨h',ρ',s,o,r⟩:=g1q w hc st;refine⟨h',ρ',.agg s.length s,o.la,o.st,?_,o.ind,ha,by rw[QTq o.leaf];exact r⟩;rw[qzq rfl,Y5q o.leaf,<-o.eq]
 .rename_i ha;obtain⟨h',ρ',s,o,r⟩:=g1q w hv st;have hl:=Ze List.length o.eq;simp only[Zv,YD,Zd] at hl;match s,hl,o,r with
  |[x],_,o,r=>
   have e:=o.eq;simp only[ZC,List.map_nil,YM,and_true] at e;exact⟨h',ρ',x,o.la,o.st,e.symm,o.ind.1,RV.of_one r ha (V.leaf_agg (o.leaf x Xi))⟩
theorem g2q{W0:World}:∀{ws:List W} {vs:List Value} {h:Heap} {ρ:Env},HVL W0 ws vs->Start W0 h ρ->∃h' ρ' xs,Later h ρ h' ρ'/\Start W0 h' ρ'/\zMq ρ' xs=vs/\InDL (DD (λi=>i<h'.next) ρ') xs/\RVL (ctx0 h') ws xs
 |[],vs,h,ρ,hv,st=>by
  simp only[HVL] at hv;subst hv
  exact⟨h,ρ,[],Later.refl _ _,st,rfl,trivial,by simp[RVL]⟩
 |w::ws,vs,h,ρ,hv,st=>by
  simp only[HVL] at hv;obtain⟨v,vs',rfl,h1,h2⟩:=hv;obtain⟨ha,ρa,x,la,sa,ea,ia,ra⟩:=tNq h1 st;obtain⟨hb,ρb,xs,lb,sb,eb,ib,rb⟩:=g2q h2 sa;refine⟨hb,ρb,x::xs,la.trans lb,sb,?_,⟨ia.mono lb.dd,ib⟩,?_⟩
  .rw[zMq,eb,yQq lb.agree ia,ea]
  .simp only[RVL];exact⟨x,xs,rfl,RV.mono lb.le ra,rb⟩
end
section
open Go.RowKit Go.ChangeShapes Go.WideShapes
inductive Sh where
 |bool
 |int (k:IntKind)
 |str
 |arr (n sz:Nat) (s:Sh)
 |st (n:Nat) (fs:List Sh)
 |sl (sz bz:Nat) (s:Sh)
def Sh.cells:Sh->Nat
 |.arr n sz _=>n*sz
 |.st n _=>n
 |_=>1
def Sh.agg:Sh->Bool
 |.arr _ _ _=>true
 |.st _ _=>true
 |_=>false
def shF(g:TypeId->Option Sh)(P:Program):List Field->Nat->Option (List Sh×Nat)
 |[],off=>some ([],off)
 |F::Fs,off=>match g F.type with
  |some s=>match Nat.beq F.offset off&&Nat.beq (P.cellsOf F.type) s.cells with
   |true=>match shF g P Fs (off+s.cells) with
    |some (l,n)=>some (s::l,n)
    |none=>none
   |false=>none
  |none=>none
def gjq(P:Program):Nat->TypeId->Option Sh
 |0,_=>none
 |d+1,t=>match P.underlying t with
  |some .bool=>some .bool
  |some (.int k)=>some (.int k)
  |some .string=>some .str
  |some (.array n e)=>match gjq P d e with
   |some s=>match Nat.beq (P.cellsOf e) s.cells&&Nat.beq (P.cellsOf t) (n*s.cells) with
    |true=>some (.arr n s.cells s)
    |false=>none
   |none=>none
  |some (.slice e)=>match gjq P d e with
   |some s=>match Nat.beq (P.cellsOf e) s.cells&&Nat.blt 0 s.cells with
    |true=>some (.sl s.cells (P.bytesOf e) s)
    |false=>none
   |none=>none
  |some (.struct F)=>match shF (gjq P d) P F.toList 0 with
   |some (l,n)=>match Nat.beq (P.cellsOf t) n with
    |true=>some (.st n l)
    |false=>none
   |none=>none
  |_=>none
mutual
/-- a value of that shape -/
def Fit:Sh->W->Prop
 |.bool,w=>∃b,w= .bool b
 |.int k,w=>∃n,w= .int k n/\(Lit.int k n).wf=true
 |.str,w=>∃x,w= .str x/\x.length<=reachBytes
 |.arr n sz s,w=>∃l,w= .arr (n*sz) sz l/\l.length=n/\∀x∈l,Fit s x
 |.st n fs,w=>∃l,w= .agg n l/\FitL fs l
 |.sl sz bz s,w=>∃l,w= .fz l sz false/\l.length*bz<=reachBytes/\∀x∈l,Fit s x
def FitL:List Sh->List W->Prop
 |[],l=>l=[]
 |s::fs,l=>∃x l',l=x::l'/\Fit s x/\FitL fs l'
end
theorem Fit.size{s:Sh}{w:W}(h:Fit s w):w.size=s.cells:=by
 cases s<;>simp only[Fit] at h
 case bool=>obtain⟨_,rfl⟩:=h;rfl
 case int=>obtain⟨_,rfl,_⟩:=h;rfl
 case str=>obtain⟨_,rfl,_⟩:=h;rfl
 all_goals (obtain⟨_,rfl,_⟩:=h;rfl)
theorem Fit.agg{s:Sh}{w:W}(h:Fit s w):w.isAgg=s.agg:=by
 cases s<;>simp only[Fit] at h
 case bool=>obtain⟨_,rfl⟩:=h;rfl
 case int=>obtain⟨_,rfl,_⟩:=h;rfl
 case str=>obtain⟨_,rfl,_⟩:=h;rfl
 all_goals (obtain⟨_,rfl,_⟩:=h;rfl)
def Ex0(W0:World):Prop:=∃(bn:Nat) (cs:Array Value) (ty:TypeId) (fz:Nat×Nat),W0.heap[bn]? =some (.cells cs ty fz)
theorem AEq{W0:World}{s:Sh}{sz:Nat}:∀(n:Nat) (L:List Value),(∀i,i<n->∃w,Fit s w/\HC W0 w ((L.drop (i*sz)).take sz)) ->∃l:List W,l.length=n/\(∀x∈l,Fit s x)/\HCL W0 l (L.take (n*sz))
 |0,L,_=>⟨[],rfl,by simp,by simp[HCL]⟩
 |n+1,L,h=>by
  obtain⟨w,f,hc⟩:=h 0 Xd
  obtain⟨l,h1,h2,h3⟩:=AEq n (L.drop sz) (λi hi=>by
   have:=h (i+1) Xd;rw[Z8,show sz+i*sz=(i+1)*sz by rw[ZO];omega];exact this)
  refine⟨w::l,by simp[h1],?_,?_⟩
  .intro x hx;rcases ZF.1 hx with rfl|hx
   .exact f
   .exact h2 x hx
  .simp only[HCL];refine⟨L.take sz,(L.drop sz).take (n*sz),?_,by simpa using hc,h3⟩;rw[show(n+1)*sz=sz+n*sz by rw[ZO];omega,List.take_add]
section
variable {H:Type} {enc:TypeId×Value->H} {P:Program} {W0:World}
theorem kDq{e:TypeId}:∀{l:List (DataW H)} {d:DataW H} {n:Nat},d∈l->n∈d.weights P e->n∈DataW.weightsAll P e l
 |[],_,_,h,_=>by simp at h
 |x::l,d,n,h,hn=>by
  rw[DataW.weightsAll];rcases ZF.1 h with rfl|h
  .exact List.mem_append_left _ hn
  .exact List.mem_append_right _ (kDq h hn)
abbrev Tr0(enc:TypeId×Value->H)(P:Program)(W0:World):=DataW.trod enc P W0 0 (λ_=>true) true
theorem orq{g:TypeId->Option Sh}{m:Nat}(ih:∀t sh,g t=some sh->∀cs x,Tr0 enc P W0 m t cs=some x->(∀n∈x.1.weights P t,n<=reachBytes) ->((∃a n c,Value.slice (some a) n c∈cs) ->Ex0 W0) ->∃w,Fit sh w/\HC W0 w cs)(cs:List Value)(hE:(∃a n c,Value.slice (some a) n c∈cs) ->Ex0 W0):
  ∀(Fs:List Field) (xs:List (DataW H×List MemPlace)) (off:Nat) (fs:List Sh) (n:Nat),shF g P Fs off=some (fs,n) ->xs.length=Fs.length->(∀(i:Nat) (f:Field),Fs[i]? =some f->Tr0 enc P W0 m f.type ((cs.drop f.offset).take (P.cellsOf f.type))=xs[i]?) ->
   (∀n∈DataW.weightsEach P (Fs.map (·.type)) (xs.map (·.1)),n<=reachBytes) ->∃l,FitL fs l/\HCL W0 l ((cs.drop off).take (n-off))/\off<=n
 |[],xs,off,fs,n,hs,hl,hx,hw=>by
  simp only[shF,Zk,ZQ] at hs;obtain⟨rfl,rfl⟩:=hs;exact⟨[],by simp[FitL],by simp[HCL],Zc _⟩
 |F::Fs,[],off,fs,n,hs,hl,hx,hw=>by simp at hl
 | F ::Fs,x::xs,off,fs,n,hs,hl,hx,hw=>by
  unfold shF at hs;split at hs
  .rename_i s hg;split at hs
   .rename_i hc;simp only[Zb,ZE] at hc;split at hs
    .rename_i l' n' hr;simp only[Zk,ZQ] at hs;obtain⟨rfl,rfl⟩:=hs;simp only[ZC,DataW.weightsEach] at hw
     obtain⟨l,k1,k2,k3⟩:=orq ih cs hE Fs xs (off+s.cells) l' n' hr (by simpa using hl) (λi f hf=>by
      have:=hx (i+1) f Ja;simpa using this) (λk hk=>hw k (List.mem_append_right _ hk))
     have h0:=hx 0 F rfl;simp only[List.getElem?_cons_zero] at h0;obtain⟨w,f1,f2⟩:=ih F.type s hg _ x h0 (λk hk=>hw k (List.mem_append_left _ hk)) (λ⟨a,n,c,hm⟩=>hE ⟨a,n,c,ZD (ZH hm)⟩);rw[hc.1,hc.2] at f2;refine⟨w::l,⟨w,l,rfl,f1,k1⟩,?_,by omega⟩;simp only[HCL];refine⟨_,_,?_,f2,k2⟩;rw[show n'-off=s.cells+(n'-(off+s.cells)) by omega,List.take_add,Z8]
    .cases hs
   .cases hs
  .cases hs
theorem vfq:∀(d:Nat) (t:TypeId) (sh:Sh),gjq P d t=some sh->∀(fuel:Nat) (cs:List Value) (x:DataW H×List MemPlace),Tr0 enc P W0 fuel t cs=some x->(∀n∈x.1.weights P t,n<=reachBytes) ->((∃a n c,Value.slice (some a) n c∈cs) ->Ex0 W0) ->∃w,Fit sh w/\HC W0 w cs
 |0,t,sh,hs=>by simp[gjq] at hs
 | d + 1, t,sh,hs=>λfuel cs x h hw hE=>by
  unfold gjq at hs;split at hs
  .rename_i ht;cases hs;obtain⟨b,rfl,rfl⟩:=DataW.trod_bool ht h;exact⟨.bool b,⟨b,rfl⟩,by simp[HC]⟩
  .rename_i k ht;cases hs;obtain⟨n,rfl,rfl,hwf⟩:=DataW.trod_int ht h;exact⟨.int k n,⟨n,rfl,hwf⟩,by simp[HC]⟩
  .rename_i ht;cases hs;obtain⟨s,rfl,rfl,hsz⟩:=DataW.trod_string ht h;refine⟨.str s.data.toList,⟨_,rfl,?_⟩,?_⟩
   .exact hw _ (by simp[DataW.weights])
   .simp only[HC]
  .rename_i n e ht;split at hs
   .rename_i s he;split at hs
    .rename_i hc;cases hs;simp only[Zb,ZE] at hc;obtain⟨xs,m,rfl,rfl,hl,hxl,hx⟩:=DataW.trod_array ht h;rw[hc.1] at hx;have hw:∀k∈DataW.weightsAll P e (xs.map (·.1)),k<=reachBytes:=λk hk=>hw k (by simp only[DataW.weights,ht];exact hk)
     obtain⟨l,l1,l2,l3⟩:=AEq (W0:=W0) (s:=s) (sz:=s.cells) n cs (λi hi=>by
      have h1:=hx i hi;have hlt:i<xs.length:=by omega
      rw[Za hlt] at h1;exact vfq d e s he m _ _ h1 (λk hk=>hw k (kDq (List.mem_map_of_mem (List.getElem_mem hlt)) hk)) (λ⟨a,n,c,hm⟩=>hE ⟨a,n,c,ZD (ZH hm)⟩))
     have hcl:cs.length=n*s.cells:=by rw[hl,hc.2]
     refine⟨.arr (n*s.cells) s.cells l,⟨l,rfl,l1,l2⟩,?_⟩;simp only[HC];refine⟨hcl,λx hx=>(l2 x hx).size,by rw[l1],?_⟩;rwa[Zm Xd] at l3
    .cases hs
   .cases hs
  .rename_i e ht;split at hs
   .rename_i s he;split at hs
    .rename_i hc;cases hs;simp only[Zb,ZE] at hc;obtain⟨hce,hpos⟩:=hc;have hpos:0<s.cells:=ixq hpos;rcases DataW.trod_slice ht h with ⟨rfl,rfl⟩|⟨a,len,cap,elems,rest,n,rfl,rfl,rfl,hb,hl,hm,hlen,hel,hsp,_⟩
     .exact⟨.fz [] s.cells false,⟨[],rfl,by simp,by simp⟩,by unfold HC;exact⟨rfl,.inl ⟨rfl,rfl⟩⟩⟩
     .by_cases hc0:cap=0
      .subst hc0;obtain rfl:len=0:=by omega
       obtain⟨bn,cs',ty,fz,ho⟩:=hE ⟨a,0,0,by simp⟩;exact⟨.fz [] s.cells false,⟨[],rfl,by simp,by simp⟩,by unfold HC;exact⟨rfl,.inr (.inl ⟨rfl,hpos,a,bn,cs',ty,fz,rfl,ho⟩)⟩⟩
      .obtain⟨hrl,hr⟩:=hsp rfl;rw[hce] at hel hr
       have each:∀i,i<cap->∃csi y,W0.cells? 0 (a.add (i*s.cells)) s.cells=some csi/\Tr0 enc P W0 n e csi=some y/\(i<len->elems[i]? =some y):=λi hi=>by
        by_cases h1:i<len
        .have h2:=hel i h1;have hlt:i<elems.length:=by omega
         rw[Za hlt,Option.bind_eq_some_iff] at h2;obtain⟨csi,q1,q2⟩:=h2;exact⟨csi,_,q1,q2,λ_=>Za hlt⟩
        .have h2:=hr (i-len) Xd;have hlt:i-len<rest.length:=by omega
         rw[Za hlt,Option.bind_eq_some_iff,show len+(i-len)=i by omega] at h2;obtain⟨csi,q1,q2⟩:=h2;exact⟨csi,_,q1,q2,λh=>absurd h h1⟩
       --the block
       obtain⟨cs0,y0,e0,_,_⟩:=each 0 Xd;obtain⟨_,l0,c0⟩:=World.cells?_some e0;have c1:=c0 0 hpos;rw[Nat.zero_mul] at c1;have ha0:(a.add 0).add 0=a:=by simp[Addr.add]
       rw[ha0,Za Xd] at c1;obtain⟨ab,ao,asp⟩:=a;unfold World.cell? at c1;split at c1
       .rename_i cs' ty fz ho;simp only at ho c1;split at c1
        .cases c1
        .rename_i hsp0;have hsp0:asp=none:=by simpa using hsp0
         subst hsp0;obtain⟨L,hL⟩:∃L,L=cs'.toList.drop ao:=⟨_,rfl⟩
         have seg:∀i,i<cap->∀csi,W0.cells? 0 (Addr.add ⟨ab,ao,none⟩ (i*s.cells)) s.cells=some csi->csi=(L.drop (i*s.cells)).take s.cells:=λi hi csi hcs=>by
          obtain⟨_,q1,q2⟩:=World.cells?_some hcs;apply List.ext_getElem?;intro k;by_cases hk:k<s.cells
          .have:=q2 k hk;rw[jCq,jCq] at this;simp only[World.cell?,ho] at this;rw[<-this,List.getElem?_take_of_lt hk,ZX,hL,ZX,Array.getElem?_toList,ZK];simp
          .rw[List.getElem?_eq_none Xd,List.getElem?_eq_none Xo]
         have hLlen:cap*s.cells<=L.length:=by
          obtain⟨csi,y,q1,_,_⟩:=each (cap-1) Xd;obtain⟨_,q2,_⟩:=World.cells?_some q1;have q3:=seg (cap-1) Xd csi q1;have q4:=Ze List.length q3;rw[q2,Zu,Zx] at q4
          have:cap*s.cells=(cap-1)*s.cells+s.cells:=by
           have:=ZO (cap-1) 1 s.cells;rw[show cap-1+1=cap by omega] at this;omega
          omega
         have hw2:∀k∈DataW.weightsAll P e (elems.map (·.1)),k<=reachBytes:=λk hk=>hw k (by simp only[DataW.weights,ht];exact ZP _ (List.mem_append_left _ hk))
         have hw1:(elems.length+rest.length)*P.bytesOf e<=reachBytes:=hw _ (by simp only[DataW.weights,ht,Zd];exact ZS ..)
         obtain⟨l,l1,l2,l3⟩:=AEq (W0:=W0) (s:=s) (sz:=s.cells) len L (λi hi=>by
          obtain⟨csi,y,q1,q2,q3⟩:=each i Xd;rw[seg i Xd csi q1] at q2;exact vfq d e s he n _ _ q2 (λk hk=>hw2 k (kDq (List.mem_map_of_mem (Zf (q3 hi))) hk)) (λ_=>⟨ab,cs',ty,fz,ho⟩))
         have hlc:len*s.cells<=cap*s.cells:=Z3 _ hl;refine⟨.fz l s.cells false,⟨l,rfl,?_,l2⟩,?_⟩
         .rw[l1];refine Zs (Z3 _ ?_) hw1;omega
         .unfold HC;refine⟨rfl,.inr (.inr ⟨⟨ab,ao,none⟩,cap,by rw[l1],by omega,rfl,hpos,λx hx=>(l2 x hx).size,cs'.toList.take ao,L.take (len*s.cells),L.drop (len*s.cells),ty,fz,?_,?_,l3⟩)⟩
          .rw[ZJ,hL,ZJ,Array.toArray_toList];exact ho
          .have hq:(cs'.toList.take ao).length=min ao cs'.toList.length:=Zu;have:=Ze List.length hL;rw[Zx] at this;have h2:0<cap*s.cells:=Nat.mul_pos Xd hpos;show(cs'.toList.take ao).length=ao;omega
       .cases c1
    .cases hs
   .cases hs
  .rename_i F ht;split at hs
   .rename_i fs n hF;split at hs
    .rename_i hc;cases hs;have hc:=Zh hc;obtain⟨xs,m,rfl,rfl,hl,hxl,hx⟩:=DataW.trod_struct ht h;obtain⟨l,k1,k2,k3⟩:=orq (enc:=enc) (λt sh hs cs x h1 h2 h3=>vfq d t sh hs m cs x h1 h2 h3) cs hE F.toList xs 0 fs n hF (by simpa using hxl) (λi f hf=>hx i f Ja) (λk hk=>hw k (by simp only[DataW.weights,ht];exact hk));have hcl:cs.length=n:=by rw[hl,hc]
     refine⟨.agg n l,⟨l,rfl,k1⟩,?_⟩;simp only[HC];refine⟨hcl,?_⟩;rwa[ZV,Y8,Zm Xd] at k2
    .cases hs
   .cases hs
  .cases hs
theorem lJq{b:Nat}{x:TypeId×Nat}(h:W0.shape? b=some x):Ex0 W0:=by
 unfold World.shape? at h;split at h
 .rename_i cs ty fz ho;exact⟨b,cs,ty,fz,ho⟩
 .cases h
theorem irq{r:Reach}{base:Nat}{u:TypeId}{a:Addr}{n c:Nat}(h:Cell.okWide P W0 r base u (.slice (some a) n c)):Ex0 W0:=by
 unfold Cell.okWide at h;split at h
 all_goals first
  |(rename_i he;cases he;done)
  |skip
 unfold Cell.ok at h;split at h
 all_goals first
  |exact h.elim
  |(rename_i he;cases he;done)
  |skip
 rename_i he;cases he;obtain⟨_,_,row,cells,hs,_⟩:=h.2.2;exact lJq hs
theorem eBq{r:Reach}{base:Nat}{u:TypeId}{v:Value}(h:Cell.okWide P W0 r base u v):v.cells= #[v]:=by
 cases v<;>first
  |rfl
  | (exfalso
     unfold Cell.okWide at h;split at h
     all_goals first
      |(rename_i he;cases he;done)
      |skip
     unfold Cell.ok at h;split at h
     all_goals first
      |exact h.elim
      |(rename_i he;cases he;done))
theorem tmq{r:Reach}{base:Nat}{t:TypeId}{cs:Array Value}(h:Row.okWide P W0 r base t cs){a:Addr}{n c:Nat}(hm:Value.slice (some a) n c∈cs.toList):Ex0 W0:=by
 obtain⟨ts,_,_,hc⟩:=h;obtain⟨i,hi⟩:=List.getElem?_of_mem hm;obtain⟨u,_,hu⟩:=hc i _ (by simpa using hi);exact irq hu
theorem tSq{r:Reach}{base d:Nat}{t:TypeId}{sh:Sh}{v:Value}(hs:gjq P d t=some sh)(hv:Value.okWide P W0 r base t v):match sh.agg with
  |true=>∃cs:Array Value,v= .agg cs/\Row.okWide P W0 r base t cs
  |false=>Cell.okWide P W0 r base t v:=by
 cases d with
 |zero=>simp[gjq] at hs
 |succ d=>
  unfold gjq at hs;unfold Value.okWide at hv;split at hs
  .rename_i ht;cases hs;rw[ht] at hv;exact hv
  .rename_i k ht;cases hs;rw[ht] at hv;exact hv
  .rename_i ht;cases hs;rw[ht] at hv;exact hv
  .rename_i n e ht;rw[ht] at hv;obtain⟨cs,rfl,_,hr⟩:=hv;split at hs
   .split at hs
    .cases hs;exact⟨cs,rfl,hr⟩
    .cases hs
   .cases hs
  .rename_i e ht;rw[ht] at hv;split at hs
   .split at hs
    .cases hs;exact hv
    .cases hs
   .cases hs
  .rename_i F ht;rw[ht] at hv;obtain⟨cs,rfl,_,hr⟩:=hv;split at hs
   .split at hs
    .cases hs;exact⟨cs,rfl,hr⟩
    .cases hs
   .cases hs
  .cases hs
theorem maq{r:Reach}{base d:Nat}{t:TypeId}{sh:Sh}{v:Value}{x:DataW H}{p:List MemPlace}(hs:gjq P d t=some sh)(hv:Value.okWide P W0 r base t v)(hd:DataW.Trod enc P W0 0 (λ_=>true) true t v x p)(hw:∀n∈x.weights P t,n<=reachBytes):∃w,Fit sh w/\HV W0 w v:=by
 obtain⟨fuel,hf⟩:=hd;have hk:=tSq hs hv
 obtain⟨w,f,hc⟩:=vfq d t sh hs fuel _ _ hf hw (λ⟨a,n,c,hm⟩=>by
  split at hk
  .obtain⟨cs,rfl,hr⟩:=hk;exact tmq hr hm
  .rw[eBq hk] at hm;simp only[ZF,YG,or_false] at hm;rw[<-hm] at hk;exact irq hk)
 refine⟨w,f,?_⟩;unfold HV;rw[f.agg];generalize sh.agg=ag at hk;cases ag with
 |true=>
  obtain⟨cs,rfl,hr⟩:=hk;exact⟨cs.toList,by simp,hc⟩
 |false=>
  have hk:Cell.okWide P W0 r base t v:=hk;rw[eBq hk] at hc;exact hc
def shAll(P:Program)(d:Nat):List TypeId->Option (List Sh)
 |[]=>some []
 |t::ts=>match gjq P d t,shAll P d ts with
  |some s,some l=>some (s::l)
  |_,_=>none
theorem open_all{r:Reach}{base d:Nat}:∀{ts:List TypeId} {shs:List Sh} {vs:List Value} {xs:List (DataW H)} {p:List MemPlace},shAll P d ts=some shs->(∀(j:Nat) t v,ts[j]? =some t->vs[j]? =some v->Value.okWide P W0 r base t v) ->
  DataW.TrodAll enc P W0 0 (λ_=>true) true ts vs xs p->(∀n∈DataW.weightsEach P ts xs,n<=reachBytes) ->∃ws,FitL shs ws/\HVL W0 ws vs
 |[],shs,vs,xs,p,hs,hv,hd,hw=>by
  obtain⟨rfl,rfl,rfl⟩:=trodAll_nil hd;simp only[shAll,Zk] at hs;subst hs;exact⟨[],by simp[FitL],by simp[HVL]⟩
 |t::ts,shs,vs,xs,p,hs,hv,hd,hw=>by
  obtain⟨v,vs',x,xs',p',q,rfl,rfl,rfl,h1,h2⟩:=trodAll_cons hd;simp only[shAll] at hs;split at hs
  .rename_i s l e1 e2;cases hs;simp only[DataW.weightsEach] at hw;obtain⟨w,f,k⟩:=maq e1 (hv 0 t v Y Y) h1 (λn hn=>hw n (List.mem_append_left _ hn));obtain⟨ws,fs,ks⟩:=open_all e2 (λj t v h3 h4=>hv (j+1) t v (by simpa using h3) (by simpa using h4)) h2 (λn hn=>hw n (List.mem_append_right _ hn));exact⟨w::ws,⟨w,ws,rfl,f,fs⟩,⟨v,vs',rfl,k,ks⟩⟩
  .cases hs
def rowedAll(P:Program):List TypeId->Bool
 |[]=>true
 |t::ts=>P.readableRec t&&Nat.blt t P.types.size&&rowedAll P ts
theorem Below.trodAll(hl:laidOutB P=true){W W':World}(hb:Below W.heap.size W W'):∀{ts:List TypeId} {vs:List Value} {xs:List (DataW H)} {p:List MemPlace},rowedAll P ts=true->DataW.TrodAll enc P W 0 (λ_=>true) true ts vs xs p->DataW.TrodAll enc P W' 0 (λb=>decide (b<W.heap.size)) true ts vs xs p
 |[],vs,xs,p,hr,h=>by
  obtain⟨rfl,rfl,rfl⟩:=trodAll_nil h;exact trodAll_mk0
 |t::ts,vs,xs,p,hr,h=>by
  simp only[rowedAll,Zb] at hr;obtain⟨v,vs',x,xs',p',q,rfl,rfl,rfl,h1,h2⟩:=trodAll_cons h;refine trodAll_cons_mk (Below.trod hl hr.1.1 (ixq hr.1.2) h1 hb ?_) (Below.trodAll hl hb hr.2 h2);obtain⟨m,hm⟩:=h1;exact DataW.trod_lt m _ _ _ hm
end
theorem Later.glob{C:Cfg}{h h':Heap}{ρ ρ':Env}(la:Later h ρ h' ρ')(gl:GlobOK C (DD (λi=>i<h.next) ρ) ρ):GlobOK C (DD (λi=>i<h'.next) ρ') ρ':=λg hg=>by
 obtain⟨h1,h2,h3⟩:=gl g hg;obtain⟨e1,e2,_,_⟩:=la.env g h1.1;exact⟨la.dd _ _ h1,by rw[e1];exact h2,by rw[e2];exact h3⟩
theorem Later.grel{C:Cfg}{G:Nat->Option W}{h h':Heap}{ρ ρ':Env}(la:Later h ρ h' ρ')(gr:GRel C G (ctx0 h)):GRel C G (ctx0 h'):=λg w hg hw nw σ=>
 RV.mono (Γ:=⟨nw,σ,(ctx0 h).D,(ctx0 h).h⟩) (Γ':=⟨nw,σ,(ctx0 h').D,(ctx0 h').h⟩) ⟨Zc _,λ_ _=>rfl,la.le.D,la.le.val⟩ (gr g w hg hw nw σ)
theorem calls_of{P:Program}{C:Cfg}{G:Nat->Option W}(hmx:P.follows .mixedOrders=true)(hC:CfgOK P C)(hF:vJq P C)(hK:jhq P C){f:FuncId}{shs:List Sh}(ps:∀ws,FitL shs ws->PS C G f ws (.bool true)){W0:World}{h:Heap}{ρ:Env}(s:Start W0 h ρ)
  (gl:GlobOK C (DD (λi=>i<h.next) ρ) ρ) (gr:GRel C G (ctx0 h)) {vs:List Value} (hv:∃ws,FitL shs ws/\HVL W0 ws vs):
  Calls P f vs.toArray W0 λe w'=>e= .returned (.bool true)/\Below W0.heap.size W0 w':=by
 obtain⟨ws,f1,hv⟩:=hv;obtain⟨h',ρ',xs,la,st,rfl,i,r⟩:=g2q hv s;exact law1 hmx hC hF hK (ps ws f1) st (la.glob gl) (la.grel gr) i r
mutual
def fHq:Sh->List Value
 |.bool=>[.bool false]
 |.int k=>[.int k 0]
 |.str=>[.string ⟨#[]⟩]
 |.arr n _ s=>(List.replicate n (fHq s)).flatten
 |.st _ fs=>fGq fs
 |.sl _ _ _=>[.slice none 0 0]
def fGq:List Sh->List Value
 |[]=>[]
 |s::l=>fHq s++fGq l
end
def zVal(s:Sh):Value:=match s.agg,fHq s with
 |true,l=>.agg l.toArray
 |false,v::_=>v
 |false,[]=>.bool false
end
section
open Go.RowKit
theorem J3q{α:Type}{f:α->W}{Q:α->Prop}:∀{l:List W},(∀x∈l,∃a,x=f a/\Q a) ->∃ys:List α,l=ys.map f/\∀a∈ys,Q a
 |[],_=>⟨[],rfl,by simp⟩
 |x::l,h=>by
  obtain⟨a,rfl,ha⟩:=h x (ZS ..);obtain⟨ys,rfl,hs⟩:=J3q (l:=l) λy hy=>h y (ZP _ hy)
  exact⟨a::ys,rfl,λb hb=>by
   rcases ZF.1 hb with rfl|hb
   .exact ha
   .exact hs b hb⟩
theorem oqq{w:W}(h:Fit (.int .u8) w):∃c:UInt8,w= .int .u8 (.ofNat c.toNat)/\True:=by
 obtain⟨n,rfl,hw⟩:=h
 have hb:0<=n/\n<=255:=by
  simp[Lit.wf,IntKind.min,IntKind.max,IntKind.signed,IntKind.bits] at hw;omega
 refine⟨UInt8.ofNat n.toNat,?_,trivial⟩;congr 1
 have:(UInt8.ofNat n.toNat).toNat=n.toNat:=by simp;omega
 rw[this];show n=((n.toNat:Nat):Int);omega
theorem v4q{w:W}(h:Fit (.int .u64) w):∃n:Nat,w= .int .u64 (n:Int)/\n<18446744073709551616:=by
 obtain⟨n,rfl,hw⟩:=h
 have hb:0<=n/\n<=18446744073709551615:=by
  simp[Lit.wf,IntKind.min,IntKind.max,IntKind.signed,IntKind.bits] at hw;omega
 exact⟨n.toNat,by congr 1;omega,by omega⟩
theorem qnq{w:W}(h:Fit (.int .i64) w):∃n:Int,w= .int .i64 n/\-9223372036854775808<=n/\n<=9223372036854775807:=by
 obtain⟨n,rfl,hw⟩:=h
 have hb:-9223372036854775808<=n/\n<=9223372036854775807:=by
  simp[Lit.wf,IntKind.min,IntKind.max,IntKind.signed,IntKind.bits] at hw;omega
 exact⟨n,rfl,hb⟩
theorem vrq{w:W}(h:Fit .bool w):∃b,w= .bool b:=h
theorem bMq{l:List W}(h:∀x∈l,Fit (.int .u8) x):∃bs:List UInt8,l=zbq bs:=by
 obtain⟨bs,rfl,_⟩:=J3q (f:=λc:UInt8=>W.int .u8 (.ofNat c.toNat)) (Q:=λ_=>True) λx hx=>oqq (h x hx)
 exact⟨bs,rfl⟩
theorem kfq{w:W}(h:Fit (.arr 32 1 (.int .u8)) w):∃k:Dig,w=dW k:=by
 obtain⟨l,rfl,hl,hx⟩:=h;obtain⟨bs,rfl⟩:=bMq hx;exact⟨⟨bs,by simpa[zbq] using hl⟩,rfl⟩
theorem fit_bW{bz:Nat}{w:W}(h:Fit (.sl 1 bz (.int .u8)) w):∃b:List UInt8,w=bW b/\b.length*bz<=140737488351232:=by
 obtain⟨l,rfl,hl,hx⟩:=h;obtain⟨bs,rfl⟩:=bMq hx;exact⟨bs,rfl,by simpa[zbq,reachBytes] using hl⟩
theorem ktq{α:Type}{f:α->W}{Q:α->Prop}{sz bz:Nat}{s:Sh}{w:W}(h:Fit (.sl sz bz s) w)(hx:∀x,Fit s x->∃a,x=f a/\Q a):∃ys:List α,w= .fz (ys.map f) sz false/\ys.length*bz<=140737488351232/\∀a∈ys,Q a:=by
 obtain⟨l,rfl,hl,hs⟩:=h;obtain⟨ys,rfl,hq⟩:=J3q λx hm=>hx x (hs x hm)
 exact⟨ys,rfl,by simpa[reachBytes] using hl,hq⟩
theorem m0q{w:W}(h:Fit (.st 36 [.bool,.arr 32 1 (.int .u8),.sl 1 1 (.int .u8),.int .i64,.int .i64]) w):∃x:Node,w=nW x/\x.val.length<=140737488351232:=by
 obtain⟨l,rfl,w1,l1,rfl,h1,w2,l2,rfl,h2,w3,l3,rfl,h3,w4,l4,rfl,h4,w5,l5,rfl,h5,rfl⟩:=h;obtain⟨b,rfl⟩:=vrq h1;obtain⟨k,rfl⟩:=kfq h2;obtain⟨v,rfl,hv⟩:=fit_bW h3;obtain⟨i,rfl,_⟩:=qnq h4;obtain⟨j,rfl,_⟩:=qnq h5;exact⟨⟨b,k,v,i,j⟩,rfl,by simpa using hv⟩
theorem mYq{w:W}(h:Fit (.st 2 [.sl 36 80 (.st 36 [.bool,.arr 32 1 (.int .u8),.sl 1 1 (.int .u8),.int .i64,.int .i64]),.int .i64]) w):∃t:Tree,w=tW t/\t.nodes.length*80<=140737488351232/\(∀x∈t.nodes,x.val.length<=140737488351232)/\t.root<=9223372036854775807:=by
 obtain⟨l,rfl,w1,l1,rfl,h1,w2,l2,rfl,h2,rfl⟩:=h;obtain⟨ns,rfl,hl,hn⟩:=ktq h1 λx hx=>m0q hx
 obtain⟨r,rfl,_,hr⟩:=qnq h2;exact⟨⟨ns,r⟩,rfl,hl,hn,hr⟩
theorem efq{w:W}(h:Fit (.st 99 [.arr 32 1 (.int .u8),.arr 32 1 (.int .u8),.int .u64,.int .u64,.int .u64,.arr 32 1 (.int .u8)]) w):∃x:Tx,w=txW x/\x.ok:=by
 obtain⟨l,rfl,w1,l1,rfl,h1,w2,l2,rfl,h2,w3,l3,rfl,h3,w4,l4,rfl,h4,w5,l5,rfl,h5,w6,l6,rfl,h6,rfl⟩:=h;obtain⟨a,rfl⟩:=kfq h1;obtain⟨b,rfl⟩:=kfq h2;obtain⟨n,rfl,hn⟩:=v4q h3;obtain⟨m,rfl,hm⟩:=v4q h4;obtain⟨f,rfl,hf⟩:=v4q h5;obtain⟨s,rfl⟩:=kfq h6;exact⟨⟨a,b,n,m,f,s⟩,rfl,hn,hm,hf⟩
section
attribute [local irreducible] CoW OpW FlW aeq aiq
variable {G:Nat->Option W}
structure BodOk(ds:List Depo)(xs:List Tx):Prop where
 dep:∀d∈ds,d.number<18446744073709551616/\d.amount<18446744073709551616
 tx:∀x∈xs,x.ok
 dl:ds.length<=140737488351232
 xl:xs.length<=140737488351232
theorem bLq{w:W}(h:Fit (.st 34 [.int .u64,.arr 32 1 (.int .u8),.int .u64]) w):∃d:Depo,w=pdW d/\d.number<18446744073709551616/\d.amount<18446744073709551616:=by
 obtain⟨l,rfl,w1,l1,rfl,h1,w2,l2,rfl,h2,w3,l3,rfl,h3,rfl⟩:=h;obtain⟨n,rfl,hn⟩:=v4q h1;obtain⟨k,rfl⟩:=kfq h2;obtain⟨m,rfl,hm⟩:=v4q h3;exact⟨⟨n,k,m⟩,rfl,hn,hm⟩
theorem hUq{w:W}(h:Fit (.st 98 [.int .i64,.arr 32 1 (.int .u8),.arr 32 1 (.int .u8),.arr 32 1 (.int .u8),.int .i64]) w):∃p:Hdr,w=hdW p/\p.height<=9223372036854775807:=by
 obtain⟨l,rfl,w1,l1,rfl,h1,w2,l2,rfl,h2,w3,l3,rfl,h3,w4,l4,rfl,h4,w5,l5,rfl,h5,rfl⟩:=h;obtain⟨i,rfl,_,hi⟩:=qnq h1;obtain⟨a,rfl⟩:=kfq h2;obtain⟨b,rfl⟩:=kfq h3;obtain⟨c,rfl⟩:=kfq h4;obtain⟨j,rfl,_⟩:=qnq h5;exact⟨⟨i,a,b,c,j⟩,rfl,hi⟩
theorem m2q{w:W}(h:Fit (.st 2 [.sl 34 48 (.st 34 [.int .u64,.arr 32 1 (.int .u8),.int .u64]),.sl 99 120 (.st 99 [.arr 32 1 (.int .u8),.arr 32 1 (.int .u8),.int .u64,.int .u64,.int .u64,.arr 32 1 (.int .u8)])]) w):∃ds xs,w=sgq ds xs false false/\BodOk ds xs:=by
 obtain⟨l,rfl,w1,l1,rfl,h1,w2,l2,rfl,h2,rfl⟩:=h;obtain⟨ds,rfl,hl,hd⟩:=ktq h1 λx hx=>bLq hx
 obtain⟨xs,rfl,hl2,hx⟩:=ktq h2 λx hx=>efq hx
 exact⟨ds,xs,rfl,hd,hx,by omega,by omega⟩
def yLq(ds:List Depo)(xs:List Tx):Prop:=(4<ds.length/\ds.length<=16)\/20<ds.length\/(4<xs.length/\xs.length<=16)\/20<xs.length
noncomputable instance(ds:List Depo)(xs:List Tx):Decidable (yLq ds xs):=Classical.propDecidable _
theorem hNq(ds:List Depo)(xs:List Tx)(f g:Bool):PS cfg G 142 [sgq ds xs f g] (.bool (decide (yLq ds xs))):=by
 have e1:(ds.map pdW).length=ds.length:=Zd _;have e2:(xs.map txW).length=xs.length:=Zd _;refine gI 10 Y (λR k0=>?_);refine gV (w':=.int .i64 (ds.length:Int)) 0 Y (by rw[<-e1];rfl) ?_;refine gD 0 Y (λh1=>?_) (λh1=>?_)
 .refine gV (w':=.int .i64 (ds.length:Int)) 3 Y (by rw[<-e1];rfl) ?_;refine gD 0 Y (λh2=>?_) (λh2=>?_)
  .exact gQ 29 Y Xm
  .refine gV (w':=.int .i64 (ds.length:Int)) 4 Y (by rw[<-e1];rfl) ?_;refine gD 0 Y (λh3=>?_) (λh3=>?_)
   .exact gQ 23 Y Xm
   .refine gV (w':=.int .i64 (xs.length:Int)) 4 Y Qm ?_;refine gD 0 Y (λh4=>?_) (λh4=>?_)
    .refine gV (w':=.int .i64 (xs.length:Int)) 3 Y Qm ?_;refine gD 0 Y (λh5=>?_) (λh5=>?_)
     .exact gQ 12 Y Xm
     .refine gV (w':=.int .i64 (xs.length:Int)) 5 Y Qm ?_;refine gU 0 Y ?_;exact gQ 5 Y Xm
    .refine gV (w':=.int .i64 (xs.length:Int)) 10 Y Qm ?_;refine gU 0 Y ?_;exact gQ 5 Y Xm
 .refine gV (w':=.int .i64 (ds.length:Int)) 9 Y (by rw[<-e1];rfl) ?_;refine gD 0 Y (λh2=>?_) (λh2=>?_)
  .exact gQ 23 Y Xm
  .refine gV (w':=.int .i64 (xs.length:Int)) 4 Y Qm ?_;refine gD 0 Y (λh3=>?_) (λh3=>?_)
   .refine gV (w':=.int .i64 (xs.length:Int)) 3 Y Qm ?_;refine gD 0 Y (λh4=>?_) (λh4=>?_)
    .exact gQ 12 Y Xm
    .refine gV (w':=.int .i64 (xs.length:Int)) 5 Y Qm ?_;refine gU 0 Y ?_;exact gQ 5 Y Xm
   .refine gV (w':=.int .i64 (xs.length:Int)) 10 Y Qm ?_;refine gU 0 Y ?_;exact gQ 5 Y Xm
end
def recI(r:Rec):RcI:=⟨r.kind,r.id,(r.code:Int)⟩
def zCq(h p:Hdr):Prop:=okH h/\okH p/\h.height=p.height+1/\h.parent=mNq p
noncomputable instance(h p:Hdr):Decidable (zCq h p):=Classical.propDecidable _
noncomputable instance(ds:List Depo)(xs:List Tx):Decidable (sDq ds xs):=Classical.propDecidable _
def cjq(c:Ch)(r:Int):Tree:=⟨c.tree.nodes,r⟩
structure LkM(c:Ch)(i:Nat)(x:Lk):Prop where
 height:x.hdr.height=(i:Int)
 hdr:okH x.hdr
 fol:∀y,0<i->c.links[i-1]? =some y->zCq x.hdr y.hdr
 recs:((x.rs.length:Nat):Int)=x.hdr.many
 body:sDq x.ds x.xs
 tree:nJq (cjq c x.root)
structure MayC(c:Ch):Prop where
 one:0<c.links.length
 len:c.links.length<=256
 root:∀x,c.links[c.links.length-1]? =some x->c.tree.root=x.root
 link:∀i x,c.links[i]? =some x->LkM c i x
noncomputable instance(c:Ch):Decidable (MayC c):=Classical.propDecidable _
noncomputable def firH(t0:T):Hdr:=⟨0,zeroD,b9q t0,crq 0 [],0⟩
structure LkS(c:Ch)(box:Dig)(i:Nat)(x:Lk):Prop where
 first:i=0->∃n t0,IsA (cjq c x.root) n t0/\x.hdr=firH t0/\x.ds=[]/\x.xs=[]
 next:∀y,0<i->c.links[i-1]? =some y->∃n t0 n1 t1 rs,IsA (cjq c y.root) n t0/\IsA (cjq c x.root) n1 t1/\doX box (doD t0.all x.ds).1 x.xs=some (t1.all,rs)/\x.hdr=Baq y.hdr t1 ((doD t0.all x.ds).2++rs)/\x.rs=((doD t0.all x.ds).2++rs).map recI
structure SoundC(c:Ch)(box:Dig):Prop extends MayC c where
 sound:∀i x,c.links[i]? =some x->LkS c box i x
noncomputable instance(c:Ch)(box:Dig):Decidable (SoundC c box):=Classical.propDecidable _
theorem MayC.last{c:Ch}(h:MayC c):∃y,c.links[c.links.length-1]? =some y/\c.tree.root=y.root/\LkM c (c.links.length-1) y:=by
 have:=h.one;have e:=Za (l:=c.links) (i:=c.links.length-1) Xd;exact⟨_,e,h.root _ e,h.link _ _ e⟩
theorem MayC.head{c:Ch}(h:MayC c){y:Lk}(e:c.links[c.links.length-1]? =some y):∃n t0,IsA c.tree n t0/\cjq c y.root=c.tree:=by
 obtain⟨y',e',hr,hy⟩:=h.last;cases e.symm.trans e';have:cjq c y.root=c.tree:=by unfold cjq;rw[<-hr]
 obtain⟨n,t0,hA⟩:=hy.tree;exact⟨n,t0,this▸hA,this⟩
theorem y2q{α:Type}{l:List α}{i:Nat}{x:α}(h:l[i]? =some x):i<l.length:=(Zq.1 h).1
section
attribute [local irreducible] CoW OpW FlW aeq aiq
variable {G:Nat->Option W}
theorem x9q{α:Type}{a b:List α}{n:Nat}(h:a.length=n)(h2:b.length=n)(g:a.take n=b.take n):a=b:=by
 rwa[Zm Xd,Zm Xd] at g
theorem kIq{α:Type}{a b:List α}{i:Nat}{x y:α}(g:a.take i=b.take i)(hx:a[i]? =some x)(hy:b[i]? =some y)(e:x=y):a.take (i+1)=b.take (i+1):=by
 rw[YF,YF,g,hx,hy,e]
theorem mnq{α:Type}{a b:List α}{i:Nat}{x y:α}(hx:a[i]? =some x)(hy:b[i]? =some y)(h:x≠y):¬a=b:=λq=>h (by subst q;exact ZB (hx.symm.trans hy))
noncomputable instance(a b:Depo):Decidable (a=b):=Classical.propDecidable _
noncomputable instance(a b:Tx):Decidable (a=b):=Classical.propDecidable _
noncomputable instance(a b:RcI):Decidable (a=b):=Classical.propDecidable _
noncomputable instance(a b:Hdr):Decidable (a=b):=Classical.propDecidable _
theorem uPq{p:Prop} [Decidable p]{b:Bool}(h:p↔b=true):decide p=b:=by
 rw[Bool.eq_iff_iff,Z7];exact h
theorem Bmq(a b:Depo):eqW cfg 300 148 (pdW a) (pdW b)=some (decide (a=b)):=by
 rw[uPq (p:=a=b) (b:=decide ((a.number:Int)=b.number)&&(decide (a.to=b.to)&&(decide ((a.amount:Int)=b.amount)&&true))) (by cases a;cases b;simp only[Depo.mk.injEq,Zb,Z7,Int.natCast_inj,and_true])];exact qEq Y Y Y Y (zuq Y Y Y (qsq Y Y) (zuq Y Y Y (yzq Y Y Y Y Y Y _ _ _) (zuq Y Y Y (qsq Y Y) jdq)))
theorem Bjq(a b:Tx):eqW cfg 300 72 (txW a) (txW b)=some (decide (a=b)):=by
 rw[uPq (p:=a=b) (b:=decide (a.pub=b.pub)&&(decide (a.to=b.to)&&(decide ((a.nonce:Int)=b.nonce)&&(decide ((a.amount:Int)=b.amount)&&(decide ((a.fee:Int)=b.fee)&&(decide (a.sign=b.sign)&&true)))))) (by cases a;cases b;simp only[Tx.mk.injEq,Zb,Z7,Int.natCast_inj,and_true])];exact qEq Y Y Y Y (zuq Y Y Y (yzq Y Y Y Y Y Y _ _ _) (zuq Y Y Y (yzq Y Y Y Y Y Y _ _ _) (zuq Y Y Y (qsq Y Y) (zuq Y Y Y (qsq Y Y) (zuq Y Y Y (qsq Y Y) (zuq Y Y Y (yzq Y Y Y Y Y Y _ _ _) jdq))))))
theorem Blq(a b:RcI):eqW cfg 300 51 (rcW a) (rcW b)=some (decide (a=b)):=by
 rw[uPq (p:=a=b) (b:=decide ((Int.ofNat a.kind.toNat)=Int.ofNat b.kind.toNat)&&(decide (a.id=b.id)&&(decide (a.code=b.code)&&true))) (by cases a;cases b;simp only[RcI.mk.injEq,Zb,Z7,and_true];exact⟨λh=>⟨by rw[h.1],h.2⟩,λh=>⟨UInt8.toNat_inj.1 (Int.ofNat.inj h.1),h.2⟩⟩)];exact qEq Y Y Y Y (zuq Y Y Y (qsq Y Y) (zuq Y Y Y (yzq Y Y Y Y Y Y _ _ _) (zuq Y Y Y (qsq Y Y) jdq)))
theorem h0q(h p:Hdr):eqW cfg 300 57 (hdW h) (hdW p)=some (decide (h=p)):=by
 rw[uPq (p:=h=p) (b:=decide (h.height=p.height)&&(decide (h.parent=p.parent)&&(decide (h.state=p.state)&&(decide (h.rows=p.rows)&&(decide (h.many=p.many)&&true))))) (by cases h;cases p;simp only[Hdr.mk.injEq,Zb,Z7,and_true])];exact qEq Y Y Y Y (zuq Y Y Y (qsq Y Y) (zuq Y Y Y (yzq Y Y Y Y Y Y _ _ _) (zuq Y Y Y (yzq Y Y Y Y Y Y _ _ _) (zuq Y Y Y (yzq Y Y Y Y Y Y _ _ _) (zuq Y Y Y (qsq Y Y) jdq)))))
theorem dIq(a b:List Depo)(f g:Bool)(hb:a.length<=1000000000):PS cfg G 50 [.fz (a.map pdW) 34 f,.fz (b.map pdW) 34 g] (.bool (decide (a=b))):=by
 have ea:(a.map pdW).length=a.length:=Zd _;have eb:(b.map pdW).length=b.length:=Zd _;refine gI 9 Y (λR k0=>gV (w':=.int .i64 (a.length:Int)) 0 Y Jj (gV (w':=.int .i64 (b.length:Int)) 1 Y (by rw[<-eb];rfl) ?_));refine gS 3 Y (λh1=>?_) (λh1=>?_)
 .exact gQ 7 Y Yi
 .refine gV (w':=.int .i64 (a.length:Int)) 6 Y Jj ?_;refine gLo (α:=Nat) 4 (λi=>i<=a.length/\a.take i=b.take i) (λi=>[(13,.int .i64 (i:Int))]) [0,1,4,12] (λi=>a.length-i) (0) rfl (⟨Zi _,rfl⟩) (λi hI=>?_);obtain⟨g1,g2⟩:=hI;refine gS 6 Y (λh2=>?_) (λh2=>?_)
  .obtain⟨x,hx⟩:∃x,a[i]? =some x:=⟨_,Za Xd⟩
   obtain⟨y,hy⟩:∃y,b[i]? =some y:=⟨_,Za Xd⟩
   refine gP 14 Y (zyq (i:=i) Y Y Y Y Y Y Y (zgq pdW hx)) (gP 3 Y (zyq (i:=i) Y Y Y Y Y Y Y (zgq pdW hy)) (gUe 1 Y (qZq Y Y Y Y (Bmq _ _)) (vYq y9q) ?_));refine gS 2 Y (λh3=>?_) (λh3=>?_)
   .exact gO 8 Y (gQ 2 Y Jd)
   .exact gA 4 Y (i+1) (gAg 2 Y (i+1) (⟨by omega,kIq g2 hx hy (Classical.not_not.1 h3)⟩) Xd)
  .exact gO 2 Y (gQ 8 Y Yk)
theorem baq(a b:List Tx)(f g:Bool)(hb:a.length<=1000000000):PS cfg G 49 [.fz (a.map txW) 99 f,.fz (b.map txW) 99 g] (.bool (decide (a=b))):=by
 have ea:(a.map txW).length=a.length:=Zd _;have eb:(b.map txW).length=b.length:=Zd _;refine gI 9 Y (λR k0=>gV (w':=.int .i64 (a.length:Int)) 0 Y Jj (gV (w':=.int .i64 (b.length:Int)) 1 Y (by rw[<-eb];rfl) ?_));refine gS 3 Y (λh1=>?_) (λh1=>?_)
 .exact gQ 7 Y Yi
 .refine gV (w':=.int .i64 (a.length:Int)) 6 Y Jj ?_;refine gLo (α:=Nat) 4 (λi=>i<=a.length/\a.take i=b.take i) (λi=>[(13,.int .i64 (i:Int))]) [0,1,4,12] (λi=>a.length-i) (0) rfl (⟨Zi _,rfl⟩) (λi hI=>?_);obtain⟨g1,g2⟩:=hI;refine gS 6 Y (λh2=>?_) (λh2=>?_)
  .obtain⟨x,hx⟩:∃x,a[i]? =some x:=⟨_,Za Xd⟩
   obtain⟨y,hy⟩:∃y,b[i]? =some y:=⟨_,Za Xd⟩
   refine gP 14 Y (zyq (i:=i) Y Y Y Y Y Y Y (zgq txW hx)) (gP 3 Y (zyq (i:=i) Y Y Y Y Y Y Y (zgq txW hy)) (gUe 1 Y (qZq Y Y Y Y (Bjq _ _)) (vYq y9q) ?_));refine gS 2 Y (λh3=>?_) (λh3=>?_)
   .exact gO 8 Y (gQ 2 Y Jd)
   .exact gA 4 Y (i+1) (gAg 2 Y (i+1) (⟨by omega,kIq g2 hx hy (Classical.not_not.1 h3)⟩) Xd)
  .exact gO 2 Y (gQ 8 Y Yk)
theorem tfq(a b:List RcI)(f g:Bool)(hb:a.length<=1000000000):PS cfg G 188 [.fz (a.map rcW) 34 f,.fz (b.map rcW) 34 g] (.bool (decide (a=b))):=by
 have ea:(a.map rcW).length=a.length:=Zd _;have eb:(b.map rcW).length=b.length:=Zd _;refine gI 9 Y (λR k0=>gV (w':=.int .i64 (a.length:Int)) 0 Y Jj (gV (w':=.int .i64 (b.length:Int)) 1 Y (by rw[<-eb];rfl) ?_));refine gS 3 Y (λh1=>?_) (λh1=>?_)
 .exact gQ 7 Y Yi
 .refine gV (w':=.int .i64 (a.length:Int)) 6 Y Jj ?_;refine gLo (α:=Nat) 4 (λi=>i<=a.length/\a.take i=b.take i) (λi=>[(13,.int .i64 (i:Int))]) [0,1,4,12] (λi=>a.length-i) (0) rfl (⟨Zi _,rfl⟩) (λi hI=>?_);obtain⟨g1,g2⟩:=hI;refine gS 6 Y (λh2=>?_) (λh2=>?_)
  .obtain⟨x,hx⟩:∃x,a[i]? =some x:=⟨_,Za Xd⟩
   obtain⟨y,hy⟩:∃y,b[i]? =some y:=⟨_,Za Xd⟩
   refine gP 14 Y (zyq (i:=i) Y Y Y Y Y Y Y (zgq rcW hx)) (gP 3 Y (zyq (i:=i) Y Y Y Y Y Y Y (zgq rcW hy)) (gUe 1 Y (qZq Y Y Y Y (Blq _ _)) (vYq y9q) ?_));refine gS 2 Y (λh3=>?_) (λh3=>?_)
   .exact gO 8 Y (gQ 2 Y Jd)
   .exact gA 4 Y (i+1) (gAg 2 Y (i+1) (⟨by omega,kIq g2 hx hy (Classical.not_not.1 h3)⟩) Xd)
  .exact gO 2 Y (gQ 8 Y Yk)
theorem wRq(l:List Depo)(f:Bool)(hl:l.length<=1000000000):PS cfg G 87 [.fz (l.map pdW) 34 f] (.fz (l.map pdW) 34 false):=by
 have e:(l.map pdW).length=l.length:=Zd _;have hp:∀l:List Depo,acq (l.map pdW)=true:=yfq cKq
 refine gI 9 Y (λR k0=>?_);first|refine yyq Y Y ?_|refine zsq rfl (juq Y Y Y Y Y (λbn hn=>?_))
 refine zhq 2 Y ?_;refine gS 0 Y (λh1=>?_) (λh1=>?_)
 .cases bn with
  |false=>cases h1
  |true=>
   obtain rfl:l=[]:=List.map_eq_nil_iff.1 (hn rfl);exact zPq 7 Y (yUq (fr2:=[(2,.fz [] 34 false)]) Jm ⟨⟨_,rfl,.nilfz⟩,trivial⟩ Y Y)
 .cases l with
  |nil=>
   skip
   exact zPq 6 Y (gM 0 Y (qaq Y Y (jPq Y Y Y Y Y)) (zcq 4 Y (yUq (fr2:=[(2,.fz [] 34 false)]) Jm ⟨⟨_,rfl,.sl Y Y Y Xk⟩,trivial⟩ Y Y)))
  |cons c l=>
   simp only[Zv] at hl e;exact zPq 6 Y (gM 0 Y (qaq Y Y (qOq (news:=(c::l).map pdW) (olds:=[]) Y Y Y Y Y Xi (by show(0+((c::l).map pdW).length)*48<=_;rw[e];omega) Yp rfl (by show 0<0+(0+((c::l).map pdW).length)*34;rw[e];omega) Y Y)) (zcq 4 Y (yUq (fr2:=[(2,.fz ((c::l).map pdW) 34 false)]) Jm ⟨⟨_,rfl,.sl rfl (hp _) (zvq Xg (ZN _) Jg) Xk⟩,trivial⟩ Y Y)))
theorem nmq(l:List Tx)(f:Bool)(hl:l.length<=1000000000):PS cfg G 86 [.fz (l.map txW) 99 f] (.fz (l.map txW) 99 false):=by
 have e:(l.map txW).length=l.length:=Zd _;have hp:∀l:List Tx,acq (l.map txW)=true:=yfq qGq
 refine gI 9 Y (λR k0=>?_);first|refine yyq Y Y ?_|refine zsq rfl (juq Y Y Y Y Y (λbn hn=>?_))
 refine zhq 2 Y ?_;refine gS 0 Y (λh1=>?_) (λh1=>?_)
 .cases bn with
  |false=>cases h1
  |true=>
   obtain rfl:l=[]:=List.map_eq_nil_iff.1 (hn rfl);exact zPq 7 Y (yUq (fr2:=[(2,.fz [] 99 false)]) Jm ⟨⟨_,rfl,.nilfz⟩,trivial⟩ Y Y)
 .cases l with
  |nil=>
   skip
   exact zPq 6 Y (gM 0 Y (qaq Y Y (jPq Y Y Y Y Y)) (zcq 4 Y (yUq (fr2:=[(2,.fz [] 99 false)]) Jm ⟨⟨_,rfl,.sl Y Y Y Xk⟩,trivial⟩ Y Y)))
  |cons c l=>
   simp only[Zv] at hl e;exact zPq 6 Y (gM 0 Y (qaq Y Y (qOq (news:=(c::l).map txW) (olds:=[]) Y Y Y Y Y Xi (by show(0+((c::l).map txW).length)*120<=_;rw[e];omega) Yp rfl (by show 0<0+(0+((c::l).map txW).length)*99;rw[e];omega) Y Y)) (zcq 4 Y (yUq (fr2:=[(2,.fz ((c::l).map txW) 99 false)]) Jm ⟨⟨_,rfl,.sl rfl (hp _) (zvq Xg (ZN _) Jg) Xk⟩,trivial⟩ Y Y)))
theorem Btq(l:List RcI)(f:Bool)(hl:l.length<=1000000000):PS cfg G 234 [.fz (l.map rcW) 34 f] (.fz (l.map rcW) 34 false):=by
 have e:(l.map rcW).length=l.length:=Zd _;have hp:∀l:List RcI,acq (l.map rcW)=true:=yfq cEq
 refine gI 9 Y (λR k0=>?_);first|refine yyq Y Y ?_|refine zsq rfl (juq Y Y Y Y Y (λbn hn=>?_))
 refine zhq 2 Y ?_;refine gS 0 Y (λh1=>?_) (λh1=>?_)
 .cases bn with
  |false=>cases h1
  |true=>
   obtain rfl:l=[]:=List.map_eq_nil_iff.1 (hn rfl);exact zPq 7 Y (yUq (fr2:=[(2,.fz [] 34 false)]) Jm ⟨⟨_,rfl,.nilfz⟩,trivial⟩ Y Y)
 .cases l with
  |nil=>
   skip
   exact zPq 6 Y (gM 0 Y (qaq Y Y (jPq Y Y Y Y Y)) (zcq 4 Y (yUq (fr2:=[(2,.fz [] 34 false)]) Jm ⟨⟨_,rfl,.sl Y Y Y Xk⟩,trivial⟩ Y Y)))
  |cons c l=>
   simp only[Zv] at hl e;exact zPq 6 Y (gM 0 Y (qaq Y Y (qOq (news:=(c::l).map rcW) (olds:=[]) Y Y Y Y Y Xi (by show(0+((c::l).map rcW).length)*48<=_;rw[e];omega) Yp rfl (by show 0<0+(0+((c::l).map rcW).length)*34;rw[e];omega) Y Y)) (zcq 4 Y (yUq (fr2:=[(2,.fz ((c::l).map rcW) 34 false)]) Jm ⟨⟨_,rfl,.sl rfl (hp _) (zvq Xg (ZN _) Jg) Xk⟩,trivial⟩ Y Y)))
theorem qtq{p:Prop} [Decidable p](h:¬p):W.bool false=W.bool (decide p):=Ze W.bool (Zo h).symm
theorem Zxq{p:Prop} [Decidable p](h:p):W.bool true=W.bool (decide p):=Ze W.bool (Zn h).symm
theorem h7q{p q:Prop} [Decidable p] [Decidable q](h:q↔p):W.bool (decide q)=W.bool (decide p):=Ze W.bool (Z9.2 h)
theorem fjq(h p:Hdr):PS cfg glK 132 [hdW h,hdW p] (.bool (decide (zCq h p))):=by
 by_cases hp:okH p
 .obtain⟨q1,q2,q3,q4⟩:=id hp;by_cases hh:okH h
  .skip
   refine gI 10 Y (λR k0=>gC 0 Y (cUq p ⟨q1,q2,q3,q4⟩) (gTa 11 Y (gC 2 Y (zoq (w':=.int .i64 0) (xlq h) (by rw[Zt hh])) (gTa 0 Y (gWr 6 Y ?_)))));refine gD 0 Y (λh1=>?_) (λh1=>?_)
   .exact gUe 5 Y (yIq Y Y Y Y (yzq Y Y Y Y Y Y _ _ 250)) y9q (gQ 5 Y (h7q ⟨λq=>⟨hh,hp,by simpa using h1,q⟩,λq=>q.2.2.2⟩))
   .exact gQ 11 Y (qtq λq=>h1 (by simpa using q.2.2.1))
  .skip
   exact gI 10 Y (λR k0=>gC 0 Y (cUq p ⟨q1,q2,q3,q4⟩) (gTa 11 Y (gC 2 Y (zoq (w':=.int .i64 8) (xlq h) (by rw[Zg hh])) (gFa 0 Y (gQ 19 Y (qtq λq=>hh q.1))))))
 .skip
  exact gI 10 Y (λR k0=>gC 0 Y (mIq p hp) (gFa 11 Y (gQ 23 Y (qtq λq=>hp q.2.1))))
theorem oZq(t:Tree)(r:Int):PS cfg G 134 [tW t,.int .i64 r] (tW ⟨t.nodes,r⟩):=by
 exact gI 20 Y (λR k0=>gQa 0 Y)
theorem t9q(xs:List Tx)(f:Bool)(F:FuncId)(P:Tx->Prop) [DecidablePred P](hF:∀x∈xs,PS cfg G F [txW x] (.bool (decide (P x))))(hF0:cfg.ext F=none)(hn:xs.length<=1000000000):PE cfg G 146 [.fz (xs.map txW) 99 f,.fn F [] []] (λw=>∃i:Int,w= .int .i64 i/\((∃x∈xs,P x)↔0<=i)):=by
 have e:(xs.map txW).length=xs.length:=Zd _;refine gIe 9 Y (λR k0=>gZ 0 Y e ?_);refine gLo (α:=Nat) 4 (λi=>i<=xs.length/\∀j x,j<i->xs[j]? =some x->¬P x) (λi=>[(8,.int .i64 (i:Int))]) [0,1,4,7] (λi=>xs.length-i) (0) rfl (⟨Zi _,λj x h=>by omega⟩) (λi hI=>?_);obtain⟨g1,g2⟩:=hI;refine gS 6 Y (λh1=>?_) (λh1=>?_)
 .obtain⟨x,hx⟩:∃x,xs[i]? =some x:=⟨_,Za Xd⟩
  refine gP 15 Y (zyq (i:=i) Y Y Y Y Y Y Y (zgq txW hx)) (zcq 1 Y (Qoq Y Y Y hF0 Y Y (hF x (Zf hx)) Xi Xi (zhq 2 Y ?_)));refine gS 0 Y (λh2=>?_) (λh2=>?_)
  .exact gO 9 Y (zcq 2 Y (z1q (w':=.int .i64 (i:Int)) Jm rfl (.pur rfl) rfl ⟨_,rfl,λ_=>by omega,λ_=>⟨x,Zf hx,h2⟩⟩))
  .exact gA 4 Y (i+1) (gAg 2 Y (i+1) (⟨by omega,λj y hj hy=>by rcases ZI.1 hj with q|rfl;exact g2 j y q hy;exact ZB (hx.symm.trans hy)▸h2⟩) Xd)
 .refine gO 2 Y (zcq 8 Y ?_)
  exact z1q (w':=.int .i64 (-1)) Jm rfl (.pur rfl) rfl ⟨_,rfl,λ⟨x,hx,q⟩=>by
   obtain⟨j,hj⟩:=List.getElem?_of_mem hx;exact absurd q (g2 j x Qa hj),λh=>absurd h Xg⟩
theorem oBq(xs:List Tx)(f:Bool)(F:FuncId)(P:Tx->Prop) [DecidablePred P](hF:∀x∈xs,PS cfg G F [txW x] (.bool (decide (P x))))(hF0:cfg.ext F=none)(hn:xs.length<=1000000000) [Decidable (∃x∈xs,P x)]:PS cfg G 79 [.fz (xs.map txW) 99 f,.fn F [] []] (.bool (decide (∃x∈xs,P x))):=by
 refine gI 9 Y (λR k0=>?_);refine gE 0 Y (t9q xs f F P hF hF0 hn) ?_;rintro w hw ⟨i,rfl,hi⟩;refine gU 0 Y ?_;exact gQ 4 Y (by rw[Z9.2 hi])
theorem npq(x:Tx)(hx:x.ok):PS cfg glK 197 [txW x] (.bool (decide (x.sign≠xCq x))):=by
 by_cases h:x.sign=xCq x
 .skip
  exact gI 9 Y (λR k0=>gC 0 Y (zoq (w':=.int .i64 0) (qBq x hx) (by rw[Zt h])) (gFa 0 Y (gQ 4 Y (qtq λq=>q h))))
 .skip
  exact gI 9 Y (λR k0=>gC 0 Y (zoq (w':=.int .i64 110) (qBq x hx) (by rw[Zg h])) (gTa 0 Y (gQ 4 Y (Zxq h))))
theorem req(a b:Nat):W.int .i64 (match ltI (a:Int) (b:Int) with|true=>(b:Int)|false=>(a:Int))=W.int .i64 ((max a b:Nat):Int):=by
 congr 1
 by_cases h:(a:Int)<(b:Int)
 .rw[ltI_iff.2 h,Nat.max_eq_right Xd]
 .rw[ltI_not.2 h,Nat.max_eq_left Xd]
theorem isq(ds:List Depo)(xs:List Tx)(f g:Bool)(hx:∀x∈xs,x.ok)(hd:ds.length<=140737488351232)(hn:xs.length<=140737488351232):PS cfg glK 133 [sgq ds xs f g] (.bool (decide (sDq ds xs))):=by
 have e1:(ds.map pdW).length=ds.length:=Zd _;have e2:(xs.map txW).length=xs.length:=Zd _;by_cases hm:ds.length<=16/\xs.length<=16
 .have hc:=oBq (G:=glK) xs g 197 (λx=>x.sign≠xCq x) (λx h=>npq x (hx x h)) rfl Xd;by_cases hs:∃x∈xs,x.sign≠xCq x
  .exact gI 15 Y (λR k0=>gZ 0 Y e1 (gZ 2 Y e2 (gV (w':=.int .i64 ((max ds.length xs.length:Nat):Int)) 0 Y (req _ _) (gT 0 Y (Ze not (ltI_not.2 Xd)) (gC 4 Y (zoq (w':=.bool true) (hc) (by rw[Zn (hs)])) (gQ 6 Y (qtq λq=>by obtain⟨x,h1,h2⟩:=hs;exact h2 (q.2.2 x h1))))))))
  .exact gI 15 Y (λR k0=>gZ 0 Y e1 (gZ 2 Y e2 (gV (w':=.int .i64 ((max ds.length xs.length:Nat):Int)) 0 Y (req _ _) (gT 0 Y (Ze not (ltI_not.2 Xd)) (gC 4 Y (zoq (w':=.bool false) (hc) (by rw[Zo (hs)])) (gQ 6 Y (Zxq ⟨hm.1,hm.2,λx h=>Classical.not_not.1 λq=>hs ⟨x,h,q⟩⟩)))))))
 .exact gI 15 Y (λR k0=>gZ 0 Y e1 (gZ 2 Y e2 (gV (w':=.int .i64 ((max ds.length xs.length:Nat):Int)) 0 Y (req _ _) (gF 0 Y (Ze not (ltI_iff.2 Xd)) (gQ 11 Y (qtq λq=>hm ⟨q.1,q.2.1⟩))))))
noncomputable def wXq:W:=.agg 2 [.nils,.nils]
noncomputable def lkZ:W:=.agg 102 [hdW hdZ,.int .i64 0,wXq,.nils]
@[simp] theorem rhq:abq lkZ=true:=by simp[lkZ,wXq,abq,acq]
noncomputable def lkA(l:List Lk)(i:Nat):W:=match l[i]? with
 |some x=>lkG x
 |none=>lkZ
noncomputable def cJq(l:List Lk):Nat->W
 |0=>lkZ
 |i+1=>lkA l i
@[simp] theorem A5q(l:List Lk)(i:Nat):abq (lkA l i)=true:=by unfold lkA;split<;>simp
@[simp] theorem dUq(l:List Lk)(i:Nat):abq (cJq l i)=true:=by cases i<;>simp[cJq]
noncomputable def i7q(l:List Lk)(i:Nat):List W:=[lkA l i,cJq l i]
theorem rMq(l:List Lk){n:Nat}:∀y∈List.range n,acq (i7q l y)=true/\(i7q l y).length=2:=λy _=>⟨by simp[i7q,acq],rfl⟩
theorem dNq{n i:Nat}(h:i<n):(List.range n)[i]? =some i:=by rw[List.getElem?_range h]
theorem odq{l:List Lk}{i:Nat}{x:Lk}(h:l[i]? =some x):lkA l i=lkG x:=by unfold lkA;rw[h]
theorem scq(l:List Lk)(f:Bool):PS cfg G 130 [.fz (l.map lkG) 102 f] (.fn 196 [] [.fel (.fz (l.map lkG) 102 f)]):=by
 have hp:=vZq l;refine gI 13 Y (λR k0=>?_);refine yUq (fr2:=[(2,_)]) Xq ?_ Y Y
 (repeat (first|exact trivial|refine And.symm ⟨?_,_,rfl,?_⟩))<;>(repeat (first|exact .nil|refine .cons ?_ ?_|refine .fn ?_ ?_|(refine yYq Y ?_ rfl;(first|rfl|(focus (simp;done))))|(refine .sl Y ?_ rfl Xk;(first|rfl|(focus (simp;done))))|(refine .pur ?_;(first|rfl|(focus (simp;done))))|refine .agg ?_|refine .arr ?_|refine .tup ?_))
theorem l1q(l:List Lk)(i:Nat):∃a b c d,cJq l i= .agg 102 [a,b,c,d]:=by
 cases i with
 |zero=>exact⟨_,_,_,_,rfl⟩
 |succ i=>
  show∃a b c d,lkA l i=_
  unfold lkA;split<;>exact⟨_,_,_,_,rfl⟩
theorem noq(l:List Lk)(f:Bool)(hb:l.length<=4611686018427387903):qAq cfg G 196 [.fel (.fz (l.map lkG) 102 f)] ((List.range l.length).map (i7q l)):=by
 have e:(l.map lkG).length=l.length:=Zd _;refine xOq (fn:=Tryz.f196) Y Y Y (Yb rfl) (λL E R hy k0=>?_);refine zEq 8 Y (gZ 0 Y e (zcq 4 Y (oAq (jXq (b:=0) (w':=lkZ) rfl (.agg (.cons (.agg (.cons (.pur rfl) (.cons z9q (.cons z9q (.cons z9q (.cons (.pur rfl) .nil)))))) (.cons (.pur rfl) (.cons (.pur rfl) (.cons (.pur rfl) .nil)))))) ?_)));refine exq (α:=Nat×Res) (λp=>p.1<=l.length/\Yl cfg G L E (((List.range l.length).drop p.1).map (i7q l)) p.2) (λp=>[(8,.int .i64 (p.1:Int))]) [(0,_),(3,_),(6,_),(7,_)] (λp=>[(0,88,cJq l p.1)]) (λp=>p.2) (λp=>l.length-p.1) ((0,R)) ⟨rfl,rfl,rfl,rfl,trivial⟩ (⟨Zi _,hy⟩) ⟨rfl,trivial⟩ Y Y (λp hI=>?_);obtain⟨i,R⟩:=p;obtain⟨hi,hy⟩:=hI;simp only at hi hy⊢;refine zEq 6 Y ?_;refine gS 0 Y (λh1=>?_) (λh1=>?_)
 .have hi':i<l.length:=by omega
  obtain⟨x,hx⟩:∃x,l[i]? =some x:=⟨_,Za hi'⟩
  rw[uOq (dNq hi'),ZC] at hy;have ex:=odq hx;obtain⟨a,b,c,d,hp⟩:=l1q l i;have hv:abq (.agg 102 [a,b,c,d])=true:=hp▸dUq l i
  rw[show i7q l i=[lkG x,.agg 102 [a,b,c,d]] by unfold i7q;rw[ex,hp]] at hy;rw[hp];refine gP 6 Y (zyq (i:=i) Y Y Y Y Y Y Y (zgq lkG hx)) ?_;refine gSo 11 Y (q1q Y Y Y (hy) (λb R1 hb=>?_));refine gS 3 Y (λh2=>?_) (λh2=>?_)
  .cases b with
   |true=>cases h2
   |false=>
    exact zPq 4 Y (qUq Xk (z0q 1 Y (kuq Jm rfl hb)))
  .cases b with
   |false=>exact absurd rfl h2
   |true=>
    refine zPq 9 Y (gA 0 Y (i+1) (zcq 2 Y ?_));rw[show lkG x=cJq l (i+1) from ex.symm];exact Jxq ((i+1,R1)) (⟨hi',hb⟩) Xw (Zi _) ⟨rfl,trivial⟩ ⟨rfl,rfl,rfl,rfl,trivial⟩ Xh Xh Xd Xj Xx rfl
 .refine zcq 2 Y (qUq Xk (z0q 1 Y ?_));obtain rfl:i=l.length:=by omega
  rw[ZW Xi] at hy;exact kuq (.inl rfl) rfl hy
structure Ln where
 (who:Dig) (txs:List Tx)
noncomputable def lnW(l:Ln):W:=.agg 33 [dW l.who,.fz (l.txs.map txW) 99 false]
@[simp] theorem qXq(l:Ln):abq (lnW l)=true:=by simp[lnW,abq,acq]
@[simp] theorem y7q(l:List Ln):acq (l.map lnW)=true:=yfq qXq l
abbrev Shd:=List Ln
noncomputable def shdW(s:Shd):W:=.agg 1 [.fz (s.map lnW) 33 false]
@[simp] theorem k7q(s:Shd):abq (shdW s)=true:=by simp[shdW,abq,acq]
@[simp] theorem jzq(l:List Shd):acq (l.map shdW)=true:=yfq k7q l
noncomputable def plW(l:List Shd):W:=.fz (l.map shdW) 1 false
@[simp] theorem JGq(l:List Shd):abq (plW l)=true:=(jzq l:acq (l.map shdW)=true)
def fAq(x:Tx)(k:Dig):Prop:=x.sign=xCq x/\atq x.pub=k
noncomputable instance(x:Tx)(k:Dig):Decidable (fAq x k):=Classical.propDecidable _
theorem bqq(x:Tx)(hx:x.ok)(k:Dig):PS cfg glK 201 [txW x,dW k] (.bool (decide (fAq x k))):=by
 by_cases h1:x.sign=xCq x
 .by_cases h2:atq x.pub=k
  .skip
   exact gI 10 Y (λR k0=>gC 0 Y (zoq (w':=.int .i64 0) (qBq x hx) (by rw[Zt h1])) (gT 0 Y (eqI_iff.2 (rfl)) (gC 2 Y (bIq x) (zcq 1 Y (jcq (w':=.bool true) rfl (yIq Y Y Y Y (yzq Y Y Y Y Y Y (atq x.pub) k 250)) Jk (yhq 5 Y (gQ 0 Y (Zxq ⟨h1,h2⟩))))))))
  .skip
   exact gI 10 Y (λR k0=>gC 0 Y (zoq (w':=.int .i64 0) (qBq x hx) (by rw[Zt h1])) (gT 0 Y (eqI_iff.2 (rfl)) (gC 2 Y (bIq x) (zcq 1 Y (jcq (w':=.bool false) rfl (yIq Y Y Y Y (yzq Y Y Y Y Y Y (atq x.pub) k 250)) (by rw[Zo h2]) (yhq 5 Y (gQ 0 Y (qtq λq=>h2 q.2))))))))
 .skip
  exact gI 10 Y (λR k0=>gC 0 Y (zoq (w':=.int .i64 110) (qBq x hx) (by rw[Zg h1])) (gF 0 Y (eqI_not.2 Xg) (gQ 10 Y (qtq λq=>h1 q.1))))
def LnM(l:Ln):Prop:=l.txs.length<=256/\∀(i:Nat) x,l.txs[i]? =some x->fAq x l.who/\∀y,0<i->l.txs[i-1]? =some y->y.nonce<x.nonce
noncomputable instance(l:Ln):Decidable (LnM l):=Classical.propDecidable _
theorem knq(l:Ln)(hx:∀x∈l.txs,x.ok)(hl:l.txs.length<=4611686018427387903):PS cfg glK 144 [lnW l] (.int .i64 (if LnM l then 0 else 8)):=by
 have e:(l.txs.map txW).length=l.txs.length:=Zd _;by_cases h0:l.txs.length<=256
 .skip
  refine gI 11 Y (λR k0=>gZ 0 Y e (gF 0 Y (ltI_not.2 Xd) (gZ 10 Y e ?_)));refine gLo (α:=Nat) 4 (λi=>i<=l.txs.length/\∀(j:Nat) x,j<i->l.txs[j]? =some x->fAq x l.who/\∀y,0<j->l.txs[j-1]? =some y->y.nonce<x.nonce) (λi=>[(12,.int .i64 (i:Int))]) [1,2,10,11] (λi=>l.txs.length-i) (0) rfl (⟨Zi _,λj x h=>by omega⟩) (λi hI=>?_);obtain⟨g1,g2⟩:=hI;refine gS 6 Y (λh1=>?_) (λh1=>?_)
  .obtain⟨x,hxi⟩:∃x,l.txs[i]? =some x:=⟨_,Za Xd⟩
   have hok:=hx x (Zf hxi);skip
   by_cases ho:fAq x l.who
   .rcases YS i with rfl|hp
    .exact gP 7 Y (zyq (i:=0) Y Y Y Y Y Y Y (zgq txW hxi)) (gC 11 Y (zoq (w':=.bool true) (bqq x hok l.who) Yr) (gF 3 Y (ltI_not.2 Xd) (gWr 20 Y (gAg 2 Y (0+1) (⟨by omega,λj z hj hz=>by have q0:j=0:=Xd;subst q0;have:=ZB (hxi.symm.trans hz);subst this;exact⟨ho,λy h=>absurd h Xg⟩⟩) Xd))))
    .obtain⟨y,hy⟩:∃y,l.txs[i-1]? =some y:=⟨_,Za Xd⟩
     by_cases hn:y.nonce<x.nonce
     .exact gP 7 Y (zyq (i:=i) Y Y Y Y Y Y Y (zgq txW hxi)) (gC 11 Y (zoq (w':=.bool true) (bqq x hok l.who) Yr) (gT 3 Y (ltI_iff.2 Xd) (gA 4 Y (i-1) (gP 0 Y (zyq (i:=i-1) Y Y Y Y Y Y Y (zgq txW hy)) (gF 4 Y (Ze not (ltI_iff.2 Xd)) (gWr 9 Y (gAg 2 Y (i+1) (⟨by omega,λj z hj hz=>by rcases ZI.1 hj with q|rfl;exact g2 j z q hz;have:=ZB (hxi.symm.trans hz);subst this;exact⟨ho,λw _ hw=>by have:=ZB (hy.symm.trans hw);subst this;exact hn⟩⟩) Xd)))))))
     .exact gP 7 Y (zyq (i:=i) Y Y Y Y Y Y Y (zgq txW hxi)) (gC 11 Y (zoq (w':=.bool true) (bqq x hok l.who) Yr) (gT 3 Y (ltI_iff.2 Xd) (gA 4 Y (i-1) (gP 0 Y (zyq (i:=i-1) Y Y Y Y Y Y Y (zgq txW hy)) (gT 4 Y (Ze not (ltI_not.2 Xd)) (gO 13 Y (gQ 2 Y (by rw[Zg λq:LnM l=>hn ((q.2 i x hxi).2 y hp hy)]))))))))
   .exact gP 7 Y (zyq (i:=i) Y Y Y Y Y Y Y (zgq txW hxi)) (gC 11 Y (zoq (w':=.bool false) (bqq x hok l.who) (by rw[Zo (ho)])) (gO 28 Y (gQ 2 Y (by rw[Zg λq:LnM l=>ho (q.2 i x hxi).1]))))
  .have yes:LnM l:=⟨h0,λj x hj=>g2 j x Qa hj⟩;exact gO 2 Y (gQ 8 Y Yn)
 .skip
  exact gI 11 Y (λR k0=>gZ 0 Y e (gT 0 Y (ltI_iff.2 Xd) (gQ 10 Y (by rw[Zg λq:LnM l=>h0 q.1]))))
structure OkL(l:Ln):Prop where
 txs:∀x∈l.txs,x.ok
 len:l.txs.length<=4611686018427387903
def ShM(s:Shd):Prop:=∀(i:Nat) l,s[i]? =some l->(l.txs.length≠0/\LnM l)/\∀p,0<i->s[i-1]? =some p->yKq p.who l.who=true
noncomputable instance(s:Shd):Decidable (ShM s):=Classical.propDecidable _
theorem u3q(s:Shd)(hx:∀l∈s,OkL l)(hl:s.length<=4611686018427387903):PS cfg glK 75 [shdW s] (.int .i64 (if ShM s then 0 else 8)):=by
 have e:(s.map lnW).length=s.length:=Zd _;refine gI 11 Y (λR k0=>gZ 0 Y e ?_);refine gLo (α:=Nat) 4 (λi=>i<=s.length/\∀(j:Nat) l,j<i->s[j]? =some l->(l.txs.length≠0/\LnM l)/\∀p,0<j->s[j-1]? =some p->yKq p.who l.who=true) (λi=>[(8,.int .i64 (i:Int))]) [1,2,6,7] (λi=>s.length-i) (0) rfl (⟨Zi _,λj x h=>by omega⟩) (λi hI=>?_);obtain⟨g1,g2⟩:=hI;refine gS 6 Y (λh1=>?_) (λh1=>?_)
 .obtain⟨l,hli⟩:∃l,s[i]? =some l:=⟨_,Za Xd⟩
  obtain⟨o1,o2⟩:=hx l (Zf hli);have e2:(l.txs.map txW).length=l.txs.length:=Zd _;skip
  by_cases h0:l.txs.length=0
  .exact gP 7 Y (zyq (i:=i) Y Y Y Y Y Y Y (zgq lnW hli)) (gZ 10 Y e2 (gT 0 Y (eqI_iff.2 Xd) (gO 33 Y (gQ 2 Y (by rw[Zg λq:ShM s=>(q i l hli).1.1 h0])))))
  .by_cases hm:LnM l
   .rcases YS i with rfl|hp
    .exact gP 7 Y (zyq (i:=0) Y Y Y Y Y Y Y (zgq lnW hli)) (gZ 10 Y e2 (gF 0 Y (eqI_not.2 Xd) (gC 2 Y (zoq (w':=.int .i64 0) (knq l o1 o2) Xv) (gF 0 Y (Ze not (eqI_iff.2 (rfl))) (gF 3 Y (ltI_not.2 Xd) (gWr 21 Y (gAg 2 Y (0+1) (⟨by omega,λj z hj hz=>by have q0:j=0:=Xd;subst q0;have:=ZB (hli.symm.trans hz);subst this;exact⟨⟨h0,hm⟩,λy h=>absurd h Xg⟩⟩) Xd)))))))
    .obtain⟨p,hpi⟩:∃y,s[i-1]? =some y:=⟨_,Za Xd⟩
     by_cases hn:yKq p.who l.who=true
     .exact gP 7 Y (zyq (i:=i) Y Y Y Y Y Y Y (zgq lnW hli)) (gZ 10 Y e2 (gF 0 Y (eqI_not.2 Xd) (gC 2 Y (zoq (w':=.int .i64 0) (knq l o1 o2) Xv) (gF 0 Y (Ze not (eqI_iff.2 (rfl))) (gT 3 Y (ltI_iff.2 Xd) (gA 4 Y (i-1) (gP 0 Y (zyq (i:=i-1) Y Y Y Y Y Y Y (zgq lnW hpi)) (gC 4 Y (zoq (w':=.bool true) (Kjq p.who l.who) (by rw[hn])) (gWr 10 Y (gAg 2 Y (i+1) (⟨by omega,λj z hj hz=>by rcases ZI.1 hj with q|rfl;exact g2 j z q hz;have:=ZB (hli.symm.trans hz);subst this;exact⟨⟨h0,hm⟩,λw _ hw=>by have:=ZB (hpi.symm.trans hw);subst this;exact hn⟩⟩) Xd))))))))))
     .have hn':yKq p.who l.who=false:=by simpa using hn
      exact gP 7 Y (zyq (i:=i) Y Y Y Y Y Y Y (zgq lnW hli)) (gZ 10 Y e2 (gF 0 Y (eqI_not.2 Xd) (gC 2 Y (zoq (w':=.int .i64 0) (knq l o1 o2) Xv) (gF 0 Y (Ze not (eqI_iff.2 (rfl))) (gT 3 Y (ltI_iff.2 Xd) (gA 4 Y (i-1) (gP 0 Y (zyq (i:=i-1) Y Y Y Y Y Y Y (zgq lnW hpi)) (gC 4 Y (zoq (w':=.bool false) (Kjq p.who l.who) (by rw[hn'])) (gO 14 Y (gQ 2 Y (by rw[Zg λq:ShM s=>hn ((q i l hli).2 p hp hpi)])))))))))))
   .exact gP 7 Y (zyq (i:=i) Y Y Y Y Y Y Y (zgq lnW hli)) (gZ 10 Y e2 (gF 0 Y (eqI_not.2 Xd) (gC 2 Y (zoq (w':=.int .i64 8) (knq l o1 o2) (by rw[Zg hm])) (gT 0 Y (Ze not (eqI_not.2 Xg)) (gO 29 Y (gQ 2 Y (by rw[Zg λq:ShM s=>hm (q i l hli).1.2])))))))
 .have yes:ShM s:=λj x hj=>g2 j x Qa hj
  exact gO 2 Y (gQ 8 Y Yn)
structure Eve where
 (number:Int) (roll:Bool) (hdr:Hdr)
noncomputable def eveW(e:Eve):W:=.agg 100 [.int .i64 e.number,.bool e.roll,hdW e.hdr]
@[simp] theorem J6q(e:Eve):abq (eveW e)=true:=by simp[eveW,abq,acq]
@[simp] theorem Apq(l:List Eve):acq (l.map eveW)=true:=yfq J6q l
structure Itm where
 (gap:Bool) (ev:Eve)
noncomputable def ahq(x:Itm):W:=.agg 101 [.bool x.gap,eveW x.ev]
@[simp] theorem ydq(x:Itm):abq (ahq x)=true:=by simp[ahq,abq,acq]
@[simp] theorem JVq(l:List Itm):acq (l.map ahq)=true:=yfq ydq l
structure Tp where
 (items:List Itm) (lost:Bool)
noncomputable def tpW(t:Tp):W:=.agg 2 [.fz (t.items.map ahq) 101 false,.bool t.lost]
@[simp] theorem Jlq(t:Tp):abq (tpW t)=true:=by simp[tpW,abq,acq]
structure Sb where
 (id beg:Int) (tap:Tp)
noncomputable def sbW(s:Sb):W:=.agg 4 [.int .i64 s.id,.int .i64 s.beg,tpW s.tap]
@[simp] theorem sbW_pur(s:Sb):abq (sbW s)=true:=by simp[sbW,abq,acq]
@[simp] theorem xHq(l:List Sb):acq (l.map sbW)=true:=yfq sbW_pur l
structure Hb where
 (next:Int) (subs:List Sb)
noncomputable def hbW(h:Hb):W:=.agg 2 [.int .i64 h.next,.fz (h.subs.map sbW) 4 false]
@[simp] theorem kcq(h:Hb):abq (hbW h)=true:=by simp[hbW,abq,acq]
def kXq(e:Eve):Prop:=(0<=e.number/\e.number<1073741824)/\okH e.hdr
noncomputable instance(e:Eve):Decidable (kXq e):=Classical.propDecidable _
theorem J5q(e:Eve):PS cfg G 71 [eveW e] (.bool (decide (kXq e))):=by
 by_cases h0:0<=e.number
 .by_cases h1:e.number<1073741824
  .by_cases h2:okH e.hdr
   .skip
    exact gI 10 Y (λR k0=>gT 0 Y (Ze not (ltI_not.2 Xd)) (gT 3 Y (ltI_iff.2 Xd) (gC 4 Y (zoq (w':=.int .i64 0) (xlq e.hdr) (by rw[Zt h2])) (gT 0 Y (eqI_iff.2 (rfl)) (gQ 5 Y (Zxq ⟨⟨h0,h1⟩,h2⟩))))))
   .skip
    exact gI 10 Y (λR k0=>gT 0 Y (Ze not (ltI_not.2 Xd)) (gT 3 Y (ltI_iff.2 Xd) (gC 4 Y (zoq (w':=.int .i64 8) (xlq e.hdr) (by rw[Zg h2])) (gF 0 Y (eqI_not.2 Xg) (gQ 5 Y (qtq λq=>h2 q.2))))))
  .skip
   exact gI 10 Y (λR k0=>gT 0 Y (Ze not (ltI_not.2 Xd)) (gF 3 Y (ltI_not.2 Xd) (gQ 11 Y (qtq λq=>h1 q.1.2))))
 .skip
  exact gI 10 Y (λR k0=>gF 0 Y (Ze not (ltI_iff.2 Xd)) (gQ 15 Y (qtq λq=>h0 q.1.1)))
theorem xzq(n:Int):PS cfg G 82 [.int .i64 n] (.bool (decide (0<=n/\n<1073741824))):=by
 by_cases h0:0<=n
 .by_cases h1:n<1073741824
  .skip
   exact gI 8 Y (λR k0=>gT 0 Y (Ze not (ltI_not.2 Xd)) (gT 2 Y (ltI_iff.2 Xd) (gQ 5 Y (Zxq ⟨h0,h1⟩))))
  .skip
   exact gI 8 Y (λR k0=>gT 0 Y (Ze not (ltI_not.2 Xd)) (gF 2 Y (ltI_not.2 Xd) (gQ 5 Y (qtq λq=>h1 q.2))))
 .skip
  exact gI 8 Y (λR k0=>gF 0 Y (Ze not (ltI_iff.2 Xd)) (gQ 8 Y (qtq λq=>h0 q.1)))
theorem wPq(l:List Itm)(f:Bool)(hl:l.length<=1000000000):PS cfg G 143 [.fz (l.map ahq) 101 f] (.fz (l.map ahq) 101 false):=by
 have e:(l.map ahq).length=l.length:=Zd _;have hp:∀l:List Itm,acq (l.map ahq)=true:=yfq ydq
 refine gI 9 Y (λR k0=>?_);first|refine yyq Y Y ?_|refine zsq rfl (juq Y Y Y Y Y (λbn hn=>?_))
 refine zhq 2 Y ?_;refine gS 0 Y (λh1=>?_) (λh1=>?_)
 .cases bn with
  |false=>cases h1
  |true=>
   obtain rfl:l=[]:=List.map_eq_nil_iff.1 (hn rfl);exact zPq 7 Y (yUq (fr2:=[(2,.fz [] 101 false)]) Jm ⟨⟨_,rfl,.nilfz⟩,trivial⟩ Y Y)
 .cases l with
  |nil=>
   skip
   exact zPq 6 Y (gM 0 Y (qaq Y Y (jPq Y Y Y Y Y)) (zcq 4 Y (yUq (fr2:=[(2,.fz [] 101 false)]) Jm ⟨⟨_,rfl,.sl Y Y Y Xk⟩,trivial⟩ Y Y)))
  |cons c l=>
   simp only[Zv] at hl e;exact zPq 6 Y (gM 0 Y (qaq Y Y (qOq (news:=(c::l).map ahq) (olds:=[]) Y Y Y Y Y Xi (by show(0+((c::l).map ahq).length)*136<=_;rw[e];omega) Yp rfl (by show 0<0+(0+((c::l).map ahq).length)*101;rw[e];omega) Y Y)) (zcq 4 Y (yUq (fr2:=[(2,.fz ((c::l).map ahq) 101 false)]) Jm ⟨⟨_,rfl,.sl rfl (hp _) (zvq Xg (ZN _) Jg) Xk⟩,trivial⟩ Y Y)))
theorem wQq(l:List Eve)(f:Bool)(hl:l.length<=1000000000):PS cfg G 88 [.fz (l.map eveW) 100 f] (.fz (l.map eveW) 100 false):=by
 have e:(l.map eveW).length=l.length:=Zd _;have hp:∀l:List Eve,acq (l.map eveW)=true:=yfq J6q
 refine gI 9 Y (λR k0=>?_);first|refine yyq Y Y ?_|refine zsq rfl (juq Y Y Y Y Y (λbn hn=>?_))
 refine zhq 2 Y ?_;refine gS 0 Y (λh1=>?_) (λh1=>?_)
 .cases bn with
  |false=>cases h1
  |true=>
   obtain rfl:l=[]:=List.map_eq_nil_iff.1 (hn rfl);exact zPq 7 Y (yUq (fr2:=[(2,.fz [] 100 false)]) Jm ⟨⟨_,rfl,.nilfz⟩,trivial⟩ Y Y)
 .cases l with
  |nil=>
   skip
   exact zPq 6 Y (gM 0 Y (qaq Y Y (jPq Y Y Y Y Y)) (zcq 4 Y (yUq (fr2:=[(2,.fz [] 100 false)]) Jm ⟨⟨_,rfl,.sl Y Y Y Xk⟩,trivial⟩ Y Y)))
  |cons c l=>
   simp only[Zv] at hl e;exact zPq 6 Y (gM 0 Y (qaq Y Y (qOq (news:=(c::l).map eveW) (olds:=[]) Y Y Y Y Y Xi (by show(0+((c::l).map eveW).length)*128<=_;rw[e];omega) Yp rfl (by show 0<0+(0+((c::l).map eveW).length)*100;rw[e];omega) Y Y)) (zcq 4 Y (yUq (fr2:=[(2,.fz ((c::l).map eveW) 100 false)]) Jm ⟨⟨_,rfl,.sl rfl (hp _) (zvq Xg (ZN _) Jg) Xk⟩,trivial⟩ Y Y)))
theorem fSq(t:Tp)(hl:t.items.length<=1000000000):PS cfg G 73 [tpW t] (tpW t):=by
 have hp:=JVq t.items;exact gIv 10 Y (λR k0=>gC 0 Y (wPq t.items false hl) (zcq 11 Y (yTq Jm rfl (.pur (Jlq t)))))
theorem hjq(l:Ln)(hl:l.txs.length<=1000000000):PS cfg G 205 [lnW l] (lnW l):=by
 have hp:=qTq l.txs;exact gIv 12 Y (λR k0=>gC 0 Y (nmq l.txs false hl) (zcq 5 Y (yTq Jm rfl (.pur (qXq l)))))
noncomputable def lnA(l:List Ln):W:=.arr (l.length*33) 33 (l.map lnW)
theorem JPq(l:List Ln):abq (lnA l)=true:=(yfq qXq l:acq (l.map lnW)=true)
theorem hkq(l:List Ln)(f:Bool)(hl:l.length<=1000000000):yxq cfg G 204 0 [.fz (l.map lnW) 33 f] [] λw hp nw=>
  (l=[]/\w= .nils/\hp=[]/\nw=0)\/(w= .sl 0 0 0 l.length 33 none/\hp=[(0,133,lnA l)]/\nw=1):=by
 intro R;have e:(l.map lnW).length=l.length:=Zd _;have hpp:=JPq l;refine gIs 9 Y (λk0=>?_);first|refine yyq Y Y ?_|refine zsq rfl (juq Y Y Y Y Y (λbn hn=>?_))
 refine zhq 2 Y ?_;refine gS 0 Y (λh1=>?_) (λh1=>?_)
 .cases bn with
  |false=>cases h1
  |true=>
   obtain rfl:l=[]:=List.map_eq_nil_iff.1 (hn rfl);exact zPq 7 Y (fin Jm Ent.refl rfl ⟨rfl,.inl ⟨rfl,rfl,rfl,rfl⟩⟩)
 .cases l with
  |nil=>
   skip
   exact zPq 6 Y (gM 0 Y (qaq Y Y (jPq Y Y Y Y Y)) (zcq 4 Y (fin Jm Ent.refl rfl ⟨rfl,.inr ⟨rfl,rfl,rfl⟩⟩)))
  |cons c l=>
   refine zPq 6 Y (gM 0 Y (qaq Y Y (qOq (len:=0) (news:=(c::l).map lnW) (olds:=[]) (k:=lqq) Y Y Y Y Y Xi (by show(0+((c::l).map lnW).length)*56<=_;rw[e];omega) Yp rfl (by show 0<0+(0+((c::l).map lnW).length)*33;rw[e];simp only[Zv];omega) Y Y)) (zcq 4 Y ?_));refine fin Jm (qdq (b:=0) (k:=1) (fr2:=[(2,.sl 0 0 0 (c::l).length 33 none)]) (hp2:=[(0,133,lnA (c::l))]) Xd Xd (by show 1<2;omega) ⟨⟨?_,rfl⟩,trivial⟩ ⟨⟨by omega,?_,zaq hpp⟩,trivial⟩ Xi) rfl ⟨rfl,.inr ⟨rfl,rfl,rfl⟩⟩
   .show some (W.sl 1 0 0 (0+((c::l).map lnW).length) 33 none)=some (W.sl 1 0 0 (c::l).length 33 none);rw[e,ZN]
   .rw[zfq hpp];show some (133,W.arr ((0+((c::l).map lnW).length)*33) 33 ([]++(c::l).map lnW))=some (133,lnA (c::l));rw[e,ZN];rfl
noncomputable def sbA(l:List Sb):W:=.arr (l.length*4) 4 (l.map sbW)
theorem jlq(l:List Sb):abq (sbA l)=true:=(yfq sbW_pur l:acq (l.map sbW)=true)
theorem nZq(l:List Sb)(f:Bool)(hl:l.length<=1000000000):yxq cfg G 150 0 [.fz (l.map sbW) 4 f] [] λw hp nw=>
  (l=[]/\w= .nils/\hp=[]/\nw=0)\/(w= .sl 0 0 0 l.length 4 none/\hp=[(0,175,sbA l)]/\nw=1):=by
 intro R;have e:(l.map sbW).length=l.length:=Zd _;have hpp:=jlq l;refine gIs 9 Y (λk0=>?_);first|refine yyq Y Y ?_|refine zsq rfl (juq Y Y Y Y Y (λbn hn=>?_))
 refine zhq 2 Y ?_;refine gS 0 Y (λh1=>?_) (λh1=>?_)
 .cases bn with
  |false=>cases h1
  |true=>
   obtain rfl:l=[]:=List.map_eq_nil_iff.1 (hn rfl);exact zPq 7 Y (fin Jm Ent.refl rfl ⟨rfl,.inl ⟨rfl,rfl,rfl,rfl⟩⟩)
 .cases l with
  |nil=>
   skip
   exact zPq 6 Y (gM 0 Y (qaq Y Y (jPq Y Y Y Y Y)) (zcq 4 Y (fin Jm Ent.refl rfl ⟨rfl,.inr ⟨rfl,rfl,rfl⟩⟩)))
  |cons c l=>
   refine zPq 6 Y (gM 0 Y (qaq Y Y (qOq (len:=0) (news:=(c::l).map sbW) (olds:=[]) (k:=paq) Y Y Y Y Y Xi (by show(0+((c::l).map sbW).length)*48<=_;rw[e];omega) Yp rfl (by show 0<0+(0+((c::l).map sbW).length)*4;rw[e];simp only[Zv];omega) Y Y)) (zcq 4 Y ?_));refine fin Jm (qdq (b:=0) (k:=1) (fr2:=[(2,.sl 0 0 0 (c::l).length 4 none)]) (hp2:=[(0,175,sbA (c::l))]) Xd Xd (by show 1<2;omega) ⟨⟨?_,rfl⟩,trivial⟩ ⟨⟨by omega,?_,zaq hpp⟩,trivial⟩ Xi) rfl ⟨rfl,.inr ⟨rfl,rfl,rfl⟩⟩
   .show some (W.sl 1 0 0 (0+((c::l).map sbW).length) 4 none)=some (W.sl 1 0 0 (c::l).length 4 none);rw[e,ZN]
   .rw[zfq hpp];show some (175,W.arr ((0+((c::l).map sbW).length)*4) 4 ([]++(c::l).map sbW))=some (175,sbA (c::l));rw[e,ZN];rfl
end
theorem dJq{Γ:Ctx}{x:W}{n:Nat}{v:V}(hs:x.size=n)(ha:x.isAgg=true):RV Γ (.arr n n [x]) v↔RV Γ x v:=by
 subst hs;constructor
 .rintro⟨h1,h2⟩;simp only[RS,RSL] at h2;obtain⟨h2,_,h3,_⟩:=h2;rw[Zm Xd] at h3;exact⟨ha.trans h1,h3⟩
 .rintro⟨h1,h2⟩;have h3:=qPq h2;refine⟨ha.symm.trans h1,?_⟩;simp only[RS,RSL];exact⟨h3,by simp,by rw[Zm Xd];exact h2,by rw[ZW Xd]⟩
theorem tDq{C:Cfg}{G:Nat->Option W}{f:FuncId}{x r:W}{n:Nat}(hs:x.size=n)(ha:x.isAgg=true)(sp:PS C G f [x] r):PS C G f [.arr n n [x]] r:=λR Γ X vs h1 s hv=>
 sp R Γ X vs h1 s (by
  simp only[RVL] at hv⊢;obtain⟨v,vs',e,h,k⟩:=hv;exact⟨v,vs',e,(dJq hs ha).1 h,k⟩)
section
variable {C:Cfg} {G:Nat->Option W} {o:Oper} {fr:FrW} {hp:HpW} {nw:Nat} {R:Res} {post:W->HpW->Nat->Res->Option EvW->Prop}
theorem bEq{b:Nat}{x y:TypeId×W}:∀{hp:HpW},anq (anq hp b x) b y=anq hp b y
 |[]=>rfl
 |(k,w)::l=>by
  simp only[anq];cases q:Nat.beq k b with
  |true=>simp only[anq,q]
  |false=>simp only[anq,q,bEq]
theorem lxq{b:Nat}{ty:TypeId}{w1 w2:W}(he:∀Γ v,RV Γ w1 v->RV Γ w2 v)(h:aeq C G o fr hp nw R λw hp' nw' R' ev=>hget hp' b=some (ty,w1)/\post w (anq hp' b (ty,w2)) nw' R' ev):aeq C G o fr hp nw R post:=λΓ X frv hnw s hf=>by
 obtain⟨n,w,hp',R',ev,v,h',Γ',X',⟨hb,h1⟩,h2,h3,h4,h5,s',fm,hv⟩:=h Γ X frv hnw s hf
 have hold:∀{k t u},hget (anq hp' b (ty,w2)) k=some (t,u) ->∃u0,hget hp' k=some (t,u0)/\∀v,RV Γ' u0 v->RV Γ' u v:=λ{k t u} h=>by
  rw[kUq hb] at h;split at h
  .rename_i e;subst e;cases h;exact⟨w1,hb,he Γ'⟩
  .exact⟨u,h,λ_ q=>q⟩
 refine⟨n,w,_,R',ev,v,h',Γ',X',h1,h2,h3,h4,h5,⟨s'.wf,λk t u h=>?_,λk k' y z hy hz e=>?_,by rw[vnq];exact s'.nd,s'.dX,s'.xlt,s'.dlt,s'.res,s'.gl⟩,fm.trans ⟨λ_ _=>rfl,λh=>h,Zc _,λ_ _ _ _=>rfl,λ_ h=>h,λ_ h=>.inl h,λk y _ h=>?_,λk y hk h=>?_,λ_ h=>.inl h,λ_ h _ _=>h⟩,hv⟩
 .obtain⟨u0,g1,g2⟩:=hold h;obtain⟨q1,q2,q3,v,q4,q5⟩:=s'.own k t u0 g1;exact⟨q1,q2,q3,v,q4,g2 v q5⟩
 .obtain⟨u0,g1,_⟩:=hold (t:=y.1) (u:=y.2) hy;obtain⟨u1,g2,_⟩:=hold (t:=z.1) (u:=z.2) hz;exact s'.inj k k' _ _ g1 g2 e
 .obtain⟨u0,g1,_⟩:=hold (t:=y.1) (u:=y.2) h;exact⟨_,g1⟩
 .obtain⟨u0,g1,_⟩:=hold (t:=y.1) (u:=y.2) h;exact .inr ⟨k,_,hk,g1,rfl⟩
theorem u1q{t:TypeId}{x y:Operand}{b i n e:Nat}{l:List W}{z v:W}{ti:TyI}{ty:TypeId}(ho:o.op= .store t x y)(hx:evW C G fr x=some (.ptr b (0+i*e+0)))(hy:evW C G fr y=some v)(hi:C.ty t=some ti)(hs:ti.size=e)(hg:hget hp b=some (ty,.arr (n*e) e l))(hn:l.length=n)(hz:l[i]? =some z)(hzs:z.size=e)(hza:z.isAgg=true)(hv:v.size=e)(ha:v.isAgg=true)(he:0<e)
  (h:post .undef (anq hp b (ty,.arr (n*e) e (l.set i v))) nw R (some (.storeO b))):aeq C G o fr hp nw R post:=by
 have hi2:=(Zq.1 hz).1;have hsz:Nat.beq v.size ti.size=true:=by rw[hs,hv];exact YY e
 by_cases h1:n=1
 .subst h1;obtain⟨a,rfl⟩:=List.length_eq_one_iff.1 hn;obtain rfl:i=0:=by simpa using hi2
  rw[Nat.one_mul] at hg;refine lxq (b:=b) (ty:=ty) (w1:=v) (w2:=.arr (1*e) e [v]) (λΓ u q=>by rw[Nat.one_mul];exact(dJq hv ha).2 q) (jvq (ev:=.storeO b) (w:=.undef) (show aDq C G fr hp nw o.op=some (.undef,anq hp b (ty,v),nw,.storeO b) from ?_) ⟨by rw[kUq hg,Zt rfl],?_⟩)
  .rw[ho];refine qrq hx hy hi hg hsz ?_ rfl;show yoq 50 (.arr e e [a]) _ v=some v
   have q:(Nat.beq (0+0*e+0) 0&&Nat.beq v.size (W.arr e e [a]).size&&v.isAgg==(W.arr e e [a]).isAgg)=true:=by
    rw[hv,ha];simp[W.size,W.isAgg]
   unfold yoq;rw[q,ha];rfl
  .have e2:anq (anq hp b (ty,v)) b (ty,.arr (1*e) e [v])=anq hp b (ty,.arr (1*e) e [v]):=by
    exact bEq
   rw[e2];exact h
 .have q1:(Nat.beq (0+i*e+0) 0&&Nat.beq v.size (n*e)&&v.isAgg==true)=false:=by
   have:Nat.beq v.size (n*e)=false:=by
    rw[hv];cases q:Nat.beq e (n*e) with
    |false=>rfl
    |true=>
     have q:=Zh q;rcases ZM n 1 with q2|q2
     .omega
     .have:2*e<=n*e:=Z3 e Xd;omega
   rw[this];simp
  have q2:yoq 49 z 0 v=some v:=by
   have q:(Nat.beq 0 0&&Nat.beq v.size z.size&&v.isAgg==z.isAgg)=true:=by
    rw[hv,hzs,ha,hza];simp
   unfold yoq;rw[q,ha];rfl
  exact jvq (ev:=.storeO b) (w:=.undef) (by rw[ho];exact qrq hx hy hi hg hsz (QFq hz he he q1 q2) rfl) h
theorem lvq{w1 w2:W}(he:∀Γ v,RV Γ w1 v->RV Γ w2 v)(h:aeq C G o fr hp nw R λw hp' nw' R' ev=>w=w1/\post w2 hp' nw' R' ev):aeq C G o fr hp nw R post:=λΓ X frv hnw s hf=>by
 obtain⟨n,w,hp',R',ev,v,h',Γ',X',⟨rfl,h1⟩,h2,h3,h4,h5,s',fm,hv⟩:=h Γ X frv hnw s hf;exact⟨n,w2,hp',R',ev,v,h',Γ',X',h1,h2,h3,h4,h5,s',fm,he _ _ hv⟩
theorem Z7q{t:TypeId}{x:Operand}{b i n e:Nat}{l:List W}{z:W}{ti:TyI}{ty:TypeId}(ho:o.op= .load t x)(hx:evW C G fr x=some (.ptr b (0+i*e+0)))(hi:C.ty t=some ti)(hs:ti.size=e)(hag:ti.agg=true)(hg:hget hp b=some (ty,.arr (n*e) e l))(hn:l.length=n)(hz:l[i]? =some z)(hzs:z.size=e)(hza:z.isAgg=true)(he:0<e)
  (h:post z hp nw R (some (.loadO b))):aeq C G o fr hp nw R post:=by
 have hi2:=(Zq.1 hz).1;by_cases h1:n=1
 .subst h1;obtain⟨a,rfl⟩:=List.length_eq_one_iff.1 hn;obtain rfl:i=0:=by simpa using hi2
  obtain rfl:a=z:=by simpa using hz
  rw[Nat.one_mul] at hg;refine lvq (w1:=.arr e e [a]) (w2:=a) (λΓ u q=>(dJq hzs hza).1 q) (jvq (ev:=.loadO b) (hp2:=hp) (nw2:=nw) (w:=.arr e e [a]) ?_ ⟨rfl,h⟩);rw[ho];refine z7q hx hi hg ?_
  have q:(Nat.beq (0+0*e+0) 0&&Nat.beq ti.size (W.arr e e [a]).size&&ti.agg==(W.arr e e [a]).isAgg)=true:=by
   rw[hs,hag];simp[W.size,W.isAgg]
  unfold zYq;rw[q,hag];rfl
 .have q1:(Nat.beq (0+i*e+0) 0&&Nat.beq ti.size (n*e)&&ti.agg==true)=false:=by
   have:Nat.beq ti.size (n*e)=false:=by
    rw[hs];cases q:Nat.beq e (n*e) with
    |false=>rfl
    |true=>
     have q:=Zh q;rcases ZM n 1 with q2|q2
     .omega
     .have:2*e<=n*e:=Z3 e Xd;omega
   rw[this];simp
  have q2:zYq 49 z 0 ti.size ti.agg=some z:=by
   have q:(Nat.beq 0 0&&Nat.beq ti.size z.size&&ti.agg==z.isAgg)=true:=by
    rw[hs,hzs,hag,hza];simp
   unfold zYq;rw[q,hag];rfl
  exact jvq (ev:=.loadO b) (hp2:=hp) (nw2:=nw) (w:=z) (by rw[ho];exact z7q hx hi hg (xRq hz he he q1 q2)) h
noncomputable def zkq(C:Cfg)(G:Nat->Option W)(o:Oper)(fr:FrW)(hp:HpW)(nw:Nat)(R:Res):Prop:=
 ∀Γ X frv,Γ.nw=nw->SatH C G Γ hp X R->FRel Γ fr frv->∃n v h',opV (Sn C n) C frv Γ.h o=some (v,h')/\ygq C frv o.type o.op=none/\∀H1:Heap,H1.next=Γ.h.next->(Γ.h.wmin=Γ.h.next/\H1.tr=Γ.h.tr) ->EvR Γ hp .gen (asq C frv H1 h' o.op)
theorem Qxq{x:Operand}{xs:Array Operand}{ats:Array TypeId}{f:FuncId}{a us c ws:List W}{w:W}(ho:o.op= .call ⟨.value x,xs,ats⟩)(hx:evW C G fr x=some (.fn f a c))(he:C.ext f=none)(hxs:ayq C G fr xs.toList=some us)(hws:ViewL (apq hp) (a++us++c) ws)(sp:PS C G f ws w)(hpw:acq ws=true):zkq C G o fr hp nw R:=λΓ X frv hnw s hf=>by
 obtain⟨n,v,Γ1,Γ',w,hp1,nw1,hq,h1,⟨h2,h3⟩,_⟩:=bxq (R:=R) ho hx he hxs hws sp hpw Γ X frv hnw s hf;exact⟨n,v,Γ1.h,h1,h2,h3⟩
theorem dDq(h2:zkq C G o fr hp nw R)(h:aeq C G o fr hp nw R λw hp' nw' R' _=>post w hp' nw' R' (some .gen)):aeq C G o fr hp nw R post:=λΓ X frv hnw s hf=>by
 obtain⟨n,w,hp',R',ev,v,h',Γ',X',h1,e1,_,h4,h5,h6,h7,h8⟩:=h Γ X frv hnw s hf;obtain⟨m,v2,h2',e2,e3⟩:=h2 Γ X frv hnw s hf;have q1:=QKq (qDq C (Nat.le_max_left n m)).1 e1;have q2:=QKq (qDq C (Nat.le_max_right n m)).1 e2;have q:=ZB (q1.symm.trans q2);cases q;exact⟨n,w,hp',R',some .gen,v,h',Γ',X',h1,e1,e3,h4,h5,h6,h7,h8⟩
end
section
variable {G:Nat->Option W}
attribute [local simp] JPq
attribute [local irreducible] CoW OpW FlW aeq aiq
theorem ocq{m i:Nat}(h:m≠1)(hi:i<m):(Nat.beq (0+i*33+0) 0&&Nat.beq 33 (m*33)&&true==true)=false:=by
 have:Nat.beq 33 (m*33)=false:=by
  cases q:Nat.beq 33 (m*33) with
  |false=>rfl
  |true=>have:=Zh q;omega
 rw[this];simp
theorem rgq(s:Shd){i:Nat}{x:Ln}(h1:s.length≠1)(h:s[i]? =some x):zYq 50 (lnA s) (0+i*33+0) 33 true=some (lnW x):=xRq (zgq lnW h) Xd Xd (ocq h1 (Zq.1 h).1) rfl
theorem rfq(s:Shd){i:Nat}{x:Ln}(h1:s.length≠1)(h:s[i]? =some x):yoq 50 (lnA s) (0+i*33+0) (lnW x)=some (lnA s):=by
 have hx:=zgq lnW h;rw[lnA,QFq (x':=lnW x) hx Xd Xd (ocq h1 (Zq.1 h).1) rfl,k8q hx]
theorem nWq(s:Shd)(hl:s.length<=1000000000)(hx:∀l∈s,l.txs.length<=1000000000):PS cfg G 149 [shdW s] (shdW s):=by
 have hpp:=JPq s;have hps:=y7q s;by_cases hs1:s.length=1
 .obtain⟨x,rfl⟩:=List.length_eq_one_iff.1 hs1;refine gIv 10 Y (λR k0=>?_);skip
  refine gSo 0 Y (yMq Y Y Y Y Y Yc (hkq [x] false hl) ?_);rintro w hp1 nw1 (⟨q,rfl,rfl,rfl⟩|⟨rfl,rfl,rfl⟩)
  .cases q
  .rw[z3q hpp];skip
   refine gL 10 Y ?_;refine gLo (α:=Nat) 4 (λi=>i<=1) (λi=>[(12,.int .i64 (i:Int))]) [2,3,11] (λi=>1-i) (0) rfl (Zi _) (λi hI=>?_);refine gS 6 Y (λh1=>?_) (λh1=>?_)
   .obtain rfl:i=0:=by omega
    refine gP 17 Y (qbq (i:=0) Y Y Y Y Y Y Y Xi) (gM 0 Y (z7q Y Y Y (show zYq 50 (lnA [x]) (0+0*33+0) 33 true=some (lnA [x]) from rfl)) (gC 0 Y (tDq Y Y (hjq x (hx x Xi))) (gP 0 Y (qbq (i:=0) Y Y Y Y Y Y Y Xi) (gM 0 Y (qrq Y Y Y Y Y (show yoq 50 (lnA [x]) _ (lnW x)=some (lnW x) from rfl) rfl) (zcq 4 Y (jiq (λ_=>dbq (b:=2) (w':=lnA [x]) rfl (λΓ v h=>show RV Γ (.arr 33 33 [lnW x]) v from(dJq (x:=lnW x) (n:=33) Y Y).2 h)) (tPq (0+1) Y Y Y ⟨by omega,by omega⟩ ?_)))))))
    exact tkq 2 Y (gAg 0 Y (0+1) Xd Xd)
   .obtain rfl:i=1:=by omega
    exact gO 2 Y (zcq 9 Y (yTq Jm rfl (.agg (.cons (.sl (full:=false) (c:=lnA [x]) rfl (y7q [x]) (zvq Xg Xi rfl) Xk) .nil))))
 .skip
  refine gIv 10 Y (λR k0=>?_);skip
  refine gSo 0 Y (yMq Y Y Y Y Y Yc (hkq s false hl) ?_);rintro w hp1 nw1 (⟨rfl,rfl,rfl,rfl⟩|⟨rfl,rfl,rfl⟩)
  .skip
   skip
   refine gL 10 Y ?_;refine gLo (α:=Nat) 4 (λi=>i=0) (λi=>[(12,.int .i64 (i:Int))]) [2,3,11] (λi=>0) (0) rfl (rfl) (λi hI=>?_);subst hI;exact gO 9 Y (zcq 9 Y (yTq Jm rfl (.agg (.cons .nilfz .nil))))
  .rw[z3q hpp];refine gL 10 Y ?_;refine gLo (α:=Nat) 4 (λi=>i<=s.length) (λi=>[(12,.int .i64 (i:Int))]) [2,3,11] (λi=>s.length-i) (0) rfl (Zi _) (λi hI=>?_);refine gS 6 Y (λh1=>?_) (λh1=>?_)
   .have hi:i<s.length:=by omega
    obtain⟨x,hxi⟩:∃x,s[i]? =some x:=⟨_,Za hi⟩
    exact gP 17 Y (qbq (i:=i) Y Y Y Y Y Y Y hi) (gM 0 Y (z7q Y Y Y (rgq s hs1 hxi)) (gC 0 Y (hjq x (hx x (Zf hxi))) (gP 0 Y (qbq (i:=i) Y Y Y Y Y Y Y hi) (gM 0 Y (Jpq Y Y Y Y Y (rfq s hs1 hxi)) (gA 4 Y (i+1) (gAg 2 Y (i+1) (hi) Xd))))))
   .exact gO 2 Y (zcq 9 Y (yTq Jm rfl (.agg (.cons (.sl (full:=false) (c:=lnA s) rfl (y7q s) (zvq Xg Xi rfl) Xk) .nil))))
theorem tGq(l:List Shd)(hl:l.length<=1000000)(hx:∀s∈l,s.length<=1000000000/\∀y∈s,y.txs.length<=1000000000):PS cfg G 84 [plW l] (plW l):=by
 have e:(l.map shdW).length=l.length:=Zd _;refine gIv 14 Y (λR k0=>gZ 0 Y e (zcq 4 Y ?_));refine vCq (α:=Nat) (λi=>i<=l.length) 3 (λi=>(l.take i).map shdW) 131 1 (λi=>[(8,.int .i64 (i:Int))]) [(2,_),(6,_),(7,_)] _ (λi=>l.length-i) (0) ⟨rfl,rfl,rfl,trivial⟩ (Zi _) ⟨rfl,trivial⟩ Y Y Y (λi hI=>?_);refine zEq 6 Y ?_;refine gS 0 Y (λh1=>?_) (λh1=>?_)
 .have hi:i<l.length:=by omega
  obtain⟨x,hxi⟩:∃x,l[i]? =some x:=⟨_,Za hi⟩
  obtain⟨b1,b2⟩:=hx x (Zf hxi);have hlt:((l.take i).map shdW).length<=1000000:=by rw[Zd,Zu];omega
  have es:(l.take (i+1)).map shdW=(l.take i).map shdW++[shdW x]:=by rw[YF,hxi,Z5];rfl
  have ep:=jzq (l.take i);have ep2:acq ((l.take i).map shdW++[shdW x])=true:=by rw[<-es];exact jzq _
  exact gP 6 Y (zyq (i:=i) Y Y Y Y Y Y Y (zgq shdW hxi)) (gC 8 Y (nWq x b1 b2) (gM 1 Y (qaq Y Y (Ztq [_,_] (k:=pbq) (news:=[shdW x]) Y Y Y Y Y (umq Y Y Y Y) Xi (by show(((l.take i).map shdW).length+1)*24<=_;omega) (by show((l.take i).map shdW).length+1<=_;omega) rfl Xi)) (gA 5 Y (i+1) (zcq 2 Y (koq 3 (i+1) (hi) Xd (Zi _) (es) Xu Xd Yo rfl Ya ⟨rfl,trivial⟩ ⟨rfl,rfl,rfl,trivial⟩ Xh Xh rfl Xn Xj Xx)))))
 .rw[Zm (show l.length<=i by omega)];exact zcq 2 Y (qUq Xk (z0q 9 Y (yTq Xq Y (aYq (H0:=[]) Xg (jzq _) Xi))))
end
section
attribute [local irreducible] CoW OpW FlW aeq aiq
variable {G:Nat->Option W}
def Uns(x:Tx):Prop:=x.sign≠xCq x
noncomputable instance(x:Tx):Decidable (Uns x):=Classical.propDecidable _
noncomputable instance(l:List Tx):Decidable (∃x∈l,Uns x):=Classical.propDecidable _
theorem s5q(x:Tx)(hx:x.ok):PS cfg glK 80 [txW x] (.bool (decide (Uns x))):=by
 by_cases h:x.sign=xCq x
 .skip
  exact gI 9 Y (λR k0=>gC 0 Y (zoq (w':=.int .i64 0) (qBq x hx) (by rw[Zt h])) (gF 0 Y (Ze not (eqI_iff.2 (rfl))) (gQ 4 Y (qtq λq=>q h))))
 .skip
  exact gI 9 Y (λR k0=>gC 0 Y (zoq (w':=.int .i64 110) (qBq x hx) (by rw[Zg h])) (gT 0 Y (Ze not (eqI_not.2 Xg)) (gQ 4 Y (Zxq h))))
theorem s4q(l:List Tx)(f:Bool)(hx:∀x∈l,x.ok)(hl:l.length<=1000000000):PS cfg glK 31 [.fz (l.map txW) 99 f] (.bool (decide (∃x∈l,Uns x))):=by
 have hc:=oBq (G:=glK) l f 80 Uns (λx h=>s5q x (hx x h)) rfl hl;have hp:=qTq l;exact gI 8 Y (λR k0=>gC 0 Y (hc) (gQa 4 Y))
noncomputable def tp0:W:=.agg 2 [.nils,.bool false]
theorem ZCq{μ:Nat->Option W}:View μ tp0 (tpW ⟨[],false⟩):=.agg (.cons .nilfz (.cons (.pur rfl) .nil))
theorem cl0i:PS cfg G 143 [.nils] .nils:=by
 refine tEq (fn:=Tryz.f143) Y Y Y (Yb rfl) (λR k0=>?_);skip
 exact zEq 20 Y (gQa 0 Y)
theorem oSq(x:Itm)(f:Bool):PS cfg G 72 [tp0,.fz [ahq x] 101 f] (tpW ⟨[x],false⟩):=by
 have hp:acq [ahq x]=true:=by simp[acq]
 refine gIv 10 Y (λR k0=>gC 0 Y (cl0i) (zcq 1 Y ?_))
 (refine zsq rfl (lyq (k:=BRq) (e:=101) (news:=[ahq x]) Y Y Y Y Y Y Y Y Y hp (by show 1*136<=_;omega) Xi ?_))
 exact zhq 5 Y (yTq Jm rfl (.pur (Jlq ⟨[x],false⟩)))
theorem dwq:PS cfg G 70 [tp0] (.int .i64 0):=by
 refine gI 11 Y (λR k0=>?_);refine gL 0 Y ?_;refine gF 0 Y (ltI_not.2 Xg) ?_;refine gL 17 Y ?_;refine gLo (α:=Nat) 4 (λi=>i=0) (λi=>[(14,.int .i64 (i:Int))]) [2,3,12,13] (λi=>0) (0) rfl (rfl) (λi hI=>?_);subst hI;refine gO 9 Y ?_;exact gQa 8 Y
theorem u5q(xs:List Eve)(f:Bool)(F:FuncId)(cs:List W)(hcs:acq cs=true)(P:Eve->Prop) [DecidablePred P](hF:∀x∈xs,PS cfg G F (eveW x::cs) (.bool (decide (P x))))(hF0:cfg.ext F=none)(hn:xs.length<=1000000000):PE cfg G 69 [.fz (xs.map eveW) 100 f,.fn F [] cs] (λw=>∃i:Int,w= .int .i64 i/\((∃x∈xs,P x)↔0<=i)):=by
 have e:(xs.map eveW).length=xs.length:=Zd _;refine gIe 9 Y (λR k0=>gZ 0 Y e ?_);refine gLo (α:=Nat) 4 (λi=>i<=xs.length/\∀j x,j<i->xs[j]? =some x->¬P x) (λi=>[(8,.int .i64 (i:Int))]) [0,1,4,7] (λi=>xs.length-i) (0) rfl (⟨Zi _,λj x h=>by omega⟩) (λi hI=>?_);obtain⟨g1,g2⟩:=hI;refine gS 6 Y (λh1=>?_) (λh1=>?_)
 .obtain⟨x,hx⟩:∃x,xs[i]? =some x:=⟨_,Za Xd⟩
  refine gP 15 Y (zyq (i:=i) Y Y Y Y Y Y Y (zgq eveW hx)) (zcq 1 Y (Qoq Y Y Y hF0 Y Y (hF x (Zf hx)) (by simp[acq,hcs]) Xi (zhq 2 Y ?_)));refine gS 0 Y (λh2=>?_) (λh2=>?_)
  .exact gO 9 Y (zcq 2 Y (z1q (w':=.int .i64 (i:Int)) Jm rfl (.pur rfl) rfl ⟨_,rfl,λ_=>by omega,λ_=>⟨x,Zf hx,h2⟩⟩))
  .exact gA 4 Y (i+1) (gAg 2 Y (i+1) (⟨by omega,λj y hj hy=>by rcases ZI.1 hj with q|rfl;exact g2 j y q hy;exact ZB (hx.symm.trans hy)▸h2⟩) Xd)
 .refine gO 2 Y (zcq 8 Y ?_)
  exact z1q (w':=.int .i64 (-1)) Jm rfl (.pur rfl) rfl ⟨_,rfl,λ⟨x,hx,q⟩=>by
   obtain⟨j,hj⟩:=List.getElem?_of_mem hx;exact absurd q (g2 j x Qa hj),λh=>absurd h Xg⟩
theorem wMq(xs:List Eve)(f:Bool)(F:FuncId)(cs:List W)(hcs:acq cs=true)(P:Eve->Prop) [DecidablePred P](hF:∀x∈xs,PS cfg G F (eveW x::cs) (.bool (decide (P x))))(hF0:cfg.ext F=none)(hn:xs.length<=1000000000) [Decidable (∃x∈xs,P x)]:PS cfg G 25 [.fz (xs.map eveW) 100 f,.fn F [] cs] (.bool (decide (∃x∈xs,P x))):=by
 have hcs2:abq (.fn F [] cs)=true:=by show(true&&acq cs)=true;rw[hcs];rfl
 refine gI 9 Y (λR k0=>?_)
 (refine zsq rfl (qIq Y Y Y Y Y (u5q xs f F cs hcs P hF hF0 hn) (by simp[acq,abq,hcs]) ?_);rintro w hw ⟨i,rfl,hi⟩)
 refine g4q Y Y ?_;refine zhq 4 Y ?_;exact gQ 0 Y (by rw[Z9.2 hi])
theorem uSq(xs:List Ln)(f:Bool)(F:FuncId)(cs:List W)(hcs:acq cs=true)(P:Ln->Prop) [DecidablePred P](hF:∀x∈xs,PS cfg G F (lnW x::cs) (.bool (decide (P x))))(hF0:cfg.ext F=none)(hn:xs.length<=1000000000):PE cfg G 145 [.fz (xs.map lnW) 33 f,.fn F [] cs] (λw=>∃i:Int,w= .int .i64 i/\((∃x∈xs,P x)↔0<=i)):=by
 have e:(xs.map lnW).length=xs.length:=Zd _;refine gIe 9 Y (λR k0=>gZ 0 Y e ?_);refine gLo (α:=Nat) 4 (λi=>i<=xs.length/\∀j x,j<i->xs[j]? =some x->¬P x) (λi=>[(8,.int .i64 (i:Int))]) [0,1,4,7] (λi=>xs.length-i) (0) rfl (⟨Zi _,λj x h=>by omega⟩) (λi hI=>?_);obtain⟨g1,g2⟩:=hI;refine gS 6 Y (λh1=>?_) (λh1=>?_)
 .obtain⟨x,hx⟩:∃x,xs[i]? =some x:=⟨_,Za Xd⟩
  refine gP 15 Y (zyq (i:=i) Y Y Y Y Y Y Y (zgq lnW hx)) (zcq 1 Y (Qoq Y Y Y hF0 Y Y (hF x (Zf hx)) (by simp[acq,hcs]) Xi (zhq 2 Y ?_)));refine gS 0 Y (λh2=>?_) (λh2=>?_)
  .exact gO 9 Y (zcq 2 Y (z1q (w':=.int .i64 (i:Int)) Jm rfl (.pur rfl) rfl ⟨_,rfl,λ_=>by omega,λ_=>⟨x,Zf hx,h2⟩⟩))
  .exact gA 4 Y (i+1) (gAg 2 Y (i+1) (⟨by omega,λj y hj hy=>by rcases ZI.1 hj with q|rfl;exact g2 j y q hy;exact ZB (hx.symm.trans hy)▸h2⟩) Xd)
 .refine gO 2 Y (zcq 8 Y ?_)
  exact z1q (w':=.int .i64 (-1)) Jm rfl (.pur rfl) rfl ⟨_,rfl,λ⟨x,hx,q⟩=>by
   obtain⟨j,hj⟩:=List.getElem?_of_mem hx;exact absurd q (g2 j x Qa hj),λh=>absurd h Xg⟩
theorem wLq(xs:List Ln)(f:Bool)(F:FuncId)(cs:List W)(hcs:acq cs=true)(P:Ln->Prop) [DecidablePred P](hF:∀x∈xs,PS cfg G F (lnW x::cs) (.bool (decide (P x))))(hF0:cfg.ext F=none)(hn:xs.length<=1000000000) [Decidable (∃x∈xs,P x)]:PS cfg G 76 [.fz (xs.map lnW) 33 f,.fn F [] cs] (.bool (decide (∃x∈xs,P x))):=by
 have hcs2:abq (.fn F [] cs)=true:=by show(true&&acq cs)=true;rw[hcs];rfl
 refine gI 9 Y (λR k0=>?_)
 (refine zsq rfl (qIq Y Y Y Y Y (uSq xs f F cs hcs P hF hF0 hn) (by simp[acq,abq,hcs]) ?_);rintro w hw ⟨i,rfl,hi⟩)
 refine g4q Y Y ?_;refine zhq 4 Y ?_;exact gQ 0 Y (by rw[Z9.2 hi])
end
section
variable {C:Cfg} {G:Nat->Option W} {o:Oper} {hp:HpW} {nw:Nat} {fr:FrW} {R:Res} {post:W->HpW->Nat->Res->Option EvW->Prop}
theorem lwq(b:Nat)(fr2:FrW)(hp2:HpW){ty:TypeId}{c:W}(hb:hget hp b=some (ty,c))(hc:abq c=true)(hf:pdq (eGq b c) fr fr2)(hh:ltq (eGq b c) b hp hp2)(nd:(hp2.map (·.1)).Nodup)
  (h:aeq C G o fr2 hp2 nw R λw hp' nw' R' ev=>ev=some .gen/\post w hp' nw' R' ev):aeq C G o fr hp nw R post:=λΓ X frv hnw s f0=>by
 obtain⟨p1,p2,p3,v0,p4,p5⟩:=s.own b ty c hb;let Γ2:Ctx:=⟨Γ.nw,Γ.σ,λc=>Γ.D c\/c=Γ.σ b,Γ.h⟩
 have le:Γ.Le Γ2:=⟨Zc _,λ_ _=>rfl,λ_ h=>.inl h,λ_ _=>rfl⟩
 have q:Seen (eGq b c) Γ Γ2:=⟨λ_ h _=>h,λ_ _ _=>rfl,λ_ h=>.inl h,λ_ _=>rfl,λk c' hk h=>by
  unfold eGq at h;split at h
  .rename_i e;rw[ZE] at e;subst e;cases h;exact⟨.inr rfl,v0,x8q p4,p5⟩
  .cases h⟩
 have hlt:Γ.σ b<Γ.h.next:=by
  rcases ZM (Γ.σ b) Γ.h.next with h|h
  .exact h
  .rw[s.wf _ h] at p4;cases p4
 have s2:SatH C G Γ2 hp2 X R:=⟨s.wf,λk ty' w hk=>by
  obtain⟨g1,w0,g2,g3⟩:=j5q hh k _ _ hk;obtain⟨q1,q2,q3,u,q4,q5⟩:=s.own _ _ _ g2;refine⟨q1,λh=>?_,q3,u,q4,j3q q g3 q5⟩;rcases h with h|h
  .exact q2 h
  .exact g1 (s.inj k b _ _ g2 hb h),λk k' x y hx hy e=>by
  obtain⟨_,w0,g2,_⟩:=j5q hh k x.1 x.2 hx;obtain⟨_,w1,g4,_⟩:=j5q hh k' y.1 y.2 hy;exact s.inj _ _ _ _ g2 g4 e,nd,λd hd hX=>by
  rcases hd with h|rfl
  .exact s.dX d h hX
  .exact p3 hX,s.xlt,λd hd=>by
  rcases hd with h|rfl
  .exact s.dlt d h
  .exact hlt,R.st _ _ _ _ _ s.res le.D le.val (λ_ _=>rfl) (Zc _),s.gl.mono le⟩
 have a:Frm Γ.nw Γ hp X Γ2 hp2 X:=⟨λ_ _=>rfl,λh=>h,Zc _,λ_ _ _ _=>rfl,λ_ h=>.inl h,λd hd=>by
  rcases hd with h|rfl
  .exact .inl h
  .exact .inr (.inl (.inl ⟨b,_,hb,rfl⟩)),λk x hk h=>by
  obtain⟨_,w0,g2,_⟩:=j5q hh k x.1 x.2 h;exact⟨_,g2⟩,λk x hk h=>by
  obtain⟨_,w0,g2,_⟩:=j5q hh k x.1 x.2 h;exact .inr ⟨k,_,hk,g2,rfl⟩,λ_ h=>.inl h,λ_ h _ _=>h⟩
 obtain⟨n,w,hp',R',ev,v,h',Γ',X',⟨rfl,h1⟩,h2,⟨h3,h3'⟩,h4,h5,h6,h7,h8⟩:=h Γ2 X frv hnw s2 λt w hw=>by
  obtain⟨w0,g1,g2⟩:=u0q hf t w hw;obtain⟨u,g3,g4⟩:=f0 _ _ g1;exact⟨u,g3,j3q q g2 g4⟩
 exact⟨n,w,hp',R',_,v,h',Γ',X',h1,h2,⟨h3,h3'⟩,h4,⟨h5.nw,h5.σ,λc hc=>h5.D c (.inl hc),λc hc=>h5.val c (.inl hc)⟩,h6,a.trans h7,h8⟩
end
section
attribute [local irreducible] CoW OpW FlW aeq aiq
variable {G:Nat->Option W}
attribute [local simp] jlq
theorem grq{i m:Nat}:(Nat.beq (0+i*4+2) 0&&Nat.beq 2 (m*4)&&true==true)=false:=by
 have:Nat.beq (0+i*4+2) 0=false:=by
  cases q:Nat.beq (0+i*4+2) 0 with
  |false=>rfl
  |true=>have:=Zh q;omega
 rw[this];rfl
theorem cBq{l:List Sb}{i:Nat}{x:Sb}(h:l[i]? =some x):zYq 50 (sbA l) (0+i*4+2) 2 true=some (tpW x.tap):=xRq (zgq sbW h) Xd Xd grq rfl
theorem gqq{l:List Sb}{i:Nat}{x:Sb}(h:l[i]? =some x):yoq 50 (sbA l) (0+i*4+2) (tpW x.tap)=some (sbA l):=by
 have hx:=zgq sbW h;rw[sbA,QFq (x':=sbW x) hx Xd Xd grq rfl,k8q hx]
theorem wbq(h:Hb)(hl:h.subs.length<=1000000000)(hx:∀s∈h.subs,s.tap.items.length<=1000000000):PS cfg G 85 [hbW h] (hbW h):=by
 obtain⟨n,l⟩:=h;simp only at hl hx;have hpp:=jlq l;have hps:=xHq l;refine gIv 10 Y (λR k0=>?_);skip
 refine gSo 0 Y (yMq Y Y Y Y Y Yc (nZq l false hl) ?_);rintro w hp1 nw1 (⟨rfl,rfl,rfl,rfl⟩|⟨rfl,rfl,rfl⟩)
 .skip
  skip
  refine gL 9 Y ?_;refine gLo (α:=Nat) 4 (λi=>i=0) (λi=>[(11,.int .i64 (i:Int))]) [1,2,10] (λi=>0) (0) rfl (rfl) (λi hI=>?_);subst hI;exact gO 9 Y (zcq 9 Y (yTq Jm rfl (.agg (.cons (.pur rfl) (.cons .nilfz .nil)))))
 .rw[z3q hpp];refine gL 9 Y ?_;refine gLo (α:=Nat) 4 (λi=>i<=l.length) (λi=>[(11,.int .i64 (i:Int))]) [1,2,10] (λi=>l.length-i) (0) rfl (Zi _) (λi hI=>?_);refine gS 6 Y (λh1=>?_) (λh1=>?_)
  .have hi:i<l.length:=by omega
   obtain⟨x,hxi⟩:∃x,l[i]? =some x:=⟨_,Za hi⟩
   exact gP 17 Y (qbq (i:=i) Y Y Y Y Y Y Y hi) (gM 1 Y (z7q Y Y Y (cBq hxi)) (gC 0 Y (fSq x.tap (hx x (Zf hxi))) (gP 0 Y (qbq (i:=i) Y Y Y Y Y Y Y hi) (gM 1 Y (Jpq Y Y Y Y Y (gqq hxi)) (gA 4 Y (i+1) (gAg 2 Y (i+1) (hi) Xd))))))
  .exact gO 2 Y (zcq 9 Y (yTq Jm rfl (.agg (.cons (.pur rfl) (.cons (.sl (full:=false) (c:=sbA l) rfl (xHq l) (zvq Xg Xi rfl) Xk) .nil)))))
def BFq(e:Eve):W->Prop:=λw=>∃t:Tp,w= .tup [tpW t,.int .i64 (if kXq e then 0 else 8)]
theorem cpq(t:Tp)(e:Int):abq (.tup [tpW t,.int .i64 e])=true:=by simp[abq,acq]
theorem gNq(e:Eve):PE cfg G 27 [tp0,.int .i64 1,eveW e] (BFq e):=by
 by_cases h:kXq e
 .skip
  refine gIe 13 Y (λR k0=>?_);refine gL 0 Y ?_;refine gWr 0 Y ?_;refine gC 16 Y (dwq) ?_;refine gF 0 Y (Ze not (eqI_iff.2 (rfl))) ?_;refine gC 2 Y (zoq (w':=.bool true) (J5q e) (by rw[Zn (h)])) ?_;refine gF 9 Y (ltI_not.2 Xg) ?_;refine gF 2 Y (ltI_not.2 Xg) ?_;refine gT 24 Y (Ze not (ltI_not.2 Xg)) ?_;refine gSo 10 Y (lwq 4 [(56,tp0),(58,.fz [ahq ⟨false,e⟩] 101 false),(6,.ptr 2 0)] [(2,106,.agg 2 [.nils,.bool false])] (c:=ahq ⟨false,e⟩) rfl (ydq _) ⟨⟨_,rfl,.pur rfl⟩,⟨_,rfl,.sl (full:=false) (c:=ahq ⟨false,e⟩) rfl (ydq _) rfl Xk⟩,⟨_,rfl,.ptrK rfl⟩,trivial⟩ ⟨⟨by decide,_,rfl,.pur rfl⟩,trivial⟩ Xi (Joq Y Y Y Y Y (oSq ⟨false,e⟩ false) (by simp[acq,abq,tp0]) Xi ⟨rfl,?_⟩));refine zcq 7 Y ?_;exact z1q (w':=.tup [tpW ⟨[⟨false,e⟩],false⟩,.int .i64 0]) Jm rfl (.pur (cpq _ _)) (cpq _ _) ⟨_,by rw[Zt h]⟩
 .skip
  refine gIe 13 Y (λR k0=>?_);refine gL 0 Y ?_;refine gWr 0 Y ?_;refine gC 16 Y (dwq) ?_;refine gF 0 Y (Ze not (eqI_iff.2 (rfl))) ?_;refine gC 2 Y (zoq (w':=.bool false) (J5q e) (by rw[Zo (h)])) ?_;refine zcq 16 Y ?_;exact z1q (w':=.tup [tpW ⟨[],false⟩,.int .i64 8]) Jm rfl (.tup (.cons ZCq (.cons (.pur rfl) .nil))) (cpq _ _) ⟨_,by rw[Zg h]⟩
theorem nyq(e:Eve):PS cfg G 26 [eveW e] (.bool (decide (¬kXq e))):=by
 by_cases h:kXq e
 .skip
  refine gI 10 Y (λR k0=>gE 0 Y (gNq e) ?_);rintro w hw ⟨t,rfl⟩;rw[Zt h]
  exact gF 11 Y (Ze not (eqI_iff.2 (rfl))) (gQ 4 Y (qtq λq=>q h))
 .skip
  refine gI 10 Y (λR k0=>gE 0 Y (gNq e) ?_);rintro w hw ⟨t,rfl⟩;rw[Zg h]
  exact gT 11 Y (Ze not (eqI_not.2 Xg)) (gQ 4 Y (Zxq h))
end
theorem dTq{C:Cfg}{G G2:Nat->Option W}{f:FuncId}{m:Nat}{ws:List W}{hp:HpW}{Q:W->HpW->Nat->Prop}(hG:∀g w,G g=some w->G2 g=some w)(h:yxq C G f m ws hp Q):yxq C G2 f m ws hp Q:=λR Γ X vs e s hv=>by
 obtain⟨n,v,Γ',X',w,hp',R',h1,h2,h3,h4,h5⟩:=h R Γ X vs e ⟨s.wf,s.own,s.inj,s.nd,s.dX,s.xlt,s.dlt,s.res,λg w hg hw=>s.gl g w hg (hG g w hw)⟩ hv;refine⟨n,v,Γ',X',w,hp',R',h1,⟨h2.wf,h2.own,h2.inj,h2.nd,h2.dX,h2.xlt,h2.dlt,h2.res,λg w hg hw nw σ=>RV.mono (Γ:=⟨nw,σ,Γ.D,Γ.h⟩) (Γ':=⟨nw,σ,Γ'.D,Γ'.h⟩) ⟨Zc _,λ_ _=>rfl,h3.dsub,λc hc=>yRq (h3.keep c (s.dlt c hc) ?_ (s.dX c hc))⟩ (s.gl g w hg hw nw σ)⟩,h3,h4,h5⟩;rintro⟨b,x,hb,rfl⟩;exact(s.own b x.1 x.2 hb).2.1 hc
theorem Ymq{C:Cfg}{G G2:Nat->Option W}{f:FuncId}{ws:List W}{r:W}(hG:∀g w,G g=some w->G2 g=some w)(h:PS C G f ws r):PS C G2 f ws r:=dTq hG h
def hdG:Hdr:=⟨0,zeroD,zeroD,zeroD,0⟩
def itZ:Itm:=⟨false,⟨0,false,hdG⟩⟩
def itG:Itm:=⟨true,⟨0,false,hdG⟩⟩
noncomputable def glT:Nat->Option W:=λg=>match Nat.beq g 0 with
 |true=>some (ahq itG)
 |false=>glK g
theorem xAq(g:Nat)(w:W)(h:glK g=some w):glT g=some w:=by
 unfold glT;split
 .rename_i e;obtain rfl:=Zh e;cases h
 .exact h
noncomputable instance(x y:Itm):Decidable (x=y):=Classical.propDecidable _
theorem foq(x y:Itm):eqW cfg 300 61 (ahq x) (ahq y)=some (decide (x=y)):=by
 rw[uPq (p:=x=y) (b:=decide (x.gap=y.gap)&&((decide (x.ev.number=y.ev.number)&&(decide (x.ev.roll=y.ev.roll)&&((decide (x.ev.hdr.height=y.ev.hdr.height)&&(decide (x.ev.hdr.parent=y.ev.hdr.parent)&&(decide (x.ev.hdr.state=y.ev.hdr.state)&&(decide (x.ev.hdr.rows=y.ev.hdr.rows)&&(decide (x.ev.hdr.many=y.ev.hdr.many)&&true)))))&&true)))&&true)) (by
  obtain⟨a,b,c,d,e,f,g,h⟩:=x;obtain⟨a',b',c',d',e',f',g',h'⟩:=y;simp only[Itm.mk.injEq,Eve.mk.injEq,Hdr.mk.injEq,Zb,Z7,and_true])]
 exact qEq Y Y Y Y (zuq Y Y Y (c8q Y Y) (zuq Y Y Y (qEq Y Y Y Y (zuq Y Y Y (qsq Y Y) (zuq Y Y Y (c8q Y Y) (zuq Y Y Y (qEq Y Y Y Y (zuq Y Y Y (qsq Y Y) (zuq Y Y Y (yzq Y Y Y Y Y Y _ _ _) (zuq Y Y Y (yzq Y Y Y Y Y Y _ _ _) (zuq Y Y Y (yzq Y Y Y Y Y Y _ _ _) (zuq Y Y Y (qsq Y Y) jdq)))))) jdq)))) jdq))
section
attribute [local irreducible] CoW OpW FlW aeq aiq
def v1q(l:List Itm):Nat->Itm
 |0=>itZ
 |i+1=>l.getD i itZ
theorem riq{l:List Itm}{i:Nat}(h:i<l.length):l[i]? =some (v1q l (i+1)):=by
 show l[i]? =some (l.getD i itZ);rw[List.getD_eq_getElem?_getD,Za h];rfl
def ItM(p x:Itm):Prop:=if x.gap=true then x=itG/\p≠itG else kXq x.ev
theorem hyq{p x:Itm}(h:x.gap=true):ItM p x↔x=itG/\p≠itG:=by unfold ItM;rw[Zt h]
theorem mCq{p x:Itm}(h:¬x.gap=true):ItM p x↔kXq x.ev:=by unfold ItM;rw[Zg h]
def TpM(t:Tp):Prop:=t.items.length<=64/\∀i,i<t.items.length->ItM (v1q t.items i) (v1q t.items (i+1))
noncomputable instance(t:Tp):Decidable (TpM t):=Classical.propDecidable _
noncomputable def Axq:W:=.arr 32 1 (List.replicate 32 (.int .u8 0))
noncomputable def itZw:W:=.agg 101 [.bool false,.agg 100 [.int .i64 0,.bool false,.agg 98 [.int .i64 0,Axq,Axq,Axq,.int .i64 0]]]
theorem JWq{μ:Nat->Option W}:View μ itZw (ahq itZ):=.agg (.cons (.pur rfl) (.cons (.agg (.cons (.pur rfl) (.cons (.pur rfl) (.cons (.agg (.cons (.pur rfl) (.cons z9q (.cons z9q (.cons z9q (.cons (.pur rfl) .nil)))))) .nil)))) .nil))
theorem Z4q(t:Tp)(hl:t.items.length<=4611686018427387903):PS cfg glT 70 [tpW t] (.int .i64 (if TpM t then 0 else 8)):=by
 have rf:azq 2 (t.items.map ahq)=true:=zaq (w:=.fz (t.items.map ahq) 101 false) (show acq (t.items.map ahq)=true from JVq _);have e:(t.items.map ahq).length=t.items.length:=Zd _;by_cases h0:t.items.length<=64
 .skip
  refine gI 11 Y (λR k0=>gZ 0 Y e (gF 0 Y (ltI_not.2 Xd) (zcq 15 Y (jiq (λ_=>jXq (b:=1) (w':=ahq itZ) rfl JWq) (yyq Y Y ?_)))))
  refine jbq Y Y (kpq (w':=.int .i64 ((t.items.length:Nat):Int)) Y Y Yf ?_);refine zhq 4 Y ?_;refine xsq (α:=Nat×Itm) (λq=>(q.1<=t.items.length/\q.2=v1q t.items q.1)/\∀j,j<q.1->ItM (v1q t.items j) (v1q t.items (j+1))) (λq=>[(14,.int .i64 (q.1:Int))]) [(2,_),(3,_),(12,_),(13,_)] (λq=>[(1,61,ahq q.2),(0,106,tpW t)]) (λq=>t.items.length-q.1) ((0,itZ)) ⟨rfl,rfl,rfl,rfl,trivial⟩ (⟨⟨Zi _,rfl⟩,λj h=>by simp at h⟩) ⟨rfl,trivial⟩ (rfl) (λq hI=>?_);obtain⟨i,p⟩:=q;obtain⟨⟨g1,gp⟩,g2⟩:=hI;simp only at g1 gp g2;refine zEq 6 Y ?_;refine gS 0 Y (λh1=>?_) (λh1=>?_)
  .have hi:i<t.items.length:=by omega
   have hxi:=riq hi;obtain⟨x,hx⟩:∃x,v1q t.items (i+1)=x:=⟨_,rfl⟩
   rw[hx] at hxi
   have step:ItM p x->∀j,j<i+1->ItM (v1q t.items j) (v1q t.items (j+1)):=λq j hj=>by
    rcases ZI.1 hj with h|rfl
    .exact g2 j h
    .rw[hx,<-gp];exact q
   have stop:¬ItM p x->¬TpM t:=λq r=>q (by have:=r.2 i hi;rw[hx,<-gp] at this;exact this)
   obtain⟨g,ev⟩:=x;skip
   cases g with
   |true=>
    by_cases h1:(⟨true,ev⟩:Itm)=itG
    .by_cases h2:p=itG
     .exact zPq 6 Y (gP 0 Y (zyq (i:=i) Y Y Y Y Y Y Y (zgq ahq hxi)) (zcq 13 Y (kpq (w':=.bool false) rfl (qZq Y Y Y Y (foq ⟨true,ev⟩ itG)) (by rw[Zn h1];rfl) (zhq 3 Y (kpq (w':=.bool true) rfl (yIq Y Y Y Y (foq p itG)) Jk (zhq 25 Y (qUq Xk (z0q 2 Y (gQ 0 Y (by rw[Zg (stop λq=>((hyq rfl).1 q).2 h2)]))))))))))
     .refine zPq 6 Y (gP 0 Y (zyq (i:=i) Y Y Y Y Y Y Y (zgq ahq hxi)) (zcq 13 Y (kpq (w':=.bool false) rfl (qZq Y Y Y Y (foq ⟨true,ev⟩ itG)) (by rw[Zn h1];rfl) (zhq 3 Y (kpq (w':=.bool false) rfl (yIq Y Y Y Y (foq p itG)) (by rw[Zo h2]) (zhq 25 Y (gWr 0 Y (zcq 2 Y ?_))))))));skip
      exact y6q ((i+1,(⟨true,ev⟩:Itm)):Nat×Itm) ⟨⟨by show i+1<=_;omega,hx.symm⟩,step ((hyq rfl).2 ⟨h1,h2⟩)⟩ (by show t.items.length-(i+1)<t.items.length-i;omega) (zDq (nw2:=2) (Zi _) Xd (by(repeat (first|exact trivial|refine⟨rfl,?_⟩))) (by simp[agq,rf]) (ztq ⟨⟨by omega,rfl,zaq (ydq _)⟩,⟨by omega,rfl,zaq (Jlq t)⟩,trivial⟩) Xi)
    .exact zPq 6 Y (gP 0 Y (zyq (i:=i) Y Y Y Y Y Y Y (zgq ahq hxi)) (zcq 13 Y (kpq (w':=.bool true) rfl (qZq Y Y Y Y (foq ⟨true,ev⟩ itG)) (by rw[Zo h1];rfl) (zhq 29 Y (qUq Xk (z0q 2 Y (gQ 0 Y (by rw[Zg (stop λq=>h1 ((hyq rfl).1 q).1)]))))))))
   |false=>
    by_cases h1:kXq ev
    .refine zPq 6 Y (gP 0 Y (zyq (i:=i) Y Y Y Y Y Y Y (zgq ahq hxi)) (gC 27 Y (zoq (w':=.bool true) (J5q ev) (by rw[Zn (h1)])) (gWr 15 Y (zcq 2 Y ?_))));skip
     exact y6q ((i+1,(⟨false,ev⟩:Itm)):Nat×Itm) ⟨⟨by show i+1<=_;omega,hx.symm⟩,step ((mCq Xi).2 h1)⟩ (by show t.items.length-(i+1)<t.items.length-i;omega) (zDq (nw2:=2) (Zi _) Xd (by(repeat (first|exact trivial|refine⟨rfl,?_⟩))) (by simp[agq,rf]) (ztq ⟨⟨by omega,rfl,zaq (ydq _)⟩,⟨by omega,rfl,zaq (Jlq t)⟩,trivial⟩) Xi)
    .exact zPq 6 Y (gP 0 Y (zyq (i:=i) Y Y Y Y Y Y Y (zgq ahq hxi)) (gC 27 Y (zoq (w':=.bool false) (J5q ev) (by rw[Zo (h1)])) (zcq 15 Y (qUq Xk (z0q 2 Y (gQ 0 Y (by rw[Zg (stop λq=>h1 ((mCq Xi).1 q))])))))))
  .have yes:TpM t:=⟨h0,λj hj=>g2 j Xd⟩;exact zcq 2 Y (qUq Xk (z0q 8 Y (gQ 0 Y Yn)))
 .skip
  exact gI 11 Y (λR k0=>gZ 0 Y e (gT 0 Y (ltI_iff.2 Xd) (gQ 10 Y (by rw[Zg λq:TpM t=>h0 q.1]))))
def muq(l:List Sb):Nat->Int
 |0=>-1
 |i+1=>((l[i]?).map (·.id)).getD (-1)
theorem JRq{l:List Sb}{i:Nat}{s:Sb}(h:l[i]? =some s):muq l (i+1)=s.id:=by
 show((l[i]?).map (·.id)).getD (-1)=_;rw[h];rfl
def SbM(p n:Int)(s:Sb):Prop:=((p<s.id/\s.id<n)/\(0<=s.beg/\s.beg<1073741824))/\TpM s.tap
def HbM(h:Hb):Prop:=((0<=h.next/\h.next<1073741824)/\h.subs.length<=16)/\∀(i:Nat) s,h.subs[i]? =some s->SbM (muq h.subs i) h.next s
noncomputable instance(h:Hb):Decidable (HbM h):=Classical.propDecidable _
theorem JZq(h:Hb)(hl:h.subs.length<=4611686018427387903)(hx:∀s∈h.subs,s.tap.items.length<=4611686018427387903):PS cfg glT 32 [hbW h] (.int .i64 (if HbM h then 0 else 8)):=by
 have e:(h.subs.map sbW).length=h.subs.length:=Zd _;by_cases h0:0<=h.next/\h.next<1073741824
 .by_cases hm:h.subs.length<=16
  .skip
   refine gI 11 Y (λR k0=>gC 0 Y (zoq (w':=.bool true) (xzq h.next) (by rw[Zn (h0)])) (gZ 4 Y e (gF 0 Y (ltI_not.2 Xd) (gZ 16 Y e ?_))));refine gLo (α:=Nat×Int) 4 (λq=>(q.1<=h.subs.length/\q.2=muq h.subs q.1)/\∀j,j<q.1->∀s,h.subs[j]? =some s->SbM (muq h.subs j) h.next s) (λq=>[(19,.int .i64 (q.1:Int)),(3,.int .i64 q.2)]) [1,2,17,18] (λq=>h.subs.length-q.1) ((0,-1)) rfl (⟨⟨Zi _,rfl⟩,λj h=>by simp at h⟩) (λq hI=>?_);obtain⟨i,p⟩:=q;obtain⟨⟨g1,gp⟩,g2⟩:=hI;simp only at g1 gp g2;refine gS 6 Y (λh1=>?_) (λh1=>?_)
   .have hi:i<h.subs.length:=by omega
    obtain⟨s,hs⟩:∃s,h.subs[i]? =some s:=⟨_,Za hi⟩
    have stop:¬SbM p h.next s->¬HbM h:=λq r=>q (by have:=r.2 i s hs;rw[<-gp] at this;exact this)
    have hk:=hx s (Zf hs);skip
    by_cases k1:p<s.id
    .by_cases k2:s.id<h.next
     .by_cases k3:0<=s.beg/\s.beg<1073741824
      .by_cases k4:TpM s.tap
       .exact gP 6 Y (zyq (i:=i) Y Y Y Y Y Y Y (zgq sbW hs)) (gF 11 Y (Ze not (ltI_iff.2 (k1))) (gF 5 Y (Ze not (ltI_iff.2 (k2))) (gC 4 Y (zoq (w':=.bool true) (xzq s.beg) (by rw[Zn (k3)])) (gC 5 Y (zoq (w':=.int .i64 0) (Z4q s.tap hk) (by rw[Zt k4])) (gF 0 Y (Ze not (eqI_iff.2 (rfl))) (gWr 14 Y (gAg 2 Y ((i+1,s.id)) (⟨⟨hi,(JRq hs).symm⟩,λj hj z hz=>by rcases ZI.1 hj with q|rfl;exact g2 j q z hz;have:=ZB (hs.symm.trans hz);subst this;rw[<-gp];exact⟨⟨⟨k1,k2⟩,k3⟩,k4⟩⟩) (by show h.subs.length-(i+1)<h.subs.length-i;omega))))))))
       .exact gP 6 Y (zyq (i:=i) Y Y Y Y Y Y Y (zgq sbW hs)) (gF 11 Y (Ze not (ltI_iff.2 (k1))) (gF 5 Y (Ze not (ltI_iff.2 (k2))) (gC 4 Y (zoq (w':=.bool true) (xzq s.beg) (by rw[Zn (k3)])) (gC 5 Y (zoq (w':=.int .i64 8) (Z4q s.tap hk) (by rw[Zg k4])) (gT 0 Y (Ze not (eqI_not.2 Xg)) (gO 13 Y (gQ 2 Y (by rw[Zg (stop λq=>k4 q.2)]))))))))
      .exact gP 6 Y (zyq (i:=i) Y Y Y Y Y Y Y (zgq sbW hs)) (gF 11 Y (Ze not (ltI_iff.2 (k1))) (gF 5 Y (Ze not (ltI_iff.2 (k2))) (gC 4 Y (zoq (w':=.bool false) (xzq s.beg) (by rw[Zo (k3)])) (gO 20 Y (gQ 2 Y (by rw[Zg (stop λq=>k3 q.1.2)]))))))
     .exact gP 6 Y (zyq (i:=i) Y Y Y Y Y Y Y (zgq sbW hs)) (gF 11 Y (Ze not (ltI_iff.2 (k1))) (gT 5 Y (Ze not (ltI_not.2 (k2))) (gO 25 Y (gQ 2 Y (by rw[Zg (stop λq=>k2 q.1.1.2)])))))
    .exact gP 6 Y (zyq (i:=i) Y Y Y Y Y Y Y (zgq sbW hs)) (gT 11 Y (Ze not (ltI_not.2 (k1))) (gO 31 Y (gQ 2 Y (by rw[Zg (stop λq=>k1 q.1.1.1)]))))
   .have yes:HbM h:=⟨⟨h0,hm⟩,λj s hs=>g2 j (by have:=y2q hs;omega) s hs⟩;exact gO 2 Y (gQ 8 Y Yn)
  .skip
   exact gI 11 Y (λR k0=>gC 0 Y (zoq (w':=.bool true) (xzq h.next) (by rw[Zn (h0)])) (gZ 4 Y e (gT 0 Y (ltI_iff.2 Xd) (gQ 11 Y (by rw[Zg λq:HbM h=>hm q.1.2])))))
 .skip
  exact gI 11 Y (λR k0=>gC 0 Y (zoq (w':=.bool false) (xzq h.next) (by rw[Zo (h0)])) (gQ 17 Y (by rw[Zg λq:HbM h=>h0 q.1.1])))
end
section
attribute [local irreducible] CoW OpW FlW aeq aiq
variable {G:Nat->Option W}
def atE(k:Dig)(n:Nat):Nat:=kn k 31%n
theorem gXq(k:Dig)(m:Nat)(hm:m<=7):PS cfg G 78 [dW k,.int .i64 ((m+1:Nat):Int)] (.tup [.int .i64 (atE k (m+1):Nat),.int .i64 0]):=by
 have hk:=vlq k 31;exact gI 11 Y (λR k0=>gF 0 Y (ltI_not.2 Xd) (gF 2 Y (ltI_not.2 Xd) (gX 8 Y (gM 0 Y (z7q Y Y Y (h8q k (i:=31) Xd)) (gWr 0 Y (gV (w':=.int .i64 ((atE k (m+1):Nat):Int)) 1 Y (Ze (W.int .i64) (Jmq (kn k 31) (m+1))) (gQa 5 Y)))))))
def sCq(n i:Nat)(l:Ln):Prop:=atE l.who n≠i
noncomputable instance(n i:Nat)(l:Ln):Decidable (sCq n i l):=Classical.propDecidable _
noncomputable instance(n i:Nat)(s:Shd):Decidable (∃l∈s,sCq n i l):=Classical.propDecidable _
theorem l4q(l:Ln)(ps:List Shd)(h1:1<=ps.length/\ps.length<=8)(i:Nat)(hi:i<ps.length):PS cfg G 77 [lnW l,.fel (plW ps),.fel (.int .i64 (i:Int))] (.bool (decide (sCq ps.length i l))):=by
 obtain⟨m,hm⟩:∃m,ps.length=m+1:=⟨ps.length-1,by omega⟩
 have e:(ps.map shdW).length=m+1:=by rw[Zd,hm]
 rw[hm];by_cases h:atE l.who (m+1)=i
 .skip
  exact gI 11 Y (λR k0=>gZ 0 Y e (gC 0 Y (gXq l.who m Xd) (gF 11 Y (Ze not (eqI_iff.2 Xd)) (gQ 4 Y (qtq λq=>q h)))))
 .skip
  exact gI 11 Y (λR k0=>gZ 0 Y e (gC 0 Y (gXq l.who m Xd) (gT 11 Y (Ze not (eqI_not.2 Xd)) (gQ 4 Y (Zxq h)))))
def PlM(ps:List Shd):Prop:=(1<=ps.length/\ps.length<=8)/\∀(i:Nat) s,ps[i]? =some s->ShM s/\¬∃l∈s,sCq ps.length i l
noncomputable instance(ps:List Shd):Decidable (PlM ps):=Classical.propDecidable _
theorem gWq(ps:List Shd)(hx:∀s∈ps,s.length<=1000000000/\∀l∈s,OkL l):PS cfg glK 30 [plW ps] (.int .i64 (if PlM ps then 0 else 8)):=by
 have e:(ps.map shdW).length=ps.length:=Zd _;have hpp:=JGq ps;by_cases hm1:1<=ps.length
 .by_cases hm8:ps.length<=8
  .skip
   refine gI 10 Y (λR k0=>gZ 0 Y e (gF 0 Y (ltI_not.2 Xd) (gZ 2 Y e (gF 0 Y (ltI_not.2 Xd) (gZ 10 Y e ?_)))));refine gLo (α:=Nat) 4 (λi=>i<=ps.length/\∀(j:Nat) s,j<i->ps[j]? =some s->ShM s/\¬∃l∈s,sCq ps.length j l) (λi=>[(15,.int .i64 (i:Int))]) [1,2,13,14] (λi=>ps.length-i) (0) rfl (⟨Zi _,λj s h=>by omega⟩) (λi hI=>?_);obtain⟨g1,g2⟩:=hI;refine gS 6 Y (λh1=>?_) (λh1=>?_)
   .have hi:i<ps.length:=by omega
    obtain⟨s,hs⟩:∃s,ps[i]? =some s:=⟨_,Za hi⟩
    obtain⟨b1,b2⟩:=hx s (Zf hs);have hc:=wLq (G:=glK) s false 77 [.fel (plW ps),.fel (.int .i64 (i:Int))] Qv (sCq ps.length i) (λl _=>l4q l ps ⟨hm1,hm8⟩ i hi) rfl b1;have hps:=y7q s;have hv:∀{hp:HpW} {b:Nat},apq hp 0=some (plW ps) ->apq hp b=some (.int .i64 (i:Int)) ->ViewL (apq hp) [.fz (s.map lnW) 33 false,.fn 77 [] [.ptr 0 0,.ptr b 0]] [.fz (s.map lnW) 33 false,.fn 77 [] [.fel (plW ps),.fel (.int .i64 (i:Int))]]:=λq1 q2=>.cons (.pur hps) (.cons (.fn .nil (.cons (yYq q1 hpp rfl) (.cons (yYq q2 Y Y) .nil))) .nil)
    have hpa:acq [.fz (s.map lnW) 33 false,.fn 77 [] [.fel (plW ps),.fel (.int .i64 (i:Int))]]=true:=by simp[acq,abq]
    skip
    by_cases k1:ShM s
    .by_cases k2:∃l∈s,sCq ps.length i l
     .exact gP 7 Y (zyq (i:=i) Y Y Y Y Y Y Y (zgq shdW hs)) (gC 10 Y (zoq (w':=.int .i64 0) (u3q s b2 Xd) (by rw[Zt k1])) (gF 0 Y (Ze not (eqI_iff.2 (rfl))) (zcq 4 Y (ulq Y Y Y Y Y (hv Y Y) (zoq (w':=.bool true) hc (by rw[Zn k2])) hpa Y (zhq 12 Y (gO 0 Y (gQ 2 Y (by rw[Zg λq:PlM ps=>(q.2 i s hs).2 k2]))))))))
     .exact gP 7 Y (zyq (i:=i) Y Y Y Y Y Y Y (zgq shdW hs)) (gC 10 Y (zoq (w':=.int .i64 0) (u3q s b2 Xd) (by rw[Zt k1])) (gF 0 Y (Ze not (eqI_iff.2 (rfl))) (zcq 4 Y (ulq Y Y Y Y Y (hv Y Y) (zoq (w':=.bool false) hc (by rw[Zo k2])) hpa Y (zhq 8 Y (gWr 0 Y (gAg 2 Y (i+1) (⟨by omega,λj z hj hz=>by rcases ZI.1 hj with q|rfl;exact g2 j z q hz;have:=ZB (hs.symm.trans hz);subst this;exact⟨k1,k2⟩⟩) Xd)))))))
    .exact gP 7 Y (zyq (i:=i) Y Y Y Y Y Y Y (zgq shdW hs)) (gC 10 Y (zoq (w':=.int .i64 8) (u3q s b2 Xd) (by rw[Zg k1])) (gT 0 Y (Ze not (eqI_not.2 Xg)) (gO 17 Y (gQ 2 Y (by rw[Zg λq:PlM ps=>k1 (q.2 i s hs).1])))))
   .have yes:PlM ps:=⟨⟨hm1,hm8⟩,λj s hs=>g2 j s (by have:=y2q hs;omega) hs⟩;exact gO 2 Y (gQ 8 Y Yn)
  .skip
   exact gI 10 Y (λR k0=>gZ 0 Y e (gF 0 Y (ltI_not.2 Xd) (gZ 2 Y e (gT 0 Y (ltI_iff.2 Xd) (gQ 11 Y (by rw[Zg λq:PlM ps=>hm8 q.1.2]))))))
 .skip
  exact gI 10 Y (λR k0=>gZ 0 Y e (gT 0 Y (ltI_iff.2 Xd) (gQ 15 Y (by rw[Zg λq:PlM ps=>hm1 q.1.1]))))
structure Ru where
 (shards:Int) (cap:Int) (block:Int) (window:Int) (tap:Int) (subs:Int) (box:Dig)
noncomputable def ruG(r:Ru):W:=.agg 38 [.int .i64 r.shards,.int .i64 r.cap,.int .i64 r.block,.int .i64 r.window,.int .i64 r.tap,.int .i64 r.subs,dW r.box]
@[simp] theorem AGq(r:Ru):abq (ruG r)=true:=by simp[ruG]
def okU(r:Ru):Prop:=(1<=r.shards/\r.shards<=8)/\(1<=r.cap/\r.cap<=64)/\(1<=r.block/\r.block<=16)/\(1<=r.window/\r.window<=64)/\(1<=r.tap/\r.tap<=64)/\(1<=r.subs/\r.subs<=16)
noncomputable instance(r:Ru):Decidable (okU r):=Classical.propDecidable _
theorem j2q(n m:Int):PS cfg G 74 [.int .i64 n,.int .i64 m] (.bool (decide (1<=n/\n<=m))):=by
 refine gI 8 Y (λR k0=>?_);refine gD 0 Y (λh1=>?_) (λh1=>?_)
 .refine gU 3 Y ?_;exact gQ 5 Y Qi
 .exact gQ 9 Y Qi
theorem kAq(r:Ru):PS cfg G 28 [ruG r] (.int .i64 (if okU r then 0 else 8)):=by
 refine gI 11 Y (λR k0=>gC 0 Y (j2q _ _) ?_);refine gB 0 Y (λh1=>?_) (λh1=>?_)
 .refine gC 4 Y (j2q _ _) ?_;refine gB 0 Y (λh2=>?_) (λh2=>?_)
  .refine gC 5 Y (j2q _ _) ?_;refine gB 0 Y (λh3=>?_) (λh3=>?_)
   .refine gC 5 Y (j2q _ _) ?_;refine gB 0 Y (λh4=>?_) (λh4=>?_)
    .refine gC 5 Y (j2q _ _) ?_;refine gB 0 Y (λh5=>?_) (λh5=>?_)
     .refine gC 5 Y (j2q _ _) ?_;refine gS 4 Y (λh6=>?_) (λh6=>?_)
      .exact gQ 7 Y (by(try simp at h6);first|rw[Zt (show okU r by unfold okU;omega)]|rw[Zg (show¬okU r by unfold okU;omega)])
      .exact gQ 8 Y (by(try simp at h6);first|rw[Zt (show okU r by unfold okU;omega)]|rw[Zg (show¬okU r by unfold okU;omega)])
     .exact gQ 18 Y (by(try simp at h6);first|rw[Zt (show okU r by unfold okU;omega)]|rw[Zg (show¬okU r by unfold okU;omega)])
    .exact gQ 24 Y (by(try simp at h6);first|rw[Zt (show okU r by unfold okU;omega)]|rw[Zg (show¬okU r by unfold okU;omega)])
   .exact gQ 30 Y (by(try simp at h6);first|rw[Zt (show okU r by unfold okU;omega)]|rw[Zg (show¬okU r by unfold okU;omega)])
  .exact gQ 36 Y (by(try simp at h6);first|rw[Zt (show okU r by unfold okU;omega)]|rw[Zg (show¬okU r by unfold okU;omega)])
 .exact gQ 41 Y (by(try simp at h6);first|rw[Zt (show okU r by unfold okU;omega)]|rw[Zg (show¬okU r by unfold okU;omega)])
end
section
attribute [local irreducible] CoW OpW FlW aeq aiq
structure Au where
 (ru:Ru) (vw:Vw) (pool:List Shd) (drawn:List Tx) (back:List Tx) (wait:List Depo) (count:Nat) (tells:List Eve) (hub:Hb)
noncomputable def amW(a:Au):W:=.agg 52 [ruG a.ru,vwG a.vw,plW a.pool,.fz (a.drawn.map txW) 99 false,.fz (a.back.map txW) 99 false,.fz (a.wait.map pdW) 34 false,.int .u64 (a.count:Int),.fz (a.tells.map eveW) 100 false,hbW a.hub]
@[simp] theorem qiq(a:Au):abq (amW a)=true:=by simp[amW,abq,acq]
structure OkAu(a:Au):Prop where
 pool:∀s∈a.pool,s.length<=1000000000/\∀l∈s,OkL l
 drawn:∀x∈a.drawn,x.ok
 drawl:a.drawn.length<=1000000000
 back:∀x∈a.back,x.ok
 backl:a.back.length<=1000000000
 tells:a.tells.length<=1000000000
 subs:a.hub.subs.length<=4611686018427387903
 taps:∀s∈a.hub.subs,s.tap.items.length<=4611686018427387903
def sRq(e:Eve):Prop:=¬kXq e
noncomputable instance(e:Eve):Decidable (sRq e):=Classical.propDecidable _
noncomputable instance(l:List Eve):Decidable (∃e∈l,sRq e):=Classical.propDecidable _
structure AuM(V:Prop)(a:Au):Prop where
 ru:okU a.ru
 vw:V
 pool:PlM a.pool
 len:(a.pool.length:Int)=a.ru.shards
 block:(a.drawn.length:Int)<=a.ru.block
 drawn:¬∃x∈a.drawn,Uns x
 back:¬∃x∈a.back,Uns x
 odd:¬∃e∈a.tells,sRq e
 hub:HbM a.hub
noncomputable instance(V:Prop)(a:Au):Decidable (AuM V a):=Classical.propDecidable _
theorem AYq(l:List Eve)(hl:l.length<=1000000000):PS cfg glT 25 [.fz (l.map eveW) 100 false,.fn 26 [] []] (.bool (decide (∃e∈l,sRq e))):=
 wMq l false 26 [] rfl sRq (λe _=>zoq (nyq e) (Ze W.bool (Z9.2 Iff.rfl))) rfl hl
theorem vFq(a:Au)(ok:OkAu a)(V:Prop) [Decidable V](hv:PS cfg glT 29 [vwG a.vw] (.int .i64 (if V then 0 else 8))):PS cfg glT 8 [amW a] (.int .i64 (if AuM V a then 0 else 8)):=by
 have e1:(a.pool.map shdW).length=a.pool.length:=Zd _;have e2:(a.drawn.map txW).length=a.drawn.length:=Zd _;have hodd:=AYq a.tells ok.tells;have hpl:=Ymq xAq (gWq a.pool ok.pool);have hud:=Ymq xAq (s4q a.drawn false ok.drawn ok.drawl);have hub:=Ymq xAq (s4q a.back false ok.back ok.backl);have hhb:=JZq a.hub ok.subs ok.taps;by_cases c0:okU a.ru
 .by_cases c1:V
  .by_cases c2:PlM a.pool
   .by_cases c3:(a.pool.length:Int)=a.ru.shards
    .by_cases c4:(a.drawn.length:Int)<=a.ru.block
     .by_cases c5:¬∃x∈a.drawn,Uns x
      .by_cases c6:¬∃x∈a.back,Uns x
       .by_cases c7:¬∃e∈a.tells,sRq e
        .by_cases c8:HbM a.hub
         .skip
          exact gI 10 Y (λR k0=>gC 0 Y (zoq (w':=.bool false) (hodd) (by rw[Zo (c7)])) (gC 8 Y (zoq (w':=.int .i64 0) (kAq a.ru) Yy) (gF 0 Y (Ze not (eqI_iff.2 (rfl))) (gC 3 Y (zoq (w':=.int .i64 0) (hv) Yx) (gF 0 Y (Ze not (eqI_iff.2 (rfl))) (gC 4 Y (zoq (w':=.int .i64 0) (hpl) Qr) (gF 0 Y (Ze not (eqI_iff.2 (rfl))) (gZ 4 Y e1 (gF 3 Y (Ze not (eqI_iff.2 (c3))) (gZ 4 Y e2 (gF 3 Y (ltI_not.2 Xd) (gC 4 Y (zoq (w':=.bool false) (hud) Jb) (gC 4 Y (zoq (w':=.bool false) (hub) (by rw[Zo (c6)])) (gC 7 Y (zoq (w':=.int .i64 0) (hhb) (by rw[Zt c8])) (gF 0 Y (Ze not (eqI_iff.2 (rfl))) (gQ 12 Y (by rw[Zt (show AuM V a from⟨c0,c1,c2,c3,c4,c5,c6,c7,c8⟩)])))))))))))))))))
         .skip
          exact gI 10 Y (λR k0=>gC 0 Y (zoq (w':=.bool false) (hodd) (by rw[Zo (c7)])) (gC 8 Y (zoq (w':=.int .i64 0) (kAq a.ru) Yy) (gF 0 Y (Ze not (eqI_iff.2 (rfl))) (gC 3 Y (zoq (w':=.int .i64 0) (hv) Yx) (gF 0 Y (Ze not (eqI_iff.2 (rfl))) (gC 4 Y (zoq (w':=.int .i64 0) (hpl) Qr) (gF 0 Y (Ze not (eqI_iff.2 (rfl))) (gZ 4 Y e1 (gF 3 Y (Ze not (eqI_iff.2 (c3))) (gZ 4 Y e2 (gF 3 Y (ltI_not.2 Xd) (gC 4 Y (zoq (w':=.bool false) (hud) Jb) (gC 4 Y (zoq (w':=.bool false) (hub) (by rw[Zo (c6)])) (gC 7 Y (zoq (w':=.int .i64 8) (hhb) (by rw[Zg c8])) (gT 0 Y (Ze not (eqI_not.2 Xg)) (gQ 11 Y (by rw[Zg (λq:AuM V a=>c8 q.hub)])))))))))))))))))
        .skip
         exact gI 10 Y (λR k0=>gC 0 Y (zoq (w':=.bool true) (hodd) (by rw[Zn (Classical.not_not.1 c7)])) (gC 8 Y (zoq (w':=.int .i64 0) (kAq a.ru) Yy) (gF 0 Y (Ze not (eqI_iff.2 (rfl))) (gC 3 Y (zoq (w':=.int .i64 0) (hv) Yx) (gF 0 Y (Ze not (eqI_iff.2 (rfl))) (gC 4 Y (zoq (w':=.int .i64 0) (hpl) Qr) (gF 0 Y (Ze not (eqI_iff.2 (rfl))) (gZ 4 Y e1 (gF 3 Y (Ze not (eqI_iff.2 (c3))) (gZ 4 Y e2 (gF 3 Y (ltI_not.2 Xd) (gC 4 Y (zoq (w':=.bool false) (hud) Jb) (gC 4 Y (zoq (w':=.bool false) (hub) (by rw[Zo (c6)])) (gQ 20 Y (by rw[Zg (λq:AuM V a=>c7 q.odd)])))))))))))))))
       .skip
        exact gI 10 Y (λR k0=>gC 0 Y hodd (gC 8 Y (zoq (w':=.int .i64 0) (kAq a.ru) Yy) (gF 0 Y (Ze not (eqI_iff.2 (rfl))) (gC 3 Y (zoq (w':=.int .i64 0) (hv) Yx) (gF 0 Y (Ze not (eqI_iff.2 (rfl))) (gC 4 Y (zoq (w':=.int .i64 0) (hpl) Qr) (gF 0 Y (Ze not (eqI_iff.2 (rfl))) (gZ 4 Y e1 (gF 3 Y (Ze not (eqI_iff.2 (c3))) (gZ 4 Y e2 (gF 3 Y (ltI_not.2 Xd) (gC 4 Y (zoq (w':=.bool false) (hud) Jb) (gC 4 Y (zoq (w':=.bool true) (hub) (by rw[Zn (Classical.not_not.1 c6)])) (gQ 20 Y (by rw[Zg (λq:AuM V a=>c6 q.back)])))))))))))))))
      .skip
       exact gI 10 Y (λR k0=>gC 0 Y hodd (gC 8 Y (zoq (w':=.int .i64 0) (kAq a.ru) Yy) (gF 0 Y (Ze not (eqI_iff.2 (rfl))) (gC 3 Y (zoq (w':=.int .i64 0) (hv) Yx) (gF 0 Y (Ze not (eqI_iff.2 (rfl))) (gC 4 Y (zoq (w':=.int .i64 0) (hpl) Qr) (gF 0 Y (Ze not (eqI_iff.2 (rfl))) (gZ 4 Y e1 (gF 3 Y (Ze not (eqI_iff.2 (c3))) (gZ 4 Y e2 (gF 3 Y (ltI_not.2 Xd) (gC 4 Y (zoq (w':=.bool true) (hud) (by rw[Zn (Classical.not_not.1 c5)])) (gQ 25 Y (by rw[Zg (λq:AuM V a=>c5 q.drawn)]))))))))))))))
     .skip
      exact gI 10 Y (λR k0=>gC 0 Y hodd (gC 8 Y (zoq (w':=.int .i64 0) (kAq a.ru) Yy) (gF 0 Y (Ze not (eqI_iff.2 (rfl))) (gC 3 Y (zoq (w':=.int .i64 0) (hv) Yx) (gF 0 Y (Ze not (eqI_iff.2 (rfl))) (gC 4 Y (zoq (w':=.int .i64 0) (hpl) Qr) (gF 0 Y (Ze not (eqI_iff.2 (rfl))) (gZ 4 Y e1 (gF 3 Y (Ze not (eqI_iff.2 (c3))) (gZ 4 Y e2 (gT 3 Y (ltI_iff.2 Xd) (gQ 30 Y (by rw[Zg (λq:AuM V a=>c4 q.block)])))))))))))))
    .skip
     exact gI 10 Y (λR k0=>gC 0 Y hodd (gC 8 Y (zoq (w':=.int .i64 0) (kAq a.ru) Yy) (gF 0 Y (Ze not (eqI_iff.2 (rfl))) (gC 3 Y (zoq (w':=.int .i64 0) (hv) Yx) (gF 0 Y (Ze not (eqI_iff.2 (rfl))) (gC 4 Y (zoq (w':=.int .i64 0) (hpl) Qr) (gF 0 Y (Ze not (eqI_iff.2 (rfl))) (gZ 4 Y e1 (gT 3 Y (Ze not (eqI_not.2 (c3))) (gQ 39 Y (by rw[Zg (λq:AuM V a=>c3 q.len)])))))))))))
   .skip
    exact gI 10 Y (λR k0=>gC 0 Y hodd (gC 8 Y (zoq (w':=.int .i64 0) (kAq a.ru) Yy) (gF 0 Y (Ze not (eqI_iff.2 (rfl))) (gC 3 Y (zoq (w':=.int .i64 0) (hv) Yx) (gF 0 Y (Ze not (eqI_iff.2 (rfl))) (gC 4 Y (zoq (w':=.int .i64 8) (hpl) (by rw[Zg c2])) (gT 0 Y (Ze not (eqI_not.2 Xg)) (gQ 48 Y (by rw[Zg (λq:AuM V a=>c2 q.pool)])))))))))
  .skip
   exact gI 10 Y (λR k0=>gC 0 Y hodd (gC 8 Y (zoq (w':=.int .i64 0) (kAq a.ru) Yy) (gF 0 Y (Ze not (eqI_iff.2 (rfl))) (gC 3 Y (zoq (w':=.int .i64 8) (hv) (by rw[Zg c1])) (gT 0 Y (Ze not (eqI_not.2 Xg)) (gQ 54 Y (by rw[Zg (λq:AuM V a=>c1 q.vw)])))))))
 .skip
  exact gI 10 Y (λR k0=>gC 0 Y hodd (gC 8 Y (zoq (w':=.int .i64 8) (kAq a.ru) (by rw[Zg c0])) (gT 0 Y (Ze not (eqI_not.2 Xg)) (gQ 59 Y (by rw[Zg (λq:AuM V a=>c0 q.ru)])))))
end
section
attribute [local irreducible] CoW OpW FlW aeq aiq
variable {G:Nat->Option W}
structure SmAu(a:Au):Prop where
 pool:a.pool.length<=1000000
 shards:∀s∈a.pool,s.length<=1000000000/\∀y∈s,y.txs.length<=1000000000
 drawn:a.drawn.length<=1000000000
 back:a.back.length<=1000000000
 wait:a.wait.length<=1000000000
 tells:a.tells.length<=1000000000
 subs:a.hub.subs.length<=1000000000
 taps:∀s∈a.hub.subs,s.tap.items.length<=1000000000
theorem nxq(a:Au)(sm:SmAu a)(hv:PS cfg G 83 [vwG a.vw] (vwG a.vw)):PS cfg G 34 [amW a] (amW a):=by
 have hp:=tGq (G:=G) a.pool sm.pool sm.shards;have hh:=wbq (G:=G) a.hub sm.subs sm.taps;exact gIv 10 Y (λR k0=>gC 0 Y (hv) (gC 2 Y (hp) (gC 2 Y (hh) (gC 12 Y (nmq a.drawn false sm.drawn) (gC 2 Y (nmq a.back false sm.back) (gC 2 Y (wRq a.wait false sm.wait) (gC 2 Y (wQq a.tells false sm.tells) (zcq 17 Y (yTq Jm rfl (.pur (qiq a)))))))))))
end
noncomputable def oW(b e:Nat):Option (List W) ->W
 |none=>.nils
 |some l=>.sl b 0 0 l.length e none
noncomputable def oH(b:Nat)(ty:TypeId)(e:Nat):Option (List W) ->HpW
 |none=>[]
 |some l=>[(b,ty,.arr (l.length*e) e l)]
noncomputable def oA(o:Option (List W)):List W->Option (List W)
 |[]=>o
 |x::r=>some (o.getD []++x::r)
theorem n8q(o:Option (List W))(l:List W):(oA o l).getD []=o.getD []++l:=by
 cases l with
 |nil=>rw[ZU];rfl
 |cons x r=>rfl
theorem lOq(τ:Nat->Nat)(b e:Nat)(o:Option (List W)):adq τ (oW b e o)=oW (τ b) e o:=by cases o<;>rfl
theorem pCq{n b e:Nat}{o:Option (List W)}(h:b<n):agq n (oW b e o)=true:=by
 cases o with
 |none=>rfl
 |some l=>simp[oW,agq,h]
theorem Ziq(τ:Nat->Nat)(b:Nat)(ty:TypeId)(e:Nat){o:Option (List W)}(h:acq (o.getD [])=true):alq τ (oH b ty e o)=oH (τ b) ty e o:=by
 cases o with
 |none=>rfl
 |some l=>
  have h2:abq (.arr (l.length*e) e l)=true:=h;simp only[oH,alq,zfq h2]
theorem qWq{b e:Nat}{ty:TypeId}{o:Option (List W)}:∀p∈oH b ty e o,p.1=b:=λp hp=>by
 cases o with
 |none=>cases hp
 |some l=>simp only[oH,ZF,YG,or_false] at hp;rw[hp]
noncomputable def oIn(hp:HpW)(b:Nat)(ty:TypeId)(e:Nat)(o:Option (List W)):Prop:=∀l,o=some l->hget hp b=some (ty,.arr (l.length*e) e l)
theorem xiq{P:HpW}{b e:Nat}{ty:TypeId}{o:Option (List W)}(h:∀p∈P,p.1≠b):oIn (P++oH b ty e o) b ty e o:=λl hl=>by
 subst hl;exact ZTq h
theorem aXq{hp:HpW}{b e:Nat}{ty:TypeId}{o:Option (List W)}(he:0<e)(hl:acq (o.getD [])=true)(h:oIn hp b ty e o):View (apq hp) (oW b e o) (.fz (o.getD []) e false):=by
 cases o with
 |none=>exact .nilfz
 |some l=>exact .sl (c:=.arr (l.length*e) e l) (by unfold apq;rw[h l rfl]) hl (zvq he Y Y) Xk
theorem peq{τ:Nat->Nat}{n:Nat}{hp:HpW}{b e:Nat}{ty:TypeId}{o:Option (List W)}(hb:b<n)(hl:acq (o.getD [])=true)(h:oIn hp (τ b) ty e o):Qlq τ n hp (oH b ty e o):=by
 cases o with
 |none=>trivial
 |some l=>
  have h2:abq (.arr (l.length*e) e l)=true:=hl;exact⟨⟨hb,by rw[zfq h2];exact h l rfl,zaq h2⟩,trivial⟩
theorem nUq{hp:HpW}{b e n:Nat}{ty:TypeId}{o:Option (List W)}(hb:b<n)(hl:acq (o.getD [])=true)(h:oIn hp b ty e o):eTq hp n (oH b ty e o):=by
 cases o with
 |none=>trivial
 |some l=>
  have h2:abq (.arr (l.length*e) e l)=true:=hl;exact⟨⟨hb,h l rfl,zaq h2⟩,trivial⟩
theorem kCq{P:HpW}{b e:Nat}{ty:TypeId}{o:Option (List W)}(hh:∀p∈P,p.1≠b)(nd:(P.map (·.1)).Nodup):((P++oH b ty e o).map (·.1)).Nodup:=by
 cases o with
 |none=>rw[show oH b ty e none=[] from rfl,ZU];exact nd
 |some l=>
  rw[show oH b ty e (some l)=[(b,ty,.arr (l.length*e) e l)] from rfl,Z5,List.nodup_append];refine⟨nd,by simp,λa ha c hc q=>?_⟩;obtain⟨p,h1,h2⟩:=Z1.1 ha;have:=hh p h1;simp only[ZC,List.map_nil,ZF,YG,or_false] at hc;omega
noncomputable def hdO(b:Nat)(hp:HpW):Option (List W) ->HpW
 |none=>hp
 |some _=>awq hp b
noncomputable def evO(b:Nat):Option (List W) ->EvW
 |none=>.gen
 |some _=>.updO b
section
variable {C:Cfg} {nw:Nat} {ts tx ty:TypeId} {j k:TyI} {x:W} {news:List W} {o:Option (List W)} {b:Nat} {hp:HpW}
theorem BCq{e:Nat}(he:e=k.size)(hj:C.ty ts=some j)(hd:j.d= .slice ty)(hk:C.ty ty=some k)(hz:Nat.beq k.size 0=false)(hs:aJq C hp tx k.size x=some news)(hn:news≠[])(h1:((o.getD []).length+news.length)*k.bytes<=140737488355328)(h2:(o.getD []).length+news.length<=70368744177664)(hg:oIn hp b ty e o):
  b5q C hp nw ts tx (oW b e o) x=some (.sl nw 0 0 (o.getD []++news).length e none,(nw,ty,.arr ((o.getD []++news).length*e) e (o.getD []++news))::hdO b hp o,nw+1,evO b o):=by
 subst he
 have hk0:0<k.size:=by
  rcases YS k.size with h0|h0
  .rw[h0] at hz;cases hz
  .exact h0
 have hnl:0<news.length:=by cases news with
  |nil=>exact absurd rfl hn
  |cons _ _=>simp
 cases o with
 |none=>
  simp only[YU,YD,ZN] at h1 h2;rw[show oW b k.size none= .nils from rfl,uUq hj hd hk hz hs hn h1 h2];rfl
 |some l=>
  simp only[Option.getD_some] at h1 h2
  rw[show oW b k.size (some l)= .sl b 0 0 l.length k.size none from rfl,qOq hj hd hk hz hs hn h1 h2 (hg l rfl) (by
   show l.length*k.size<0+(l.length+news.length)*k.size;rw[ZN];exact Nat.mul_lt_mul_of_pos_right Xd hk0) (vPq _) (zvq hk0 Y Y)]
  rw[Option.getD_some,Zj];rfl
theorem w9q{e:Nat}(he:e=k.size)(hj:C.ty ts=some j)(hd:j.d= .slice ty)(hk:C.ty ty=some k)(hz:Nat.beq k.size 0=false)(hs:aJq C hp tx k.size x=some []):b5q C hp nw ts tx (oW b e o) x=some (oW b e o,hp,nw,.gen):=by
 subst he;cases o with
 |none=>exact eJq hj hd hk hz hs
 |some l=>exact jPq hj hd hk hz hs
end
theorem mJq{hp:HpW}{b i:Nat}{o:Option (List W)}{y:TypeId×W}(hi:i≠b)(h:hget hp i=some y):hget (hdO b hp o) i=some y:=by
 cases o with
 |none=>exact h
 |some l=>
  show hget (awq hp b) i=some y;induction hp with
  |nil=>simp[hget] at h
  |cons p q ih=>
   obtain⟨c,z⟩:=p;rw[zeq] at h;show hget (match Nat.beq c b with|true=>q|false=>(c,z)::awq q b) i=_;cases e:Nat.beq c b with
   |true=>
    have:=Zh e;subst this;rw[Zg (λh=>hi h.symm)] at h;exact h
   |false=>
    simp only;rw[zeq];split at h
    .rename_i q;rw[Zt q];exact h
    .rename_i q;rw[Zg q];exact ih h
section
variable {fr:FrW} {hp:HpW}
theorem a0q{τ:Nat->Nat}{n:Nat}(hτ:∀i,i<n->τ i=i):∀{q:FrW},aqq fr q->aKq n q->sFq τ (n+1) fr q
 |[],_,_=>trivial
 |(t,w)::q,h,r=>⟨⟨by rw[uzq hτ r.1];exact h.1,xcq (YK _) r.1⟩,a0q hτ h.2 r.2⟩
theorem Qwq{τ:Nat->Nat}{n:Nat}(hτ:∀i,i<n->τ i=i):∀{q:HpW},eTq hp n q->Qlq τ (n+1) hp q
 |[],_=>trivial
 |(b,x)::q,h=>⟨⟨Nat.lt_succ_of_lt h.1.1,by rw[hτ b h.1.1,uzq hτ h.1.2.2];exact h.1.2.1,xcq (YK _) h.1.2.2⟩,Qwq hτ h.2⟩
end
structure AppQ(hp:HpW)(nw b:Nat)(ty:TypeId)(e:Nat)(u:Option (List W))(news:List W)(c:Nat)(hp':HpW)(nw':Nat):Prop where
 is:oIn hp' c ty e (oA u news)
 lt:c<nw'
 up:nw<=nw'
 old:∀i y,i≠b->i<nw->hget hp i=some y->hget hp' i=some y
 num:(news=[]/\c=b)\/(news≠[]/\c=nw)
theorem dBq{C:Cfg}{G:Nat->Option W}{o:Oper}{fr:FrW}{hp:HpW}{nw:Nat}{R:Res}{post:W->HpW->Nat->Res->Option EvW->Prop}(b:Nat){x y:Operand}{ts tx:TypeId}(ho:o.op= .call ⟨.builtin .append, #[x,y], #[ts,tx]⟩)(h:aeq C G o fr hp nw R λw hp' nw' R' ev=>ev=some .gen/\post w hp' nw' R' (some (.updO b))):aeq C G o fr hp nw R post:=λΓ X frv hnw s hf=>by
 obtain⟨n,w,hp',R',ev,v,h',Γ',X',⟨rfl,h1⟩,h2,⟨h3,h3'⟩,h4⟩:=h Γ X frv hnw s hf
 exact⟨n,w,hp',R',some (.updO b),v,h',Γ',X',h1,h2,⟨h3,λH1 e1 e2=>by
  rcases h3' H1 e1 e2 with q|⟨c,q⟩
  .exact .inl q
  .exfalso
   rw[ho] at q;revert q
   simp only[asq];split
   .intro q;cases q
   .split
    .intro q;cases q
    .intro q;cases q⟩,h4⟩
theorem f6q{C:Cfg}{G:Nat->Option W}{fr:FrW}{hp:HpW}{nw:Nat}{R:Res}{o:Oper}{ts tx ty:TypeId}{j k:TyI}{x y:Operand}{v:W}{u:Option (List W)}{news:List W}{b e:Nat}{post:W->HpW->Nat->Res->Option EvW->Prop}(ho:o.op= .call ⟨.builtin .append, #[x,y], #[ts,tx]⟩)(hx:evW C G fr x=some (oW b e u))(hy:evW C G fr y=some v)
  (he:e=k.size) (hj:C.ty ts=some j) (hd:j.d= .slice ty) (hk:C.ty ty=some k) (hz:Nat.beq k.size 0=false) (hs:aJq C hp tx k.size v=some news) (h1:((u.getD []).length+news.length)*k.bytes<=140737488355328) (h2:(u.getD []).length+news.length<=70368744177664) (hg:oIn hp b ty e u) (hb:b<nw)
  (h:∀c hp' nw',AppQ hp nw b ty e u news c hp' nw'->post (oW c e (oA u news)) hp' nw' R (some (.updO b))):aeq C G o fr hp nw R post:=by
 cases news with
 |nil=>
  have ha:aDq C G fr hp nw o.op=some (oW b e u,hp,nw,.gen):=by rw[ho];exact qaq hx hy (w9q he hj hd hk hz hs)
  exact dBq b ho (jvq ha ⟨rfl,h b hp nw ⟨hg,hb,Zc _,λ_ _ _ _ h=>h,.inl ⟨rfl,rfl⟩⟩⟩)
 |cons z zs=>
  have ha:aDq C G fr hp nw o.op=some (.sl nw 0 0 (u.getD []++z::zs).length e none,(nw,ty,.arr ((u.getD []++z::zs).length*e) e (u.getD []++z::zs))::hdO b hp u,nw+1,evO b u):=by
   rw[ho];exact qaq hx hy (BCq he hj hd hk hz hs Xi h1 h2 hg)
  have q:AppQ hp nw b ty e u (z::zs) nw ((nw,ty,.arr ((u.getD []++z::zs).length*e) e (u.getD []++z::zs))::hdO b hp u) (nw+1):=⟨λl hl=>by cases hl;rw[zeq,Zt rfl],YE _,YK _,λi y hi hn hy=>by rw[zeq,Zg Xd];exact mJq hi hy,.inr ⟨by simp,rfl⟩⟩;cases u with
  |none=>exact dBq b ho (jvq ha ⟨rfl,h _ _ _ q⟩)
  |some l=>exact jvq ha (h _ _ _ q)
theorem y0q{C:Cfg}{G:Nat->Option W}{o:Oper}{fr:FrW}{hp:HpW}{nw:Nat}{R:Res}{post:W->HpW->Nat->Res->Option EvW->Prop}(h:aeq C G o fr hp nw R λw hp' nw' R' ev=>∃hp2:HpW,(∀k y,hget hp2 k=some y->hget hp' k=some y)/\(hp2.map (·.1)).Nodup/\post w hp2 nw' R' ev):aeq C G o fr hp nw R post:=λΓ X frv hnw s hf=>by
 obtain⟨n,w,hp',R',ev,v,h',Γ',X',⟨hp2,hold,nd,h1⟩,h2,h3,h4,h5,h6,h7,h8⟩:=h Γ X frv hnw s hf;exact⟨n,w,hp2,R',ev,v,h',Γ',X',h1,h2,h3,h4,h5,⟨h6.wf,λk ty w h=>h6.own k ty w (hold _ _ h),λk k' y z hy hz e=>h6.inj k k' _ _ (hold _ _ hy) (hold _ _ hz) e,nd,h6.dX,h6.xlt,h6.dlt,h6.res,h6.gl⟩,h7.trans ⟨λ_ _=>rfl,λh=>h,Zc _,λ_ _ _ _=>rfl,λ_ h=>h,λ_ h=>.inl h,λk y _ h=>⟨y,hold _ _ h⟩,λk y hk h=>.inr ⟨k,y,hk,hold _ _ h,rfl⟩,λ_ h=>.inl h,λ_ h _ _=>h⟩,h8⟩
theorem hzq{A:HpW}{b e:Nat}{ty:TypeId}{o:Option (List W)}(h:∀p∈A,p.1≠b):∀k y,hget (A++oH b ty e o) k=some y->hget (oH b ty e o++A) k=some y:=λk y hy=>by
 cases o with
 |none=>rwa[show oH b ty e none=[] from rfl,ZU] at hy
 |some l=>
  rw[jUq] at hy;show hget ((b,_)::A) k=some y;rw[zeq];by_cases q:b=k
  .subst q;rw[y3q h] at hy;have hy:hget [(b,(ty,W.arr (l.length*e) e l))] b=some y:=hy;rw[zeq,Zt rfl] at hy;rw[Zt rfl];exact hy
  .rw[Zg q];cases e1:hget A k with
   |some z=>rw[e1] at hy;exact hy
   |none=>
    rw[e1] at hy;have hy:hget [(b,(ty,W.arr (l.length*e) e l))] k=some y:=hy;rw[zeq,Zg q] at hy;simp[hget] at hy
theorem dgq{b:Nat}:∀{l:List Nat} {hp:HpW},(∀k∈l,k≠b) ->hget (bVq l hp) b=hget hp b
 |[],_,_=>rfl
 |k::l,hp,h=>by
  show hget (bVq l (awq hp k)) b=_;rw[dgq λj hj=>h j (ZP _ hj),xPq (h k (ZS ..))]
theorem y8q{A:HpW}{b:Nat}{l:List Nat}(h:A.map (·.1)=l)(hb:b∉l):∀p∈A,p.1≠b:=λp hp e=>hb (h▸Z1.2 ⟨p,hp,e⟩)
theorem xNq{A:HpW}{n:Nat}{l:List Nat}(h:A.map (·.1)=l)(hb:∀k∈l,k<n):∀p∈A,p.1<n:=λp hp=>hb _ (h▸Z1.2 ⟨p,hp,rfl⟩)
section
variable {hp Q:HpW} {b k e e':Nat} {ty ty':TypeId} {o o':Option (List W)} {y:TypeId×W}
theorem z2q(hk:k≠b)(h:oIn hp b ty e o):oIn ((k,y)::hp) b ty e o:=λl hl=>by rw[zeq,Zg hk];exact h l hl
theorem kqq:oIn (oH b ty e o) b ty e o:=λl hl=>by
 subst hl;show hget ((b,_)::[]) b=_;rw[zeq,Zt rfl]
theorem B0q{ext:List Nat}{nw i:Nat}(hi:ext[i]? =some b)(hl:acq (o.getD [])=true)(h:oIn hp b ty e o):rrq ext nw hp (oH i ty e o):=by
 cases o with
 |none=>trivial
 |some l=>
  have h2:abq (.arr (l.length*e) e l)=true:=hl;exact⟨⟨(Zq.1 hi).1,zaq h2,b,hi,by rw[zfq h2];exact h l rfl⟩,trivial⟩
end
section
attribute [local irreducible] CoW OpW FlW aeq aiq
variable {G:Nat->Option W}
theorem wOq(l:List Tx)(f:Bool)(hl:l.length<=1000000000):yxq cfg G 86 0 [.fz (l.map txW) 99 f] [] λw hp nw=>(∃o:Option (List W),o.getD []=l.map txW/\w=oW 0 99 o/\hp=oH 0 72 99 o)/\nw=1:=by
 intro R;have e:(l.map txW).length=l.length:=Zd _;have hp:∀l:List Tx,acq (l.map txW)=true:=yfq qGq
 refine gIs 9 Y (λk0=>?_);first|refine yyq Y Y ?_|refine zsq rfl (juq Y Y Y Y Y (λbn hn=>?_))
 refine zhq 2 Y ?_;refine gS 0 Y (λh1=>?_) (λh1=>?_)
 .cases bn with
  |false=>cases h1
  |true=>
   obtain rfl:l=[]:=List.map_eq_nil_iff.1 (hn rfl);exact zPq 7 Y (fin Jm (ovq (fr2:=[(2,.nils)]) ⟨rfl,trivial⟩) rfl ⟨rfl,⟨none,rfl,rfl,rfl⟩,rfl⟩)
 .cases l with
  |nil=>
   skip
   exact zPq 6 Y (gM 0 Y (qaq Y Y (jPq Y Y Y Y Y)) (zcq 4 Y (fin Jm Ent.refl rfl ⟨rfl,⟨some [],rfl,rfl,rfl⟩,rfl⟩)))
  |cons c l=>
   have hpp:abq (.arr (((c::l).map txW).length*99) 99 ((c::l).map txW))=true:=hp (c::l);refine zPq 6 Y (gM 0 Y (qaq Y Y (qOq (len:=0) (news:=(c::l).map txW) (olds:=[]) (k:=s7q) Y Y Y Y Y Xi (by show(0+((c::l).map txW).length)*120<=_;rw[e];omega) Yp rfl (by show 0<0+(0+((c::l).map txW).length)*99;rw[e];simp only[Zv];omega) Y Y)) (zcq 4 Y ?_));refine fin Jm (qdq (b:=0) (k:=1) (fr2:=[(2,oW 0 99 (some ((c::l).map txW)))]) (hp2:=oH 0 72 99 (some ((c::l).map txW))) Xd Xd (by show 1<2;omega) ⟨⟨?_,rfl⟩,trivial⟩ ⟨⟨by omega,?_,zaq hpp⟩,trivial⟩ (by simp[oH])) rfl ⟨rfl,⟨some ((c::l).map txW),rfl,rfl,rfl⟩,rfl⟩
   .show some (W.sl 1 0 0 (0+((c::l).map txW).length) 99 none)=some (W.sl 1 0 0 ((c::l).map txW).length 99 none);rw[ZN]
   .rw[zfq hpp];show some (72,W.arr ((0+((c::l).map txW).length)*99) 99 ([]++(c::l).map txW))=some (72,W.arr (((c::l).map txW).length*99) 99 ((c::l).map txW));rw[ZN];rfl
end
theorem kVq{b:Nat}:∀{hp:HpW} {c:Nat},c≠b->hget (awq hp b) c=hget hp c
 |[],c,_=>rfl
 |(k,x)::l,c,h=>by
  simp only[awq];cases e:Nat.beq k b with
  |true=>
   have:=Zh e;subst this;simp only;rw[zeq,Zg (λq=>h q.symm)]
  |false=>
   simp only;rw[zeq,zeq,kVq h]
section
variable {C:Cfg} {G:Nat->Option W} {Γ:Ctx} {X:Nat->Prop} {R:Res}
theorem Els.one{e:Nat}{x:W}{u:V}(h1:RS Γ x (zlq u))(hx:x.size=e)(h2:u.size=e)(h3:u.leaf=true\/u.isAgg=true):Els Γ e [x] [u]:=by
 refine⟨rfl,by simpa using hx,by simpa using ⟨h2,h3⟩,?_⟩;have hl:(zlq u).length=e:=by rw[yOq,h2]
 have:z6q e [u]=zlq u++[]:=by
  simp only[z6q];rw[yiq hl]
 rw[this];exact qeq h1 (by simp[RSL])
theorem Els.split{e:Nat}:∀{ws:List W} {us:List V} (i:Nat),Els Γ e ws us->Els Γ e (ws.take i) (us.take i)/\Els Γ e (ws.drop i) (us.drop i)
 |[],us,i,h=>by
  have:us=[]:=Z4.1 (by rw[h.len];rfl);subst this;simp only[List.take_nil,List.drop_nil];exact⟨Els.nil _,Els.nil _⟩
 |x::l,us,0,h=>by
  simp only[List.take_zero,ZV];exact⟨Els.nil _,h⟩
 |x::l,us,i+1,h=>by
  have hx:=h.sz x (ZS ..);obtain⟨u,us',rfl,h1,h2,h3,h4⟩:=h.cons;obtain⟨k1,k2⟩:=Els.split i h4;simp only[List.take_succ_cons,List.drop_succ_cons];exact⟨(Els.one h1 hx h2 h3).append k1,k2⟩
theorem A9q{F:FuncId}{ts te:TypeId}{K BY:Nat}(hk:C.known F=some (aFq C ts te K BY)){j:TyI}(hj:C.ty ts=some j)(hd:j.d= .slice te)(hK:Nat.blt 0 K=true){olds news:List W}{ob nb:W}{n m i:Nat}(hs0:ysq 50 ob 0 n K=some olds)(hs1:ysq 50 nb 0 m K=some news)(hi:i<n)(hm:0<m)
  (hb:(n+m)*BY<=140737488355328) (hb2:n+m<=70368744177664):
  yxq C G F 2 [.sl 0 0 0 n K none,.int .i64 (i:Int),.sl 1 0 0 m K none] [(0,te,ob),(1,te,nb)]
   λw hp' nw'=>w= .sl 2 0 0 (n+m) K none/\hp'=[(2,te,.arr ((n+m)*K) K (olds.take i++(news++olds.drop i))),(1,te,nb)]/\nw'=3:=λR Γ X vs hnw s hv=>by
 obtain⟨v0,vs1,rfl,hv0,hv1⟩:=RVL_cons.1 hv;obtain⟨v1,vs2,rfl,hvi,hv2⟩:=RVL_cons.1 hv1;obtain⟨v2,vs3,rfl,hvx,hv3⟩:=RVL_cons.1 hv2;obtain rfl:=RVL_nil.1 hv3;obtain⟨hb0,rfl⟩:=RV_sl.1 hv0;obtain rfl:=RV_int.1 hvi;obtain⟨hb1,rfl⟩:=RV_sl.1 hvx;have hK0:0<K:=by simpa using hK
 have hg0:hget [(0,te,ob),(1,te,nb)] 0=some (te,ob):=rfl;have hg1:hget [(0,te,ob),(1,te,nb)] 1=some (te,nb):=rfl;obtain⟨bv,q1,q2,q3⟩:=qVq s hg0;obtain⟨nv,p1,p2,p3⟩:=qVq s hg1;obtain⟨us,g1,ho,g3⟩:=uxq q3 hs0;obtain⟨ns,f1,hn,f3⟩:=uxq p3 hs1
 have hne:Γ.σ 1≠Γ.σ 0:=λe=>by
  have:=s.inj 1 0 _ _ hg1 hg0 e;cases this
 have hml:(n+m)*K=(us.take i++(ns++us.drop i)).length*K:=by
  congr 1
  simp only[Zj,Zu,Zx,g3.len,f3.len];omega
 have hwl:(olds.take i++(news++olds.drop i)).length=n+m:=by
  simp only[Zj,Zu,Zx];omega
 obtain⟨e1,e2⟩:=g3.split i
 have ha:RV Γ (.arr ((n+m)*K) K (olds.take i++(news++olds.drop i))) (.arr ((n+m)*K) K (us.take i++(ns++us.drop i))):=by
  have:=(e1.append (f3.append e2)).arr;rw[hwl,<-hml] at this;exact this
 have hrun:aFq C ts te K BY [.sl (Γ.σ 0) 0 0 n K none,.int .i64 (i:Int),.sl (Γ.σ 1) 0 0 m K none] Γ.h=some (.sl Γ.h.next 0 0 (n+m) K none,(Γ.h.push (.cells te (.arr ((n+m)*K) K (us.take i++(ns++us.drop i))))).kill (Γ.σ 0)):=by
  show aFq C ts te K BY [.sl (Γ.σ 0) 0 0 n K none,.int .i64 (.ofNat i),.sl (Γ.σ 1) 0 0 m K none] Γ.h=_
  have hsv:fCq C Γ.h ts K (.sl (Γ.σ 1) 0 0 m K none)=some ns:=by
   unfold fCq;rw[hj];simp only[hd,p2,show Nat.beq K K=true by simp];exact f1
  have hin:Nat.beq i n=false:=by
   cases hq:Nat.beq i n with
   |true=>have:=Zh hq;omega
   |false=>rfl
  have hn1:Nat.beq (Γ.σ 1) (Γ.σ 0)=false:=by
   cases hq:Nat.beq (Γ.σ 1) (Γ.σ 0) with
   |true=>exact absurd (Zh hq) hne
   |false=>rfl
  have hlt:Nat.blt i n=true:=by simpa using hi
  cases ns with
  |nil=>have:=f3.len;simp only[YD] at this;omega
  |cons y ys=>
   simp only[aFq,hsv,hin,hlt,show Nat.beq K K=true by simp,hn1,Zl hb,Zl hb2,hK,Bool.and_self,Bool.not_false,q1,p1,show Nat.beq te te=true by simp,g1]
 have n1:=vcq s (ty:=te) ha;have le1:=Ylq s (.cells te (.arr ((n+m)*K) K (us.take i++(ns++us.drop i))))
 have hgb':hget ((Γ.nw,te,W.arr ((n+m)*K) K (olds.take i++(news++olds.drop i)))::[(0,te,ob),(1,te,nb)]) 0=some (te,ob):=by
  rw[zeq,Zg Xd];exact hg0
 obtain⟨le2,n2,f2⟩:=JSq n1.1 hgb';have hσ:(Γ.push (.cells te (.arr ((n+m)*K) K (us.take i++(ns++us.drop i))))).σ 0=Γ.σ 0:=le1.σ 0 hb0
 have hdl:awq ((Γ.nw,te,W.arr ((n+m)*K) K (olds.take i++(news++olds.drop i)))::[(0,te,ob),(1,te,nb)]) 0=[(Γ.nw,te,W.arr ((n+m)*K) K (olds.take i++(news++olds.drop i))),(1,te,nb)]:=by
  rw[hnw];rfl
 rw[hdl,hσ] at n2 f2;rw[hσ] at le2;refine⟨1,.sl Γ.h.next 0 0 (n+m) K none,_,X,.sl Γ.nw 0 0 (n+m) K none,_,R,?_,n2,by rw[<-hnw];exact n1.2.trans (f2.le (m':=Γ.nw) (YK _) (Zc _)),RV_sl.2 ⟨YE _,by simp[Ctx.push]⟩,rfl,by rw[hnw],by rw[hnw],by show Γ.nw+1=3;rw[hnw]⟩;simp only[yPq,hk,hrun];rfl
theorem bAq{F:FuncId}{ts te:TypeId}{K BY:Nat}(hk:C.known F=some (aFq C ts te K BY)){s x:W}{i nw nw' vb vbase voff m:Nat}{vlim:Option Nat}{hp hp':HpW}{a w:W}{l:List W}{ev:EvW}(hx:x= .sl vb vbase voff m K vlim)(hsrc:aJq C hp ts K x=some (a::l))(h:b5q C hp nw ts ts s x=some (w,hp',nw',ev))
  (hs:(s= .nils/\i=0)\/(∃b base off lim,s= .sl b base off i K lim)\/(s= .fz [] K true/\i=0)):
  yxq C G F nw [s,.int .i64 (i:Int),x] hp λw2 hp2 nw2=>w2=w/\hp2=hp'/\nw2=nw':=λR Γ X vs hnw sat hv=>by
 subst hx;subst hnw;obtain⟨v0,vs1,rfl,hv0,hv1⟩:=RVL_cons.1 hv;obtain⟨v1,vs2,rfl,hvi,hv2⟩:=RVL_cons.1 hv1;obtain⟨v2,vs3,rfl,hvx,hv3⟩:=RVL_cons.1 hv2;obtain rfl:=RVL_nil.1 hv3;obtain rfl:=RV_int.1 hvi;obtain⟨us,g1,g2⟩:=cuq sat hvx hsrc;obtain⟨v,h',Γ',f1,f2,_⟩:=iJq sat hv0 hvx h;obtain⟨hb1,rfl⟩:=RV_sl.1 hvx
 obtain⟨u,us',rfl⟩:∃u us',us=u::us':=by
  cases us with
  |nil=>have:=g2.len;simp at this
  |cons u us'=>exact⟨u,us',rfl⟩
 have hrun:aFq C ts te K BY [v0,.int .i64 (i:Int),.sl (Γ.σ vb) vbase voff m K vlim] Γ.h=some (v,h'):=by
  show aFq C ts te K BY [v0,.int .i64 (.ofNat i),.sl (Γ.σ vb) vbase voff m K vlim] Γ.h=_;rcases hs with ⟨rfl,rfl⟩|⟨b,base,off,lim,rfl⟩|⟨rfl,rfl⟩
  .obtain rfl:=RV_nils.1 hv0;simp only[aFq,g1,show Nat.beq 0 0=true by rfl];exact f1
  .obtain⟨_,rfl⟩:=RV_sl.1 hv0;simp only[aFq,g1,show Nat.beq i i=true by simp];exact f1
  .rcases kmq hv0 with ⟨_,rfl⟩|⟨b,base,off,lim,bv,us,rfl,_⟩
   .simp only[aFq,g1,show Nat.beq 0 0=true by rfl];exact f1
   .simp only[aFq,g1,YD,show Nat.beq 0 0=true by rfl];exact f1
 obtain⟨o1,o2,o3,o4,o5,o6⟩:=f2;subst o1;refine⟨1,v,Γ',X,w,hp',R,?_,o4,o5,o6,rfl,rfl,rfl,o2⟩;simp only[yPq,hk,hrun]
theorem dCq{o:Oper}{fr:FrW}{hp:HpW}{nw:Nat}{post:W->HpW->Nat->Res->Option EvW->Prop}{x:Operand}{xs:Array Operand}{ats:Array TypeId}{F:FuncId}{ts te:TypeId}{K BY:Nat}(hk:C.known F=some (aFq C ts te K BY)){j k:TyI}(hj:C.ty ts=some j)(hd:j.d= .slice te)(hkt:C.ty te=some k)(hKk:k.size=K)(hBk:k.bytes=BY)(hK:Nat.blt 0 K=true)
  {olds news:List W} {ob nb:W} {n m i b q:Nat} (nn:Bool) (ho:o.op= .call ⟨.value x,xs,ats⟩) (hx:evW C G fr x=some (.fn F [] [])) (he:C.ext F=none) (hxs:ayq C G fr xs.toList=some [match nn with|true=>.nils|false=>.sl b 0 0 n K none,.int .i64 (i:Int),.sl q 0 0 m K none])
  (h0:nn=true->n=0/\olds=[]) (h1:nn=false->hget hp b=some (te,ob)/\ysq 50 ob 0 n K=some olds/\ob.size=n*K/\abq ob=true/\b≠q/\b<nw) (hq:hget hp q=some (te,nb)) (hs1:ysq 50 nb 0 m K=some news) (hnp:abq nb=true) (hqn:q<nw) (hi:i<=n) (hm:0<m) (hml:news.length=m) (hol:olds.length=n) (hnp2:acq news=true) (hop:acq olds=true)
  (hb:(n+m)*BY<=140737488355328) (hb2:n+m<=70368744177664) (hp2:HpW) (hsub:∀c y,hget hp2 c=some y->(c=nw/\y=(te,.arr ((n+m)*K) K (olds.take i++(news++olds.drop i))))\/(c≠nw/\c≠q/\(nn=false->c≠b)/\hget hp c=some y)) (hnd:(hp2.map (·.1)).Nodup)
  (h:post (.sl nw 0 0 (n+m) K none) hp2 (nw+1) R (some .dirty)):aeq C G o fr hp nw R post:=by
 have hK0:0<K:=by simpa using hK
 have hnew:abq (.arr ((n+m)*K) K (olds.take i++(news++olds.drop i)))=true:=by
  show acq (olds.take i++(news++olds.drop i))=true;have e:=hop;rw[<-ZJ i olds,jBq,Zb] at e;rw[jBq,jBq,e.1,hnp2,e.2];rfl
 obtain⟨a,l,rfl⟩:∃a l,news=a::l:=by
  cases news with
  |nil=>simp only[YD] at hml;omega
  |cons a l=>exact⟨a,l,rfl⟩
 have hz:Nat.beq k.size 0=false:=by
  cases hq:Nat.beq k.size 0 with
  |true=>have:=Zh hq;omega
  |false=>rfl
 cases nn with
 |true=>
  obtain⟨rfl,rfl⟩:=h0 rfl;obtain rfl:i=0:=by omega
  have hb':=hb;have hb2':=hb2;rw[ZN] at hb' hb2'
  have hsrc:aJq C [(0,te,nb)] ts K (.sl 0 0 0 m K none)=some (a::l):=by
   unfold aJq;rw[hj];simp only[hd,YY];exact hs1
  have ha:=uUq (nw:=1) hj hd hkt hz (by rw[hKk];exact hsrc) Xi (by rw[hml,hBk];exact hb') (by rw[hml];exact hb2');rw[hKk,hml] at ha;have sp:=bAq (G:=G) hk (i:=0) rfl hsrc ha (.inl ⟨rfl,rfl⟩);refine y0q (zGq (ext:=[q]) (ws:=[.nils,.int .i64 (0:Int),.sl 0 0 0 m K none]) (hp0:=[(0,te,nb)]) ho hx he hxs rfl sp Xi (by simpa using hqn) Xi (λc ty w hc=>?_) Y ?_)
  .rw[zeq] at hc;split at hc
   .rename_i e;subst e;cases hc;exact⟨by simp,zaq hnp,q,rfl,by rw[zfq hnp];exact hq⟩
   .simp[hget] at hc
  .rintro w hp1 nw1 ⟨rfl,rfl,rfl⟩;refine⟨hp2,λc y hc=>?_,hnd,?_⟩
   .rcases hsub c y hc with ⟨ec,rfl⟩|⟨h1,h2,_,h3⟩
    .rw[ec];show hget ((nw+(1-1),te,adq _ _)::_) _=_;rw[zeq,Zt Xd];simp only[ZN,List.take_nil,List.drop_nil,YX,ZU] at hnew⊢;rw[zfq hnew]
    .show hget ((nw+(1-1),_)::(q,_)::awq hp q) c=_;rw[zeq,Zg Xd,zeq,Zg (λe=>h2 e.symm),kVq (λe=>h2 e)];exact h3
   .show post (.sl (nw+(1-1)) 0 0 m K none) hp2 (nw+(2-1)) R (some .dirty);rw[ZN] at h;exact h
 |false=>
  obtain⟨hg,hs0,hsz,hobp,hbq,hbn⟩:=h1 rfl
  have sp:yxq C G F 2 [.sl 0 0 0 n K none,.int .i64 (i:Int),.sl 1 0 0 m K none] [(0,te,ob),(1,te,nb)]
   λw hp' nw'=>w= .sl 2 0 0 (n+m) K none/\hp'=[(2,te,.arr ((n+m)*K) K (olds.take i++(a::l++olds.drop i))),(1,te,nb)]/\nw'=3:=by
   rcases ZM i n with hi|hi
   .exact A9q hk hj hd hK hs0 hs1 hi hm hb hb2
   .obtain rfl:i=n:=by omega
    have hsrc:aJq C [(0,te,ob),(1,te,nb)] ts K (.sl 1 0 0 m K none)=some (a::l):=by
     unfold aJq;rw[hj];simp only[hd,YY];exact hs1
    have ha:=qOq (nw:=2) (b:=0) (base:=0) (off:=0) (len:=i) (v:=ob) (olds:=olds) (ty:=te) hj hd hkt hz (by rw[hKk];exact hsrc) Xi (by rw[hml,hBk];omega) (by rw[hml];omega) rfl (by rw[hsz,hml,hKk,ZN];exact Nat.mul_lt_mul_of_pos_right Xd hK0) (vPq _) (by rw[hKk];exact hs0);rw[hKk,hml] at ha;have sp:=bAq (G:=G) hk (i:=i) rfl hsrc ha (.inr (.inl ⟨0,0,0,none,rfl⟩));have e1:olds.take i=olds:=Zm Xd;have e2:olds.drop i=[]:=ZW Xd;rw[e1,e2,ZU];exact sp
  refine y0q (zGq (ext:=[b,q]) (ws:=[.sl 0 0 0 n K none,.int .i64 (i:Int),.sl 1 0 0 m K none]) (hp0:=[(0,te,ob),(1,te,nb)]) ho hx he hxs rfl sp (by simpa using hbq) (by intro c hc;simp only[ZF,YG,or_false] at hc;omega) Xi (λc ty w hc=>?_) Y ?_)
  .rw[zeq] at hc;split at hc
   .rename_i e;subst e;cases hc;exact⟨by simp,zaq hobp,b,rfl,by rw[zfq hobp];exact hg⟩
   .rw[zeq] at hc;split at hc
    .rename_i e;subst e;cases hc;exact⟨by simp,zaq hnp,q,rfl,by rw[zfq hnp];exact hq⟩
    .simp[hget] at hc
  .rintro w hp1 nw1 ⟨rfl,rfl,rfl⟩;refine⟨hp2,λc y hc=>?_,hnd,?_⟩
   .rcases hsub c y hc with ⟨ec,rfl⟩|⟨h1,h2,h4,h3⟩
    .rw[ec];show hget ((nw+(2-2),te,adq _ _)::_) _=_;rw[zeq,Zt Xd,zfq hnew]
    .show hget ((nw+(2-2),_)::(q,_)::awq (awq hp b) q) c=_;rw[zeq,Zg Xd,zeq,Zg (λe=>h2 e.symm),kVq (λe=>h2 e),kVq (λe=>h4 rfl e)];exact h3
   .exact h
end
section
attribute [local irreducible] CoW OpW FlW aeq aiq
variable {G:Nat->Option W}
theorem d0q(x:Tx):PS cfg G 256 [txW x] (.int .u64 (x.nonce:Int)):=by
 exact gI 14 Y (λR k0=>gQa 0 Y)
noncomputable def AUq(l:List Tx)(f:Bool):W:=.agg 2 [.fz (l.map txW) 99 f,.fn 256 [] []]
theorem ZSq(l:Ln):PS cfg G 235 [lnW l] (AUq l.txs false):=by
 have hp:=qTq l.txs;exact gI 15 Y (λR k0=>gQa 0 Y)
def Cbq(l:List Tx):Prop:=∀(i j:Nat) x y,i<j->l[i]? =some x->l[j]? =some y->x.nonce<y.nonce
noncomputable def ahN(l:List Tx)(n:Nat):Nat:=(l.takeWhile λx=>decide (x.nonce<n)).length
theorem oLq:∀{l:List Tx} {n k:Nat},k<=l.length->(∀(j:Nat) x,j<k->l[j]? =some x->x.nonce<n) ->(∀(j:Nat) x,k<=j->l[j]? =some x->¬x.nonce<n) ->ahN l n=k
 |[],n,k,h,_,_=>by
  simp only[YD] at h;obtain rfl:k=0:=by omega
  rfl
 |x::l,n,0,_,_,h2=>by
  have:=h2 0 x (Zc _) rfl;simp[ahN,this]
 |x::l,n,k+1,h,h1,h2=>by
  have q:=h1 0 x Xd rfl;have:=oLq (l:=l) (n:=n) (k:=k) (by simpa using h) (λj y hj hy=>h1 (j+1) y Xd (by simpa using hy)) (λj y hj hy=>h2 (j+1) y Xd (by simpa using hy));unfold ahN at this⊢;rw[List.takeWhile_cons_of_pos (by simpa using q),Zv,this]
theorem Kkq(l:List Tx)(f:Bool)(n:Nat)(hs:Cbq l)(hl:l.length<=1000000000):PS cfg G 236 [AUq l f,.int .u64 (n:Int)] (.int .i64 (ahN l n:Int)):=by
 have e:(l.map txW).length=l.length:=Zd _;have hpl:=qTq l;refine gI 10 Y (λR k0=>gZ 0 Y e ?_);refine gLo (α:=Nat×Nat) 6 (λp=>p.1<=p.2/\p.2<=l.length/\(∀(j:Nat) x,j<p.1->l[j]? =some x->x.nonce<n)/\(∀(j:Nat) x,p.2<=j->l[j]? =some x->¬x.nonce<n)) (λp=>[(5,.int .i64 (p.1:Int)),(6,.int .i64 (p.2:Int))]) [1,2,4] (λp=>p.2-p.1) ((0,l.length)) rfl (⟨Zi _,Zc _,λj x h=>by omega,λj x h hx=>by have:=y2q hx;omega⟩) (λp hI=>?_);obtain⟨g1,g2,g3,g4⟩:=hI;refine gS 8 Y (λh1=>?_) (λh1=>?_)
 .obtain⟨x,hx⟩:∃x,l[(p.1+p.2)/2]? =some x:=⟨_,Za Xd⟩
  skip
  by_cases h:x.nonce<n
  .exact gA 7 Y (p.1+p.2) (gA 0 Y ((p.1+p.2)/2) (gP 10 Y (zyq (i:=(p.1+p.2)/2) Y Y Y Y Y Y Y (zgq txW hx)) (gC 1 Y (d0q x) (gT 1 Y (ltI_iff.2 Xd) (gA 5 Y ((p.1+p.2)/2+1) (gAg 3 Y (((p.1+p.2)/2+1,p.2)) (⟨by omega,g2,λj y hj hy=>by rcases ZM j ((p.1+p.2)/2) with q|q;exact Nat.lt_trans (hs j _ y x q hy hx) h;have q2:j=(p.1+p.2)/2:=Xd;subst q2;have:=ZB (hx.symm.trans hy);subst this;exact h,g4⟩) Xd))))))
  .exact gA 7 Y (p.1+p.2) (gA 0 Y ((p.1+p.2)/2) (gP 10 Y (zyq (i:=(p.1+p.2)/2) Y Y Y Y Y Y Y (zgq txW hx)) (gC 1 Y (d0q x) (gF 1 Y (ltI_not.2 Xd) (gAg 8 Y ((p.1,(p.1+p.2)/2)) (⟨by omega,by omega,g3,λj y hj hy=>by rcases ZM ((p.1+p.2)/2) j with q|q;exact λhn=>h (Nat.lt_trans (hs _ j x y q hx hy) hn);have q2:j=(p.1+p.2)/2:=Xd;subst q2;have:=ZB (hx.symm.trans hy);subst this;exact h⟩) Xd)))))
 .have e2:p.1=p.2:=by omega
  have e3:=oLq (l:=l) (n:=n) (k:=p.1) Xd g3 (λj x hj hx=>g4 j x Xd hx);exact gO 2 Y (gQ 9 Y (by rw[e3]))
end
section
theorem krq{A X B:HpW}{n:Nat}(hA:∀p∈A,p.1<n)(hX:∀p∈X,n<=p.1)(hB:∀p∈B,n<=p.1/\∀q∈X,q.1≠p.1):∀k y,hget (A++B) k=some y->hget ((X++B)++A) k=some y:=λk y h=>by
 rw[jUq] at h;rw[jUq,jUq];by_cases q:k<n
 .have x1:hget X k=none:=y3q λp hp e=>by have:=hX p hp;omega
  have x2:hget B k=none:=y3q λp hp e=>by have:=(hB p hp).1;omega
  rw[x2] at h;rw[x1,x2];cases e:hget A k with
  |none=>rw[e] at h;exact h
  |some z=>rw[e] at h;exact h
 .have x1:hget A k=none:=y3q λp hp e=>by have:=hA p hp;omega
  rw[x1] at h⊢;cases e:hget X k with
  |none=>
   have h:hget B k=some y:=h;rw[h];rfl
  |some z=>
   exfalso
   have h:hget B k=some y:=h;have hb:∃p∈B,p.1=k:=YR λq=>by rw[y3q λp hp e=>q ⟨p,hp,e⟩] at h;cases h
   obtain⟨p,hp,rfl⟩:=hb;rw[y3q λq hq e=>(hB p hp).2 q hq e] at e;cases e
attribute [local irreducible] CoW OpW FlW aeq aiq
variable {G:Nat->Option W}
noncomputable def lnO(k:Dig)(b:Nat)(o:Option (List W)):W:=.agg 33 [dW k,oW b 99 o]
theorem Yvq(τ:Nat->Nat)(k:Dig)(b:Nat)(o:Option (List W)):adq τ (lnO k b o)=lnO k (τ b) o:=by
 show W.agg 33 [adq τ (dW k),adq τ (oW b 99 o)]=_;rw[zfq (qhq k),lOq];rfl
theorem JOq(l:Ln)(hl:l.txs.length<=1000000000):yxq cfg G 205 0 [lnW l] [] λw hp nw=>(∃o:Option (List W),o.getD []=l.txs.map txW/\w=lnO l.who 2 o/\hp=[(1,133,lnO l.who 2 o),(0,133,lnW l)]++oH 2 72 99 o)/\nw=3:=by
 have hpx:=qTq l.txs;intro R;refine gIs 12 Y (λk0=>?_)
 (refine qmq rfl (y0q (a4q Y Y Y Y Y Yc (wOq l.txs false hl) ?_));rintro w hp1 nw1 ⟨⟨o,ho,rfl,rfl⟩,rfl⟩;have hpb:acq (o.getD [])=true:=(by rw[ho];exact qTq _);rw[lOq,Ziq _ _ _ _ hpb,show afq [] 2 0=2 from rfl];refine⟨_,hzq (y8q (l:=[1,0]) rfl Xg),kCq (y8q (l:=[1,0]) rfl Xg) (show [1,0].Nodup by decide),rfl,?_⟩)
 refine jOq rfl ((show _=some (lnO l.who 2 o) from by cases o<;>rfl)) ?_;exact yhq 4 Y (fin Jm Ent.refl rfl ⟨rfl,⟨o,ho,rfl,rfl⟩,rfl⟩)
@[simp] theorem Aiq(l:List Tx)(f:Bool):abq (AUq l f)=true:=by
 show(acq (l.map txW)&&(abq (.fn _ [] [])&&true))=true;rw[qTq];rfl
theorem LnM.srt{l:Ln}(h:LnM l):Cbq l.txs:=by
 intro i j x y hij hx hy;induction j generalizing y with
 |zero=>omega
 |succ j ih=>
  obtain⟨z,hz⟩:∃z,l.txs[j]? =some z:=⟨_,Za (by have:=y2q hy;omega)⟩
  have h1:z.nonce<y.nonce:=(h.2 (j+1) y hy).2 z Xd (by simpa using hz);rcases ZI.1 hij with q|rfl
  .exact Nat.lt_trans (ih z q hz) h1
  .have:=ZB (hx.symm.trans hz);subst this;exact h1
theorem oKq(l:List Tx)(n:Nat):ahN l n<=l.length:=by
 unfold ahN;exact(List.takeWhile_sublist _).length_le
noncomputable def ln0:W:=.agg 33 [.arr 32 1 (List.replicate 32 (.int .u8 (.ofNat 0))),.nils]
noncomputable def i4q(l:Ln)(x:Tx):Ln:=⟨l.who,l.txs.take (ahN l.txs x.nonce)++x::l.txs.drop (ahN l.txs x.nonce)⟩
noncomputable def Afq(l:Ln)(x:Tx):Ln:=⟨l.who,l.txs.set (ahN l.txs x.nonce) x⟩
theorem tZq{k:Dig}{b:Nat}{o:Option (List W)}:zYq 50 (lnO k b o) 32 1 false=some (oW b 99 o):=by cases o<;>rfl
theorem tYq{k:Dig}{b c:Nat}{o:Option (List W)}{L:List W}:yoq 50 (lnO k b o) 32 (oW c 99 (some L))=some (lnO k c (some L)):=by cases o<;>rfl
theorem Z6q{C:Cfg}{G:Nat->Option W}{R:Res}{o:Oper}{fr:FrW}{hp:HpW}{nw:Nat}{post:W->HpW->Nat->Res->Option EvW->Prop}{x:Operand}{xs:Array Operand}{ats:Array TypeId}{F:FuncId}{ts te:TypeId}{K BY:Nat}(hk:C.known F=some (aFq C ts te K BY)){j k:TyI}(hj:C.ty ts=some j)(hd:j.d= .slice te)(hkt:C.ty te=some k)(hKk:k.size=K)(hBk:k.bytes=BY)(hK:Nat.blt 0 K=true)
  {u:Option (List W)} {y nb:W} {i b q:Nat} (ho:o.op= .call ⟨.value x,xs,ats⟩) (hx:evW C G fr x=some (.fn F [] [])) (he:C.ext F=none) (hxs:ayq C G fr xs.toList=some [oW b K u,.int .i64 (i:Int),.sl q 0 0 1 K none])
  (hu:oIn hp b te K u) (hup:acq (u.getD [])=true) (hq:hget hp q=some (te,nb)) (hs1:ysq 50 nb 0 1 K=some [y]) (hnp:abq nb=true) (hy:abq y=true) (hbq:b≠q) (hbn:b<nw) (hqn:q<nw) (hi:i<=(u.getD []).length) (hb:((u.getD []).length+1)*BY<=140737488355328) (hb2:(u.getD []).length+1<=70368744177664)
  (P:HpW) (hP:∀c z,hget P c=some z->c≠q/\c≠b/\hget hp c=some z) (hPn:∀p∈P,p.1≠nw) (hnd:(P.map (·.1)).Nodup)
  (h:∀L,L=(u.getD []).take i++y::(u.getD []).drop i->post (oW nw K (some L)) ((nw,te,.arr (L.length*K) K L)::P) (nw+1) R (some .dirty)):aeq C G o fr hp nw R post:=by
 have hK0:0<K:=by simpa using hK
 have el:((u.getD []).take i++y::(u.getD []).drop i).length=(u.getD []).length+1:=by
  simp only[Zj,Zu,Zv,Zx];omega
 have h:=h _ rfl;rw[el] at h;have h:post (.sl nw 0 0 ((u.getD []).take i++y::(u.getD []).drop i).length K none) ((nw,te,.arr (((u.getD []).length+1)*K) K ((u.getD []).take i++(y::(u.getD []).drop i)))::P) (nw+1) R (some .dirty):=h;rw[el] at h
 have hsub:∀c z,hget ((nw,te,W.arr (((u.getD []).length+1)*K) K ((u.getD []).take i++(y::(u.getD []).drop i)))::P) c=some z->(c=nw/\z=(te,.arr (((u.getD []).length+1)*K) K ((u.getD []).take i++(y::(u.getD []).drop i))))\/(c≠nw/\c≠q/\c≠b/\hget hp c=some z):=λc z hz=>by
  rw[zeq] at hz;split at hz
  .rename_i e;cases hz;exact .inl ⟨e.symm,rfl⟩
  .rename_i e;obtain⟨p1,p2,p3⟩:=hP c z hz;exact .inr ⟨λq=>e q.symm,p1,p2,p3⟩
 have hnd2:(((nw,te,W.arr (((u.getD []).length+1)*K) K ((u.getD []).take i++(y::(u.getD []).drop i)))::P:HpW).map (·.1)).Nodup:=by
  rw[ZC,Y0];refine⟨λhm=>?_,hnd⟩;obtain⟨p,hp,e⟩:=Z1.1 hm;exact hPn p hp e
 cases u with
 |none=>
  exact dCq (olds:=[]) (news:=[y]) (ob:=.undef) (n:=0) (b:=0) (i:=i) hk hj hd hkt hKk hBk hK true ho hx he hxs (λ_=>⟨rfl,rfl⟩) (λh=>by cases h) hq hs1 hnp hqn hi Xg Y Y (by simp[acq,hy]) rfl hb hb2 _ (λc z hz=>(hsub c z hz).imp id λ⟨p1,p2,p3,p4⟩=>⟨p1,p2,λh=>Qs,p4⟩) hnd2 h
 |some L=>
  have hL:acq L=true:=hup;exact dCq (olds:=L) (news:=[y]) (ob:=.arr (L.length*K) K L) (n:=L.length) (b:=b) (i:=i) hk hj hd hkt hKk hBk hK false ho hx he hxs (λh=>by cases h) (λ_=>⟨hu L rfl,zvq hK0 Y Y,rfl,hL,hbq,hbn⟩) hq hs1 hnp hqn hi Xg Y Y (by simp[acq,hy]) hL hb hb2 _ (λc z hz=>(hsub c z hz).imp id λ⟨p1,p2,p3,p4⟩=>⟨p1,p2,λ_=>p3,p4⟩) hnd2 h
theorem ogq:cfg.known 237=some (aFq cfg 35 72 99 120):=by kernel_rfl
theorem JAq(l:Ln)(o:Option (List W))(hpb:acq (o.getD [])=true):alq (afq [] 3) ([(1,133,lnO l.who 2 o),(0,133,lnW l)]++oH 2 72 99 o)=[(4,133,lnO l.who 5 o),(3,133,lnW l)]++oH 5 72 99 o:=by
 rw[Yfq,Ziq _ _ _ _ hpb,alq,alq,Yvq,zfq (qXq l)];rfl
theorem dPq(l:Ln)(x:Tx)(o:Option (List W)):∀c z,hget [(2,133,lnO l.who 5 o),(1,72,txW x),(0,133,lnW l)] c=some z->c≠6/\c≠5/\hget ((6,72,txW x)::([(2,133,lnO l.who 5 o),(1,72,txW x),(0,133,lnW l)]++oH 5 72 99 o)) c=some z:=λc z h=>by
 have hc:c=2\/c=1\/c=0:=YR λq=>by
  rw[y3q λp hp e=>q (by rcases ZF.1 hp with rfl|hp;exact .inl e.symm;rcases ZF.1 hp with rfl|hp;exact .inr (.inl e.symm);simp only[ZF,YG,or_false] at hp;subst hp;exact .inr (.inr e.symm))] at h;cases h
 refine⟨by omega,by omega,?_⟩;rw[zeq,Zg Xd];exact QOq h
theorem cQq{l:List W}{i:Nat}{y:W}(h:acq l=true)(hy:abq y=true):acq (l.take i++y::l.drop i)=true:=by
 rw[<-ZJ i l,jBq,Zb] at h;rw[jBq,h.1];show(true&&(abq y&&acq (l.drop i)))=true;rw[hy,h.2];rfl
section
variable (l:Ln) (x:Tx) (hx:∀y∈l.txs,y.ok) (ok:x.ok) (hm:LnM l) (ho:fAq x l.who)
include hx ok hm ho
theorem pHq{y:Tx}(hy:l.txs[ahN l.txs x.nonce]? =some y)(hn:y.nonce=x.nonce)(hf:x.fee<=y.fee):PS cfg glK 206 [lnW l,txW x] (.tup [ln0,.nils,.int .i64 190]):=by
 have hlen:=hm.1;have e:(l.txs.map txW).length=l.txs.length:=Zd _;have hat:=y2q hy;refine gIv 14 Y (λR k0=>gC 0 Y (zoq (w':=.int .i64 0) (knq l hx Xd) Xv) (gF 0 Y (Ze not (eqI_iff.2 (rfl))) (gC 9 Y (zoq (w':=.bool true) (bqq x ok l.who) Yr) (gC 11 Y (ZSq l) (gC 2 Y (Kkq l.txs false x.nonce hm.srt Xd) (zcq 6 Y ?_))))))
 (refine zsq rfl (y0q (yMq Y Y Y Y Y Yc (JOq l Xd) ?_));rintro w hp1 nw1 ⟨⟨o,hoo,rfl,rfl⟩,rfl⟩;have hpb:acq (o.getD [])=true:=(by rw[hoo];exact qTq _);rw[Yvq,JAq l o hpb,show afq [] 3 2=5 from rfl];refine⟨_,krq (n:=3) (xNq (l:=[2,1,0]) rfl Xg) Xi (λp hp=>by rw[qWq p hp];simp),kCq (y8q (l:=[2,1,0]) rfl Xg) (show [2,1,0].Nodup by decide),?_⟩)
 exact zhq 9 Y (gZ 0 Y e (gT 0 Y (ltI_iff.2 Xd) (gP 4 Y (zyq (i:=ahN l.txs x.nonce) Y Y Y Y Y Y Y (zgq txW hy)) (gT 4 Y (eqI_iff.2 Xd) (gP 12 Y (zyq (i:=ahN l.txs x.nonce) Y Y Y Y Y Y Y (zgq txW hy)) (gT 2 Y (Ze not (ltI_not.2 Xd)) (zcq 14 Y (yTq Jm rfl (.pur rfl)))))))))
theorem pGq{y:Tx}(hy:l.txs[ahN l.txs x.nonce]? =some y)(hn:y.nonce=x.nonce)(hf:¬x.fee<=y.fee):PS cfg glK 206 [lnW l,txW x] (.tup [lnW (Afq l x),.fz [txW y] 99 false,.int .i64 0]):=by
 have hlen:=hm.1;have e:(l.txs.map txW).length=l.txs.length:=Zd _;have hat:=y2q hy;have e2:(Afq l x).txs.map txW=(l.txs.map txW).set (ahN l.txs x.nonce) (txW x):=List.map_set;have hps:acq ((l.txs.map txW).set (ahN l.txs x.nonce) (txW x))=true:=e2▸qTq _
 refine gIv 14 Y (λR k0=>gC 0 Y (zoq (w':=.int .i64 0) (knq l hx Xd) Xv) (gF 0 Y (Ze not (eqI_iff.2 (rfl))) (gC 9 Y (zoq (w':=.bool true) (bqq x ok l.who) Yr) (gC 11 Y (ZSq l) (gC 2 Y (Kkq l.txs false x.nonce hm.srt Xd) (zcq 6 Y ?_))))))
 (refine zsq rfl (y0q (yMq Y Y Y Y Y Yc (JOq l Xd) ?_));rintro w hp1 nw1 ⟨⟨o,hoo,rfl,rfl⟩,rfl⟩;have hpb:acq (o.getD [])=true:=(by rw[hoo];exact qTq _);rw[Yvq,JAq l o hpb,show afq [] 3 2=5 from rfl];refine⟨_,krq (n:=3) (xNq (l:=[2,1,0]) rfl Xg) Xi (λp hp=>by rw[qWq p hp];simp),kCq (y8q (l:=[2,1,0]) rfl Xg) (show [2,1,0].Nodup by decide),?_⟩;obtain rfl:o=some (l.txs.map txW):=(by cases o with|none=>exact absurd (hoo.symm▸e:([]:List W).length=_) Yu|some L=>exact Ze some hoo))
 refine zhq 9 Y (gZ 0 Y e (gT 0 Y (ltI_iff.2 Xd) (gP 4 Y (zyq (i:=ahN l.txs x.nonce) Y Y Y Y Y Y Y (zgq txW hy)) (gT 4 Y (eqI_iff.2 Xd) (gP 12 Y (zyq (i:=ahN l.txs x.nonce) Y Y Y Y Y Y Y (zgq txW hy)) (gF 2 Y (Ze not (ltI_iff.2 Xd)) (gP 11 Y (qbq (i:=ahN l.txs x.nonce) Y Y Y Y Y Y Y (by rw[e];exact hat)) ?_)))))))
 (refine zsq rfl (u1q (n:=(l.txs.map txW).length) (e:=99) Y Y Y Y Y Y Y (zgq txW hy) Y Y Y Y Xg ?_))
 refine zhq 8 Y (gP 0 Y (zyq (i:=ahN l.txs x.nonce) Y Y Y Y Y Y Y (zgq txW hy)) (zcq 1 Y (vqq Y Y Xp (vqq rfl (qrq Y Y Y Y Y Y Y) Xp (yhq 6 Y ?_)))));refine yTq Jm rfl (.tup (.cons (.agg (.cons (.pur (qhq _)) (.cons ?_ .nil))) (.cons ?_ (.cons (.pur rfl) .nil))))
 .rw[e2];exact .sl (full:=false) (c:=.arr ((l.txs.map txW).length*99) 99 ((l.txs.map txW).set (ahN l.txs x.nonce) (txW x))) rfl hps (zvq Xg (by rw[YL]) rfl) Xk
 .exact .sl (full:=false) (c:=txW y) rfl (qGq y) rfl Xk
theorem gKq(h256:l.txs.length<256)(hn:∀y,l.txs[ahN l.txs x.nonce]? =some y->y.nonce≠x.nonce):PS cfg glK 206 [lnW l,txW x] (.tup [lnW (i4q l x),.nils,.int .i64 0]):=by
 have e:(l.txs.map txW).length=l.txs.length:=Zd _;by_cases hat:ahN l.txs x.nonce<l.txs.length
 .obtain⟨y,hy⟩:∃y,l.txs[ahN l.txs x.nonce]? =some y:=⟨_,Za hat⟩
  have hny:=hn y hy;refine gIv 14 Y (λR k0=>gC 0 Y (zoq (w':=.int .i64 0) (knq l hx Xd) Xv) (gF 0 Y (Ze not (eqI_iff.2 (rfl))) (gC 9 Y (zoq (w':=.bool true) (bqq x ok l.who) Yr) (gC 11 Y (ZSq l) (gC 2 Y (Kkq l.txs false x.nonce hm.srt Xd) (zcq 6 Y ?_))))))
  (refine zsq rfl (y0q (yMq Y Y Y Y Y Yc (JOq l Xd) ?_));rintro w hp1 nw1 ⟨⟨o,hoo,rfl,rfl⟩,rfl⟩;have hpb:acq (o.getD [])=true:=(by rw[hoo];exact qTq _);rw[Yvq,JAq l o hpb,show afq [] 3 2=5 from rfl];refine⟨_,krq (n:=3) (xNq (l:=[2,1,0]) rfl Xg) Xi (λp hp=>by rw[qWq p hp];simp),kCq (y8q (l:=[2,1,0]) rfl Xg) (show [2,1,0].Nodup by decide),?_⟩)
  refine zhq 9 Y (gZ 0 Y e (gT 0 Y (ltI_iff.2 Xd) (gP 4 Y (zyq (i:=ahN l.txs x.nonce) Y Y Y Y Y Y Y (zgq txW hy)) (gF 4 Y (eqI_not.2 Xd) (gZ 11 Y e (gF 0 Y (eqI_not.2 Xd) (gM 8 Y (z7q Y Y Y tZq) (zcq 3 Y ?_))))))))
  (refine zsq rfl (Z6q (j:=Aaq) (k:=s7q) (y:=txW x) (nb:=txW x) (b:=5) ogq Y Y Y Y Y Y Y Y Y Y (z2q Xg (z2q Xg (xiq (y8q (l:=[1,0]) rfl Xg)))) hpb Y Y (qGq x) (qGq x) Xg Xg Xg (by rw[hoo,e];exact oKq _ _) (by rw[hoo,e];show _*120<=_;omega) (by rw[hoo,e];omega) [(2,133,lnO l.who 5 o),(1,72,txW x),(0,133,lnW l)] (dPq l x o) Xi Xi ?_);intro L hL)
  refine yyq Y Y (jbq rfl (qrq Y Y Y Y Y tYq rfl) ?_);refine zhq 11 Y ?_;refine yTq Jm rfl (.tup (.cons (.agg (.cons (.pur (qhq _)) (.cons ?_ .nil))) (.cons (.pur rfl) (.cons (.pur rfl) .nil))));rw[show(i4q l x).txs.map txW=L from by rw[hL,hoo,i4q,Z5,List.map_take,ZC,List.map_drop]];exact .sl (full:=false) (c:=.arr (L.length*99) 99 L) rfl (show acq L=true by rw[hL];exact cQq hpb (qGq x)) (zvq Xg Y Y) Xk
 .skip
  refine gIv 14 Y (λR k0=>gC 0 Y (zoq (w':=.int .i64 0) (knq l hx Xd) Xv) (gF 0 Y (Ze not (eqI_iff.2 (rfl))) (gC 9 Y (zoq (w':=.bool true) (bqq x ok l.who) Yr) (gC 11 Y (ZSq l) (gC 2 Y (Kkq l.txs false x.nonce hm.srt Xd) (zcq 6 Y ?_))))))
  (refine zsq rfl (y0q (yMq Y Y Y Y Y Yc (JOq l Xd) ?_));rintro w hp1 nw1 ⟨⟨o,hoo,rfl,rfl⟩,rfl⟩;have hpb:acq (o.getD [])=true:=(by rw[hoo];exact qTq _);rw[Yvq,JAq l o hpb,show afq [] 3 2=5 from rfl];refine⟨_,krq (n:=3) (xNq (l:=[2,1,0]) rfl Xg) Xi (λp hp=>by rw[qWq p hp];simp),kCq (y8q (l:=[2,1,0]) rfl Xg) (show [2,1,0].Nodup by decide),?_⟩)
  refine zhq 9 Y (gZ 0 Y e (gF 0 Y (ltI_not.2 Xd) (gZ 21 Y e (gF 0 Y (eqI_not.2 Xd) (gM 8 Y (z7q Y Y Y tZq) (zcq 3 Y ?_))))))
  (refine zsq rfl (Z6q (j:=Aaq) (k:=s7q) (y:=txW x) (nb:=txW x) (b:=5) ogq Y Y Y Y Y Y Y Y Y Y (z2q Xg (z2q Xg (xiq (y8q (l:=[1,0]) rfl Xg)))) hpb Y Y (qGq x) (qGq x) Xg Xg Xg (by rw[hoo,e];exact oKq _ _) (by rw[hoo,e];show _*120<=_;omega) (by rw[hoo,e];omega) [(2,133,lnO l.who 5 o),(1,72,txW x),(0,133,lnW l)] (dPq l x o) Xi Xi ?_);intro L hL)
  refine yyq Y Y (jbq rfl (qrq Y Y Y Y Y tYq rfl) ?_);refine zhq 11 Y ?_;refine yTq Jm rfl (.tup (.cons (.agg (.cons (.pur (qhq _)) (.cons ?_ .nil))) (.cons (.pur rfl) (.cons (.pur rfl) .nil))));rw[show(i4q l x).txs.map txW=L from by rw[hL,hoo,i4q,Z5,List.map_take,ZC,List.map_drop]];exact .sl (full:=false) (c:=.arr (L.length*99) 99 L) rfl (show acq L=true by rw[hL];exact cQq hpb (qGq x)) (zvq Xg Y Y) Xk
end
end
section
attribute [local irreducible] CoW OpW FlW aeq aiq
variable {G:Nat->Option W}
theorem ljq{α:Type}{q:α->Bool}:∀{l:List α} {k:Nat},k<=l.length->(∀(j:Nat) x,j<k->l[j]? =some x->q x=true) ->(∀x,l[k]? =some x->q x=false) ->(l.takeWhile q).length=k
 |[],k,h,_,_=>by
  simp only[YD] at h;obtain rfl:k=0:=by omega
  rfl
 |x::l,0,_,_,h2=>by
  have:=h2 x rfl;simp[this]
 |x::l,k+1,h,h1,h2=>by
  rw[List.takeWhile_cons_of_pos (h1 0 x Xd rfl),Zv,ljq (k:=k) (by simpa using h) (λj y hj hy=>h1 (j+1) y Xd (by simpa using hy)) (λy hy=>h2 y (by simpa using hy))]
noncomputable def fndK(s:Shd)(k:Dig):Nat:=(s.takeWhile λl=>yKq l.who k).length
theorem hPq(s:Shd)(k:Dig):fndK s k<=s.length:=by
 unfold fndK;exact(List.takeWhile_sublist _).length_le
def aRq(s:Shd)(k:Dig):Prop:=∃l,s[fndK s k]? =some l/\l.who=k
noncomputable instance(s:Shd)(k:Dig):Decidable (aRq s k):=Classical.propDecidable _
theorem hXq(l:Ln)(k:Dig):PS cfg G 259 [lnW l,.fel (dW k)] (.bool (!yKq l.who k)):=by
 exact gI 11 Y (λR k0=>gC 0 Y (Kjq l.who k) (gQa 5 Y))
theorem hwq(s:Shd)(f:Bool)(k:Dig)(hn:s.length<=1000000000):PS cfg G 145 [.fz (s.map lnW) 33 f,.fn 259 [] [.fel (dW k)]] (.int .i64 (if fndK s k<s.length then(fndK s k:Int) else-1)):=by
 have e:(s.map lnW).length=s.length:=Zd _;refine gI 9 Y (λR k0=>gZ 0 Y e ?_);refine gLo (α:=Nat) 4 (λi=>i<=s.length/\∀(j:Nat) x,j<i->s[j]? =some x->yKq x.who k=true) (λi=>[(8,.int .i64 (i:Int))]) [0,1,4,7] (λi=>s.length-i) (0) rfl (⟨Zi _,λj x h=>by omega⟩) (λi hI=>?_);obtain⟨g1,g2⟩:=hI;refine gS 6 Y (λh1=>?_) (λh1=>?_)
 .obtain⟨x,hx⟩:∃x,s[i]? =some x:=⟨_,Za Xd⟩
  skip
  cases hk:yKq x.who k with
  |false=>
   have hf:fndK s k=i:=ljq g1 g2 (λy hy=>by obtain rfl:=ZB (hx.symm.trans hy);exact hk);exact zPq 15 Y (gP 0 Y (zyq (i:=i) Y Y Y Y Y Y Y (zgq lnW hx)) (gC 1 Y (zoq (w':=.bool true) (hXq x k) (by rw[hk];rfl)) (gO 12 Y (gQ 2 Y (by rw[hf,Zt Xd])))))
  |true=>
   exact zPq 15 Y (gP 0 Y (zyq (i:=i) Y Y Y Y Y Y Y (zgq lnW hx)) (gC 1 Y (zoq (w':=.bool false) (hXq x k) (by rw[hk];rfl)) (gA 7 Y (i+1) (gAg 2 Y (i+1) (⟨by omega,λj y hj hy=>by rcases ZI.1 hj with q|rfl;exact g2 j y q hy;exact ZB (hx.symm.trans hy)▸hk⟩) Xd))))
 .have hf:fndK s k=s.length:=ljq (Zc _) (λj x hj hx=>g2 j x Xd hx) (λy hy=>by have:=y2q hy;omega);exact gO 2 Y (gQ 8 Y (by rw[hf,Zg Xd]))
theorem YKq(s:Shd)(k:Dig)(hn:s.length<=1000000000):PS cfg G 238 [.fel (shdW s),dW k] (.tup [.int .i64 (fndK s k:Int),.bool (decide (aRq s k))]):=by
 have e:(s.map lnW).length=s.length:=Zd _;have hps:=y7q s;have hv:∀{hp:HpW},apq hp 0=some (dW k) ->ViewL (apq hp) [.fz (s.map lnW) 33 false,.fn 259 [] [.ptr 0 0]] [.fz (s.map lnW) 33 false,.fn 259 [] [.fel (dW k)]]:=λq=>.cons (.pur hps) (.cons (.fn .nil (.cons (yYq q (qhq k) rfl) .nil)) .nil)
 have hpa:acq [.fz (s.map lnW) 33 false,.fn 259 [] [.fel (dW k)]]=true:=by simp[acq,abq]
 by_cases h0:fndK s k<s.length
 .obtain⟨l,hl⟩:∃l,s[fndK s k]? =some l:=⟨_,Za h0⟩
  by_cases hw:l.who=k
  .skip
   exact gI 15 Y (λR k0=>ulq Y Y Y Y Y (hv rfl) (zoq (w':=.int .i64 (fndK s k:Int)) (hwq s false k hn) (by rw[Zt h0])) hpa Y (zhq 7 Y (gF 0 Y (ltI_not.2 Xd) (gP 14 Y (zyq (i:=fndK s k) Y Y Y Y Y Y Y (zgq lnW hl)) (zcq 3 Y (jcq (w':=.bool true) rfl (yIq Y Y Y Y (yzq Y Y Y Y Y Y l.who k 250)) (by rw[Zn hw]) (yhq 5 Y (gQ 0 Y (by rw[Zn (show aRq s k from⟨l,hl,hw⟩)])))))))))
  .skip
   exact gI 15 Y (λR k0=>ulq Y Y Y Y Y (hv rfl) (zoq (w':=.int .i64 (fndK s k:Int)) (hwq s false k hn) (by rw[Zt h0])) hpa Y (zhq 7 Y (gF 0 Y (ltI_not.2 Xd) (gP 14 Y (zyq (i:=fndK s k) Y Y Y Y Y Y Y (zgq lnW hl)) (zcq 3 Y (jcq (w':=.bool false) rfl (yIq Y Y Y Y (yzq Y Y Y Y Y Y l.who k 250)) (by rw[Zo hw]) (yhq 5 Y (gQ 0 Y (by rw[Zo (show¬aRq s k from λ⟨y,hy,q⟩=>hw (by obtain rfl:=ZB (hl.symm.trans hy);exact q))])))))))))
 .have h1:fndK s k=s.length:=Nat.le_antisymm (hPq s k) Xd;exact gI 15 Y (λR k0=>ulq Y Y Y Y Y (hv rfl) (zoq (w':=.int .i64 (-1)) (hwq s false k hn) (by rw[Zg h0])) hpa Y (zhq 7 Y (gT 0 Y (ltI_iff.2 Xd) (gZ 10 Y e (gQ 6 Y (by rw[Zo (show¬aRq s k from λ⟨y,hy,_⟩=>h0 (y2q hy)),h1]))))))
noncomputable def kEq(s:Shd)(k:Dig):Ln:=match s[fndK s k]? with
 |some l=>if l.who=k then l else⟨k,[]⟩
 |none=>⟨k,[]⟩
theorem t0q(s:Shd)(k:Dig)(hn:s.length<=1000000000):PS cfg G 207 [.fel (shdW s),dW k] (lnW (kEq s k)):=by
 have hps:=y7q s;by_cases h:aRq s k
 .obtain⟨l,hl,hw⟩:=h;have el:kEq s k=l:=by unfold kEq;rw[hl];exact Zt hw
  refine gIv 10 Y (λR k0=>gC 0 Y (zoq (w':=.tup [.int .i64 (fndK s k:Int),.bool true]) (YKq s k hn) (by rw[Zn (show aRq s k from⟨l,hl,hw⟩)])) (gP 25 Y (zyq (i:=fndK s k) Y Y Y Y Y Y Y (zgq lnW hl)) (zcq 5 Y ?_)));rw[el];exact yTq Jm rfl (.pur (qXq l))
 .have el:kEq s k=⟨k,[]⟩:=by
   unfold kEq;split
   .rename_i l hl;exact Zg λhw=>h ⟨l,hl,hw⟩
   .rfl
  refine gIv 10 Y (λR k0=>gC 0 Y (zoq (w':=.tup [.int .i64 (fndK s k:Int),.bool false]) (YKq s k hn) (by rw[Zo h])) (zcq 24 Y ?_));rw[el];exact yTq Jm rfl (.agg (.cons (.pur (qhq k)) (.cons .nilfz .nil)))
noncomputable def ptO(b:Nat)(o:Option (List W)):W:=.agg 1 [oW b 33 o]
theorem xhq(τ:Nat->Nat)(b:Nat)(o:Option (List W)):adq τ (ptO b o)=ptO (τ b) o:=by
 show W.agg 1 [adq τ (oW b 33 o)]=_;rw[lOq];rfl
theorem xKq{n b:Nat}{o:Option (List W)}(h:b<n):agq n (ptO b o)=true:=by
 show(agq n (oW b 33 o)&&true)=true;rw[pCq h];rfl
theorem AQq{b:Nat}{o:Option (List W)}:zYq 50 (ptO b o) 0 1 false=some (oW b 33 o):=by cases o<;>rfl
theorem APq{b c:Nat}{o:Option (List W)}{L:List W}:yoq 50 (ptO b o) 0 (oW c 33 (some L))=some (ptO c (some L)):=by cases o<;>rfl
theorem kHq{hp:HpW}{b c:Nat}{o:Option (List W)}{s:Shd}(h0:apq hp b=some (ptO c o))(ho:o.getD []=s.map lnW)(hi:oIn hp c 133 33 o):View (apq hp) (.ptr b 0) (.fel (shdW s)):=
 .ptr2 (n:=1) (ag:=true) (c':=shdW s) h0 (.agg (.cons (by have:=aXq Xg (by rw[ho];exact y7q s) hi;rw[ho] at this;exact this) .nil)) rfl
theorem plq(s:Shd)(hl:s.length<=1000000000)(hx:∀l∈s,l.txs.length<=1000000000):yxq cfg G 149 0 [shdW s] [] λw hp nw=>(∃o:Option (List W),o.getD []=s.map lnW/\w=ptO 2 o/\hp=[(1,131,ptO 2 o),(0,131,shdW s)]++oH 2 133 33 o)/\nw=3:=by
 have hpp:=JPq s;have hps:=y7q s;have e:(s.map lnW).length=s.length:=Zd _;intro R;refine gIs 10 Y (λk0=>?_);skip
 refine gSo 0 Y (yMq Y Y Y Y Y Yc (hkq s false hl) ?_);rintro w hp1 nw1 (⟨rfl,rfl,rfl,rfl⟩|⟨rfl,rfl,rfl⟩)
 .skip
  skip
  refine gL 10 Y ?_;refine gLo (α:=Nat) 4 (λi=>i=0) (λi=>[(12,.int .i64 (i:Int))]) [2,3,11] (λi=>0) (0) rfl (rfl) (λi hI=>?_);subst hI;exact gO 9 Y (zcq 9 Y (fin Jm (zDq (nw2:=3) (fr2:=[(2,.ptr 1 0)]) (hp2:=[(1,131,ptO 2 none),(0,131,shdW [])]) Xg (Zc _) ⟨rfl,trivial⟩ rfl (ztq ⟨⟨by decide,rfl,rfl⟩,⟨by decide,rfl,rfl⟩,trivial⟩) Xi) rfl ⟨rfl,⟨none,rfl,rfl,rfl⟩,rfl⟩))
 .rw[z3q hpp];refine gL 10 Y ?_;refine gLo (α:=Nat) 4 (λi=>i<=s.length) (λi=>[(12,.int .i64 (i:Int))]) [2,3,11] (λi=>s.length-i) (0) rfl (Zi _) (λi hI=>?_);refine gS 6 Y (λh1=>?_) (λh1=>?_)
  .have hi:i<s.length:=by omega
   obtain⟨x,hxi⟩:∃x,s[i]? =some x:=⟨_,Za hi⟩
   refine gP 17 Y (qbq (i:=i) Y Y Y Y Y Y Y hi) ?_
   (refine qmq rfl (Z7q (n:=s.length) (e:=33) Y Y Y Y Y Y e (zgq lnW hxi) Y Y Xg ?_);refine⟨by kernel_rfl,?_⟩)
   refine mWq (hjq x (hx x (Zf hxi))) (jOq rfl (qbq (i:=i) Y Y Y Y Y Y Y hi) ?_)
   (refine qmq rfl (u1q (n:=s.length) (e:=33) Y Y Y Y Y Y e (zgq lnW hxi) Y Y Y Y Xg ?_);rw[k8q (zgq lnW hxi)];refine⟨by kernel_rfl,?_⟩)
   exact yhq 4 Y (gA 0 Y (i+1) (gAg 2 Y (i+1) (hi) Xd))
  .exact gO 2 Y (zcq 9 Y (fin Jm (zDq (nw2:=3) (fr2:=[(2,.ptr 1 0)]) (hp2:=[(1,131,ptO 2 (some (s.map lnW))),(0,131,shdW s),(2,133,.arr ((s.map lnW).length*33) 33 (s.map lnW))]) Xg Xg ⟨rfl,trivial⟩ rfl (ztq ⟨⟨by decide,by show some (_,W.agg 1 [W.sl 2 0 0 s.length 33 none])=some (_,W.agg 1 [W.sl 2 0 0 (s.map lnW).length 33 none]);rw[e],rfl⟩,⟨by decide,rfl,zaq (k7q s)⟩,⟨by decide,by rw[e];rfl,zaq (show abq (.arr _ 33 (s.map lnW))=true from hps)⟩,trivial⟩) Xi) rfl ⟨rfl,⟨some (s.map lnW),rfl,rfl,rfl⟩,rfl⟩))
end
theorem lSq{α:Type}{R:α->α->Prop}(tr:∀{a b c},R a b->R b c->R a c):∀{l:List α},(∀(i:Nat) a b,l[i]? =some a->l[i+1]? =some b->R a b) ->l.Pairwise R
 |[],_=>.nil
 |[x],_=>.cons (λ_ h=>by cases h) .nil
 |x::y::l,h=>by
  have ih:(y::l).Pairwise R:=lSq (R:=R) tr (λi a b ha hb=>h (i+1) a b ha hb);have hxy:R x y:=h 0 x y Y Y;refine .cons (λz hz=>?_) ih;rcases ZF.1 hz with rfl|hz
  .exact hxy
  .exact tr hxy ((List.pairwise_cons.1 ih).1 z hz)
theorem gHq{α:Type}{R:α->α->Prop}{l:List α}(h:l.Pairwise R){i j:Nat}{a b:α}(hij:i<j)(ha:l[i]? =some a)(hb:l[j]? =some b):R a b:=by
 obtain⟨hi,rfl⟩:=Zq.1 ha;obtain⟨hj,rfl⟩:=Zq.1 hb;exact List.pairwise_iff_getElem.1 h i j hi hj hij
theorem fPq{α:Type}{q:α->Bool}:∀{l:List α},l.take (l.takeWhile q).length=l.takeWhile q
 |[]=>rfl
 |x::l=>by
  cases hq:q x with
  |true=>rw[List.takeWhile_cons_of_pos hq,Zv,List.take_succ_cons,fPq]
  |false=>rw[List.takeWhile_cons_of_neg (by rw[hq];decide)];rfl
theorem nRq{α:Type}{q:α->Bool}{a:α}:∀{l:List α},a∈l.takeWhile q->q a=true
 |[],h=>by cases h
 |x::l,h=>by
  cases hq:q x with
  |true=>
   rw[List.takeWhile_cons_of_pos hq] at h;rcases ZF.1 h with rfl|h
   .exact hq
   .exact nRq h
  |false=>rw[List.takeWhile_cons_of_neg (by rw[hq];decide)] at h;cases h
theorem n6q{α:Type}{R:α->α->Prop}(tr:∀{a b c},R a b->R b c->R a c){q:α->Bool}{l:List α}{x:α}(h:l.Pairwise R)(h1:∀a∈l,q a=true->R a x)(h2:∀a,l[(l.takeWhile q).length]? =some a->R x a):
  (l.take (l.takeWhile q).length++x::l.drop (l.takeWhile q).length).Pairwise R:=by
 have ht:l.take (l.takeWhile q).length=l.takeWhile q:=fPq
 have hb:∀b∈l.drop (l.takeWhile q).length,R x b:=λb hb=>by
  obtain⟨j,hj,e⟩:=List.mem_drop_iff_getElem.1 hb;have hk:(l.takeWhile q).length<l.length:=by omega
  have ha:=h2 _ (Za hk);rcases YS j with rfl|hp
  .exact e▸ha
  .exact tr ha (gHq h (i:=(l.takeWhile q).length) (j:=(l.takeWhile q).length+j) Xd (Za hk) (by rw[Za Xd];exact Ze some e))
 have ha:∀a∈l.take (l.takeWhile q).length,R a x:=λa ha=>by
  rw[ht] at ha;exact h1 a ((List.takeWhile_sublist _).mem ha) (nRq ha)
 rw[List.pairwise_append];refine⟨h.sublist (List.take_sublist _ _),.cons hb (h.sublist (List.drop_sublist _ _)),λa qa b qb=>?_⟩;rcases ZF.1 qb with rfl|qb
 .exact ha a qa
 .exact tr (ha a qa) (hb b qb)
theorem mem_ins{α:Type}{l:List α}{n:Nat}{x y:α}:y∈l.take n++x::l.drop n↔y=x\/y∈l:=by
 constructor
 .intro h;rcases ZT.1 h with h|h
  .exact .inr (ZH h)
  .rcases ZF.1 h with h|h
   .exact .inl h
   .exact .inr (ZD h)
 .rintro(rfl|h)
  .exact List.mem_append_right _ (ZS ..)
  .rw[<-ZJ n l] at h;rcases ZT.1 h with h|h
   .exact List.mem_append_left _ h
   .exact List.mem_append_right _ (ZP _ h)
theorem JMq{α:Type}{l:List α}{n:Nat}{x y:α}(h:y∈l.set n x):y=x\/y∈l:=(List.mem_or_eq_of_mem_set h).symm
theorem o3q{α:Type}{q:α->Bool}:∀{l:List α} {a:α},l[(l.takeWhile q).length]? =some a->q a=false
 |[],a,h=>by simp at h
 |x::l,a,h=>by
  cases hq:q x with
  |true=>
   rw[List.takeWhile_cons_of_pos hq,Zv] at h;exact o3q (by simpa using h)
  |false=>
   rw[List.takeWhile_cons_of_neg (by rw[hq];decide)] at h;have h:x=a:=by simpa using h
   rw[<-h];exact hq
noncomputable def gmq(s:Shd)(l:Ln):Shd:=if aRq s l.who then s.set (fndK s l.who) l else s.take (fndK s l.who)++l::s.drop (fndK s l.who)
noncomputable def pJq(l:Ln)(x:Tx):Option Ln:=match l.txs[ahN l.txs x.nonce]? with
 |some y=>if y.nonce=x.nonce then(if x.fee<=y.fee then none else some (Afq l x)) else some (i4q l x)
 |none=>some (i4q l x)
structure GoodL(n i m:Nat)(l:Ln):Prop where
 own:∀x∈l.txs,fAq x l.who/\x.ok
 srt:l.txs.Pairwise λa b=>a.nonce<b.nonce
 len:l.txs.length<=m
 at_:atE l.who n=i
structure GoodS(n i m:Nat)(s:Shd):Prop where
 line:∀l∈s,GoodL n i m l/\l.txs≠[]
 keys:s.Pairwise λa b=>yKq a.who b.who=true
 len:s.length<=m
section
variable {n i m:Nat} {s:Shd} {l:Ln} {x:Tx} {k:Dig}
theorem GoodL.up(h:GoodL n i m l):GoodL n i (m+1) l:=⟨h.own,h.srt,by have:=h.len;omega,h.at_⟩
theorem JQq(s:Shd)(k:Dig):(aRq s k/\s[fndK s k]? =some (kEq s k)/\(kEq s k).who=k)\/(¬aRq s k/\kEq s k=⟨k,[]⟩):=by
 by_cases h:aRq s k
 .obtain⟨l,hl,hw⟩:=h;have el:kEq s k=l:=by unfold kEq;rw[hl];exact Zt hw
  rw[el];exact .inl ⟨⟨l,hl,hw⟩,hl,hw⟩
 .refine .inr ⟨h,?_⟩;unfold kEq;split
  .rename_i l hl;exact Zg λhw=>h ⟨l,hl,hw⟩
  .rfl
theorem hmq(s:Shd)(k:Dig):(kEq s k).who=k:=by
 rcases JQq s k with ⟨_,_,h⟩|⟨_,h⟩
 .exact h
 .rw[h]
theorem e9q(h:GoodS n i m s)(hk:atE k n=i):GoodL n i m (kEq s k):=by
 rcases JQq s k with ⟨_,h1,_⟩|⟨_,h1⟩
 .exact(h.line _ (Zf h1)).1
 .rw[h1];exact⟨λx hx=>by simp at hx,.nil,Zi _,hk⟩
theorem bmq(h:GoodL n i m l)(ho:fAq x l.who)(hx:x.ok)(hn:∀y,l.txs[ahN l.txs x.nonce]? =some y->y.nonce≠x.nonce):GoodL n i (m+1) (i4q l x):=by
 refine⟨λy hy=>?_,?_,?_,h.at_⟩
 .rcases mem_ins.1 hy with rfl|hy
  .exact⟨ho,hx⟩
  .exact h.own y hy
 .refine n6q (q:=λy:Tx=>decide (y.nonce<x.nonce)) (R:=λa b:Tx=>a.nonce<b.nonce) (λh1 h2=>Nat.lt_trans h1 h2) h.srt (λa _ q=>by simpa using q) (λa ha=>?_);have h1:=hn a ha;have h2:decide (a.nonce<x.nonce)=false:=o3q (q:=λx_1:Tx=>decide (x_1.nonce<x.nonce)) ha;have h2:¬a.nonce<x.nonce:=of_decide_eq_false h2;omega
 .have:=h.len;show(l.txs.take _++x::l.txs.drop _).length<=_;simp only[Zj,Zu,Zv,Zx];omega
theorem gMq(h:GoodL n i m l)(ho:fAq x l.who)(hx:x.ok){y:Tx}(hy:l.txs[ahN l.txs x.nonce]? =some y)(hn:y.nonce=x.nonce):GoodL n i (m+1) (Afq l x):=by
 refine⟨λz hz=>?_,?_,?_,h.at_⟩
 .rcases JMq hz with rfl|hz
  .exact⟨ho,hx⟩
  .exact h.own z hz
 .have e:(l.txs.set (ahN l.txs x.nonce) x).map Tx.nonce=l.txs.map Tx.nonce:=by
   rw[List.map_set];exact k8q (by rw[ZY,hy,<-hn];rfl)
  have h2:(l.txs.map Tx.nonce).Pairwise (· < ·):=List.pairwise_map.2 h.srt;rw[<-e] at h2;exact List.pairwise_map.1 h2
 .have:=h.len;show(l.txs.set _ x).length<=_;rw[YL];omega
theorem lLq{y:Ln}(hy:y∈gmq s l):y=l\/y∈s:=by
 unfold gmq at hy;split at hy
 .exact JMq hy
 .exact mem_ins.1 hy
theorem glq(h:GoodS n i m s)(hl:GoodL n i (m+1) l)(ht:l.txs≠[]):GoodS n i (m+1) (gmq s l):=by
 refine⟨λy hy=>?_,?_,?_⟩
 .rcases lLq hy with rfl|hy
  .exact⟨hl,ht⟩
  .exact⟨(h.line y hy).1.up,(h.line y hy).2⟩
 .unfold gmq;split
  .rename_i q;obtain⟨z,hz,hw⟩:=q
   have e:(s.set (fndK s l.who) l).map Ln.who=s.map Ln.who:=by
    rw[List.map_set];exact k8q (by rw[ZY,hz,<-hw];rfl)
   have h2:(s.map Ln.who).Pairwise (λa b=>yKq a b=true):=List.pairwise_map.2 h.keys;rw[<-e] at h2;exact List.pairwise_map.1 h2
  .rename_i q;refine n6q (R:=λa b:Ln=>yKq a.who b.who=true) (λh1 h2=>Qdq h1 h2) h.keys (λa _ q=>q) (λa ha=>?_);have h1:yKq a.who l.who=false:=o3q (q:=λl_1:Ln=>yKq l_1.who l.who) ha;rcases Qeq (a:=a.who) (b:=l.who) (λe=>q ⟨a,ha,e⟩) with h2|h2
   .rw[h1] at h2;cases h2
   .exact h2
 .have:=h.len;unfold gmq;split
  .rw[YL];omega
  .simp only[Zj,Zu,Zv,Zx];omega
theorem GoodS.up(h:GoodS n i m s):GoodS n i (m+1) s:=⟨λl hl=>⟨(h.line l hl).1.up,(h.line l hl).2⟩,h.keys,by have:=h.len;omega⟩
theorem pIq{l':Ln}(h:GoodL n i m l)(ho:fAq x l.who)(hx:x.ok)(he:pJq l x=some l'):GoodL n i (m+1) l'/\l'.txs≠[]/\l'.who=l.who:=by
 unfold pJq at he;split at he
 .rename_i y hy;split at he
  .rename_i hn;split at he
   .cases he
   .cases he;refine⟨gMq h ho hx hy hn,λq=>?_,rfl⟩;have:(l.txs.set (ahN l.txs x.nonce) x).length=0:=by rw[show l.txs.set (ahN l.txs x.nonce) x=[] from q];rfl
    rw[YL] at this;have:=y2q hy;omega
  .rename_i hn;cases he;exact⟨bmq h ho hx (λz hz=>by obtain rfl:=ZB (hy.symm.trans hz);exact hn),by simp[i4q],rfl⟩
 .rename_i hy;cases he;exact⟨bmq h ho hx (λz hz=>by rw[hy] at hz;cases hz),by simp[i4q],rfl⟩
end
section
attribute [local irreducible] CoW OpW FlW aeq aiq
variable {G:Nat->Option W}
theorem waq:cfg.known 241=some (aFq cfg 129 133 33 56):=by kernel_rfl
noncomputable def ptH(c:Nat)(o:Option (List W)):HpW:=(0,358,ptO c o)::oH c 133 33 o
theorem gPq{x y z:TypeId×W}{Q:HpW}:∀c u,hget [(2,x),(0,y)] c=some u->c≠3/\c≠1/\hget ((3,z)::(2,x)::(0,y)::Q) c=some u:=λc u hc=>by
 have h:=hc;rw[zeq] at h;split at h
 .rename_i q;subst q;cases h;exact⟨by decide,by decide,rfl⟩
 .rw[zeq] at h;split at h
  .rename_i q;subst q;cases h;exact⟨by decide,by decide,rfl⟩
  .simp[hget] at h
theorem tCq(s:Shd)(l:Ln)(o:Option (List W))(ho:o.getD []=s.map lnW)(ht:l.txs≠[])(hl:l.txs.length<=1000)(hn:s.length<=1000):yxq cfg G 210 2 [.ptr 0 0,lnW l] (ptH 1 o) λw hp nw=>w= .tup []/\(∃c o',(c=1\/c=2)/\o'.getD []=(gmq s l).map lnW/\hp=ptH c o')/\nw=3:=by
 have e:(s.map lnW).length=s.length:=Zd _;have e2:(l.txs.map txW).length=l.txs.length:=Zd _;have hps:=y7q s;have hpx:=qTq l.txs;have h0:l.txs.length≠0:=λq=>ht (Z4.1 q)
 have hpa:acq [.fel (shdW s),dW l.who]=true:=by simp[acq,abq]
 intro R;by_cases h:aRq s l.who
 .obtain⟨z,hz,hw⟩:=h;have hlt:=y2q hz
  have e3:(gmq s l).map lnW=(s.map lnW).set (fndK s l.who) (lnW l):=by
   unfold gmq;rw[Zt ⟨z,hz,hw⟩,List.map_set]
  have hps2:acq ((s.map lnW).set (fndK s l.who) (lnW l))=true:=e3▸y7q _
  obtain rfl:o=some (s.map lnW):=by
   cases o with
   |none=>exact absurd (ho.symm▸e:([]:List W).length=_) Yu
   |some L=>exact Ze some ho
  refine gIs 17 Y (λk0=>?_);refine ulq Y Y Y Y Y (.cons (kHq rfl ho (z2q Xg (z2q Xg kqq))) (.cons (.pur (qhq l.who)) .nil)) (zoq (w':=.tup [.int .i64 (fndK s l.who:Int),.bool true]) (YKq s l.who Xd) (by rw[Zn (show aRq s l.who from⟨z,hz,hw⟩)])) hpa Y (zhq 14 Y (gZ 0 Y e2 (gF 0 Y (eqI_not.2 Xd) (gP 20 Y (qbq (i:=fndK s l.who) Y Y Y Y Y Y Y (by rw[e];exact hlt)) ?_))))
  (refine qmq rfl (u1q (n:=(s.map lnW).length) (e:=33) Y Y Y Y Y Y Y (zgq lnW hz) Y Y Y Y Xg ?_);refine⟨by kernel_rfl,?_⟩)
  exact yhq 2 Y (fin (.inl rfl) (zDq (nw2:=3) (fr2:=[]) (hp2:=ptH 1 (some ((s.map lnW).set (fndK s l.who) (lnW l)))) Xg Xg trivial rfl (ztq ⟨⟨by decide,by show some (_,W.agg 1 [W.sl 1 0 0 (s.map lnW).length 33 none])=some (_,W.agg 1 [W.sl 1 0 0 ((s.map lnW).set (fndK s l.who) (lnW l)).length 33 none]);rw[YL],xKq Xg⟩,⟨by decide,by rw[YL];rfl,zaq (show abq (.arr _ 33 ((s.map lnW).set (fndK s l.who) (lnW l)))=true from hps2)⟩,trivial⟩) (by simp[ptH,oH])) rfl ⟨rfl,rfl,⟨1,some ((s.map lnW).set (fndK s l.who) (lnW l)),.inl rfl,e3.symm,rfl⟩,rfl⟩)
 .have e3:(gmq s l).map lnW=(s.map lnW).take (fndK s l.who)++lnW l::(s.map lnW).drop (fndK s l.who):=by
   unfold gmq;rw[Zg h,Z5,List.map_take,ZC,List.map_drop]
  have hle:=hPq s l.who;have hop:acq (o.getD [])=true:=ho▸hps
  refine gIs 17 Y (λk0=>?_);refine ulq Y Y Y Y Y (.cons (kHq rfl ho (z2q Xg (z2q Xg kqq))) (.cons (.pur (qhq l.who)) .nil)) (zoq (w':=.tup [.int .i64 (fndK s l.who:Int),.bool false]) (YKq s l.who Xd) (by rw[Zo h])) hpa Y (zhq 32 Y (gZ 0 Y e2 (gT 0 Y (ltI_iff.2 Xd) (gM 10 Y (z7q Y Y Y AQq) (zcq 3 Y ?_)))))
  (refine qmq rfl (Z6q (j:=pcq) (k:=lqq) (y:=lnW l) (nb:=lnW l) (b:=1) waq Y Y Y Y Y Y Y Y Y Y (z2q Xg (z2q Xg (z2q Xg kqq))) hop Y Y (qXq l) (qXq l) Xg Xg Xg (by rw[ho,e];exact hle) (by rw[ho,e];show _*56<=_;omega) (by rw[ho,e];omega) [(2,133,lnW l),(0,358,ptO 1 o)] gPq Xi Xi ?_);intro L hL;refine⟨by kernel_rfl,?_⟩)
  refine yhq 3 Y (gM 0 Y (qrq Y Y Y Y Y APq rfl) (zcq 2 Y ?_));have hpl:abq (.arr (L.length*33) 33 L)=true:=by show acq L=true;rw[hL];exact cQq hop (qXq l)
  exact fin (.inl rfl) (qdq (b:=2) (k:=4) (fr2:=[]) (hp2:=ptH 2 (some L)) Xg Xg Xg trivial ⟨⟨by decide,by rw[xhq];rfl,xKq Xg⟩,⟨by decide,by rw[zfq hpl];rfl,zaq hpl⟩,trivial⟩ (by simp[ptH,oH])) rfl ⟨rfl,rfl,⟨2,some L,.inr rfl,by rw[e3,<-ho];exact hL,rfl⟩,rfl⟩
end
section
attribute [local irreducible] CoW OpW FlW aeq aiq
section
variable {G:Nat->Option W}
theorem t1q(s:Shd)(k:Dig)(o:Option (List W))(ho:o.getD []=s.map lnW)(hn:s.length<=1000000000):yxq cfg G 207 2 [.ptr 0 0,dW k] (ptH 1 o) λw hp nw=>w=lnW (kEq s k)/\hp=(3,133,lnW (kEq s k))::ptH 1 o/\nw=4:=by
 have e:(s.map lnW).length=s.length:=Zd _;have hps:=y7q s;have hpo:acq (o.getD [])=true:=ho▸hps
 have hpa:acq [.fel (shdW s),dW k]=true:=by simp[acq,abq]
 have hv:∀{P:HpW},oIn P 1 133 33 o->hget P 0=some (358,ptO 1 o) ->ViewL (apq P) [.ptr 0 0,dW k] [.fel (shdW s),dW k]:=λh1 h2=>.cons (kHq (by unfold apq;rw[h2]) ho h1) (.cons (.pur (qhq k)) .nil)
 intro R;rcases JQq s k with ⟨h1,h2,h3⟩|⟨h1,h2⟩
 .have hlt:=y2q h2
  obtain rfl:o=some (s.map lnW):=by
   cases o with
   |none=>exact absurd (ho.symm▸e:([]:List W).length=_) Yu
   |some L=>exact Ze some ho
  refine gIs 10 Y (λk0=>?_);refine ulq Y Y Y Y Y (hv (z2q Xg (z2q Xg (z2q Xg kqq))) rfl) (zoq (w':=.tup [.int .i64 (fndK s k:Int),.bool true]) (YKq s k hn) Qp) hpa Y (zhq 25 Y (gP 0 Y (qbq (i:=fndK s k) Y Y Y Y Y Y Y (by rw[e];exact hlt)) ?_))
  (refine zsq rfl (Z7q (n:=(s.map lnW).length) (e:=33) Y Y Y Y Y Y Y (zgq lnW h2) Y Y Xg ?_))
  exact zhq 4 Y (fin Jm (zDq (nw2:=4) (fr2:=[(4,.ptr 3 0)]) (hp2:=(3,133,lnW (kEq s k))::ptH 1 (some (s.map lnW))) Xg Xg ⟨rfl,trivial⟩ rfl (ztq ⟨⟨by decide,rfl,zaq (qXq _)⟩,⟨by decide,rfl,xKq Xg⟩,⟨by decide,rfl,zaq (show abq (.arr _ 33 (s.map lnW))=true from hps)⟩,trivial⟩) (by simp[ptH,oH])) rfl ⟨rfl,rfl,rfl,rfl⟩)
 .rw[h2];refine gIs 10 Y (λk0=>?_);refine ulq Y Y Y Y Y (hv (z2q Xg (z2q Xg (z2q Xg kqq))) rfl) (zoq (w':=.tup [.int .i64 (fndK s k:Int),.bool false]) (YKq s k hn) (by rw[Zo h1])) hpa Y (zhq 24 Y ?_);exact fin Jm ((dbq (b:=3) (w':=lnW ⟨k,[]⟩) rfl (λΓ v hq=>j3q (Γ:=Γ) (Γ':=Γ) (blk:=λ_=>none) ⟨λ_ h _=>h,λ_ _ _=>rfl,λ_ h=>h,λ_ _=>rfl,λ_ _ _ h=>Qs⟩ (.agg (.cons (.pur (qhq k)) (.cons .nilfz .nil))) hq)).trans (zDq (nw2:=4) (fr2:=[(4,.ptr 3 0)]) (hp2:=(3,133,lnW ⟨k,[]⟩)::ptH 1 o) Xg Xg ⟨rfl,trivial⟩ rfl (ztq ⟨⟨by decide,rfl,zaq (qXq _)⟩,⟨by decide,rfl,xKq Xg⟩,nUq Xg hpo (z2q Xg (z2q Xg (z2q Xg kqq)))⟩) (by cases o<;>simp[ptH,oH]))) rfl ⟨rfl,rfl,rfl,rfl⟩
end
theorem GoodL.lnm{n i m:Nat}{l:Ln}(h:GoodL n i m l)(hm:m<=256):LnM l:=by
 refine⟨by have:=h.len;omega,λj x hx=>⟨(h.own x (Zf hx)).1,λy hj hy=>gHq h.srt (i:=j-1) (j:=j) Xd hy hx⟩⟩
theorem GoodS.sh{n i m:Nat}{s:Shd}(h:GoodS n i m s)(hm:m<=256):ShM s:=λj l hl=>by
 obtain⟨h1,h2⟩:=h.line l (Zf hl);exact⟨⟨λq=>h2 (Z4.1 q),h1.lnm hm⟩,λp hj hp=>gHq h.keys (i:=j-1) (j:=j) Xd hp hl⟩
theorem owq{C:Cfg}{G:Nat->Option W}{m k0 nw b k:Nat}{fr fr2:FrW}{hp hp2:HpW}{R:Res}(hm:m<=b)(hb:b<=nw)(hmk:m<=k)(hk:k<nw)(hne:∀p∈hp2,p.1≠k\/k=b)(hf:sFq (b8q b k) (b+1) fr fr2)(hh:Qlq (b8q b k) (b+1) hp hp2)(nd:(hp2.map (·.1)).Nodup):Ent C G m k0 fr hp nw R fr2 hp2 (b+1) R:=by
 have hkey:∀i x,hget hp2 i=some x->i≠k\/k=b:=λi x hx=>YR λq=>by
  rw[y3q λp hp e=>q (by have:=hne p hp;rw[e] at this;exact this)] at hx;cases hx
 refine daq (b8q b k) Xd (λi hi=>qwq Xd) (λi hi=>?_) (λi h1 h2=>?_) (ZEq hf) (kKq hh) (λi j x y hx hy e=>?_) nd
 .by_cases e:i=b
  .subst e;rw[jLq];exact hk
  .rw[qwq e];omega
 .by_cases e:i=b
  .subst e;rw[jLq];exact hmk
  .rw[qwq e];exact h1
 .have h1:=hkey i x hx;have h2:=hkey j y hy;by_cases e1:i=b<;>by_cases e2:j=b
  .rw[e1,e2]
  .subst e1;rw[jLq,qwq e2] at e;omega
  .subst e2;rw[jLq,qwq e1] at e;omega
  .rwa[qwq e1,qwq e2] at e
theorem mzq{hp:HpW}{a b u e:Nat}{ty:TypeId}{X z:TypeId×W}{o:Option (List W)}(ha:hget hp a=some z)(hb:hget hp b=hget (oH b ty e o) b)(hu:hget hp u=none)(hab:a≠b):∀k y,hget hp k=some y->hget (((u,X)::(a,z)::oH b ty e o)++bVq [a,b] hp) k=some y:=λk y h=>by
 show hget ((u,X)::(a,z)::(oH b ty e o++bVq [a,b] hp)) k=some y;rw[zeq];split
 .rename_i q;subst q;rw[hu] at h;cases h
 .rw[zeq];split
  .rename_i q;subst q;rw[ha] at h;exact h
  .rename_i q1 q2;rw[jUq];by_cases q3:k=b
   .subst q3;rw[hb] at h;rw[h];rfl
   .rw[y3q (λp hp e=>q3 (by rw[qWq p hp] at e;exact e.symm)),dgq (λj hj=>by simp only[ZF,YG,or_false] at hj;rcases hj with rfl|rfl;exact q2;exact λe=>q3 e.symm),h];rfl
theorem lUq{l:Ln}{x:Tx}(hx:∀y∈l.txs,y.ok)(ok:x.ok)(hm:LnM l)(ho:fAq x l.who)(he:pJq l x=none):PS cfg glK 206 [lnW l,txW x] (.tup [ln0,.nils,.int .i64 190]):=by
 unfold pJq at he;split at he
 .rename_i y hy;split at he
  .rename_i hn;split at he
   .rename_i hf;exact pHq l x hx ok hm ho hy hn hf
   .cases he
  .cases he
 .cases he
theorem gOq{b:Nat}{o:Option (List W)}:yoq 50 (.agg 1 [.nils]) 0 (ptO b o)=some (ptO b o):=by cases o<;>rfl
theorem pNq{b:Nat}{o:Option (List W)}:zYq 50 (ptO b o) 0 1 true=some (ptO b o):=by cases o<;>rfl
theorem J8q{C:Cfg}{G:Nat->Option W}{m k0 nw:Nat}{fr fr2:FrW}{hp hp2:HpW}{R:Res}(hm:m<nw)(hf:aqq fr fr2)(hr:aKq nw fr2)(hh:eTq hp nw hp2)(nd:(hp2.map (·.1)).Nodup):Ent C G m k0 fr hp nw R fr2 hp2 (nw+1) R:=by
 have hid:∀i,i<nw->b8q nw m i=i:=λi hi=>qwq Xd
 refine daq (b8q nw m) Xd (λi hi=>hid i Xd) (λi hi=>?_) (λi h1 h2=>?_) (ZEq (a0q hid hf hr)) (kKq (Qwq hid hh)) (λi j x y hx hy e=>?_) nd
 .by_cases e:i=nw
  .subst e;rw[jLq];exact hm
  .rw[hid i Xd];omega
 .by_cases e:i=nw
  .subst e;rw[jLq];exact Zc _
  .rw[hid i Xd];exact h1
 .have h1:=(ztq hh i x hx).1;have h2:=(ztq hh j y hy).1;rwa[hid i h1,hid j h2] at e
noncomputable def paW(c:Nat):List Prt->W
 |[]=>.nils
 |p::l=>.sl c 0 0 (l.length+1) 1 none
noncomputable def paH(a b c:Nat):List Prt->HpW
 |[]=>[]
 |p::l=>[(c,244,.arr ((l.length+1)*1) 1 ((p::l).map (avq a b)))]
def b4q(k:Int):List Prt:=if k=1 then [.tx] else if k=2\/k=3 then [.key] else if k=4 then [.height,.key] else if k=7\/k=8 then [.sub] else []
def fFq(k:Int):Bool:=decide (1<=k/\k<=8)
section
variable {G:Nat->Option W}
theorem oTq(q:Aq):yxq cfg G 46 1 [.ptr 0 0] [(0,78,aqW q)] λw hp nw=>w= .tup [paW 2 (b4q q.kind),.bool (fFq q.kind)]/\hp=(1,139,.ptr 0 0)::(0,78,aqW q)::paH 0 1 2 (b4q q.kind)/\nw=3:=by
 obtain⟨k,x,d,g,u⟩:=q;intro R;by_cases k1:k=1
 .subst k1;refine gIs 19 Y (λk0=>?_);refine gT 0 Y (eqI_iff.2 (rfl)) ?_;refine zcq 28 Y ?_;exact fin Jm (zDq (nw2:=3) (fr2:=[(2,paW 2 [.tx]),(3,.bool true)]) (hp2:=(1,139,.ptr 0 0)::(0,78,aqW ⟨1,x,d,g,u⟩)::paH 0 1 2 [.tx]) Xg Xg ⟨rfl,rfl,trivial⟩ rfl (ztq ⟨⟨by decide,rfl,rfl⟩,⟨by decide,rfl,zaq (zOq _)⟩,⟨by decide,rfl,rfl⟩,trivial⟩) (by simp[paH])) rfl ⟨rfl,rfl,rfl,rfl⟩
 .by_cases k2:k=2\/k=3
  .have hL:b4q k=[.key]:=by unfold b4q;rw[Zg k1,Zt k2]
   have hB:fFq k=true:=Zn Xd;rw[hL,hB];rcases k2 with rfl|rfl
   .skip
    refine gIs 19 Y (λk0=>?_);refine gF 0 Y (eqI_not.2 Xi) ?_;refine gT 7 Y (eqI_iff.2 (rfl)) ?_;refine zcq 26 Y ?_;exact fin Jm (zDq (nw2:=3) (fr2:=[(2,paW 2 [.key]),(3,.bool true)]) (hp2:=(1,139,.ptr 0 0)::(0,78,aqW ⟨2,x,d,g,u⟩)::paH 0 1 2 [.key]) Xg Xg ⟨rfl,rfl,trivial⟩ rfl (ztq ⟨⟨by decide,rfl,rfl⟩,⟨by decide,rfl,zaq (zOq _)⟩,⟨by decide,rfl,rfl⟩,trivial⟩) (by simp[paH])) rfl ⟨rfl,rfl,rfl,rfl⟩
   .skip
    refine gIs 19 Y (λk0=>?_);refine gF 0 Y (eqI_not.2 Xi) ?_;refine gF 7 Y (eqI_not.2 Xi) ?_;refine gT 5 Y (eqI_iff.2 (rfl)) ?_;refine zcq 23 Y ?_;exact fin Jm (zDq (nw2:=3) (fr2:=[(2,paW 2 [.key]),(3,.bool true)]) (hp2:=(1,139,.ptr 0 0)::(0,78,aqW ⟨3,x,d,g,u⟩)::paH 0 1 2 [.key]) Xg Xg ⟨rfl,rfl,trivial⟩ rfl (ztq ⟨⟨by decide,rfl,rfl⟩,⟨by decide,rfl,zaq (zOq _)⟩,⟨by decide,rfl,rfl⟩,trivial⟩) (by simp[paH])) rfl ⟨rfl,rfl,rfl,rfl⟩
  .by_cases k4:k=4
   .subst k4;refine gIs 19 Y (λk0=>?_);refine gF 0 Y (eqI_not.2 Xi) ?_;refine gF 7 Y (eqI_not.2 Xi) ?_;refine gF 5 Y (eqI_not.2 Xi) ?_;refine gT 6 Y (eqI_iff.2 (rfl)) ?_;refine zcq 8 Y ?_
    (refine qmq rfl (dDq (Qxq Y Y Y Y (.cons (.ptr (n:=1) (ag:=false) rfl (zOq ⟨4,x,d,g,u⟩) rfl) .nil) (sVq (.int .i64 g) rfl) rfl) (zGq (ext:=[0]) (ws:=[.ptr 0 132]) Y Y Y Y Y (sWq ⟨4,x,d,g,u⟩) Xg Xl Xi (yCq Qw (zaq (zOq _))) Y ?_));rintro w hp1 nw1 ⟨rfl,rfl,rfl⟩;rw[z3q (zOq _),ZOq];refine⟨by first|rfl|kernel_rfl,?_⟩)
    refine yhq 18 Y ?_;exact fin Jm (zDq (nw2:=3) (fr2:=[(2,paW 2 [.height,.key]),(3,.bool true)]) (hp2:=(1,139,.ptr 0 0)::(0,78,aqW ⟨4,x,d,g,u⟩)::paH 0 1 2 [.height,.key]) Xg Xg ⟨rfl,rfl,trivial⟩ rfl (ztq ⟨⟨by decide,rfl,rfl⟩,⟨by decide,rfl,zaq (zOq _)⟩,⟨by decide,rfl,rfl⟩,trivial⟩) (by simp[paH])) rfl ⟨rfl,rfl,rfl,rfl⟩
   .by_cases k7:k=7\/k=8
    .have hL:b4q k=[.sub]:=by unfold b4q;rw[Zg k1,Zg k2,Zg k4,Zt k7]
     have hB:fFq k=true:=Zn Xd;rw[hL,hB];rcases k7 with rfl|rfl
     .skip
      refine gIs 19 Y (λk0=>?_);refine gF 0 Y (eqI_not.2 Xi) ?_;refine gF 7 Y (eqI_not.2 Xi) ?_;refine gF 5 Y (eqI_not.2 Xi) ?_;refine gF 6 Y (eqI_not.2 Xi) ?_;refine gF 7 Y (eqI_not.2 Xi) ?_;refine gF 5 Y (eqI_not.2 Xi) ?_;refine gT 7 Y (eqI_iff.2 (rfl)) ?_;refine zcq 11 Y ?_
      (refine zsq rfl (zGq (ext:=[0]) (ws:=[.ptr 0 133]) Y Y Y Y Y (nLq ⟨7,x,d,g,u⟩) Xg Xl Xi (yCq Qw (zaq (zOq _))) Y ?_);rintro w hp1 nw1 ⟨rfl,rfl,rfl⟩;rw[z3q (zOq _),ZOq])
      refine zhq 13 Y ?_;exact fin Jm (zDq (nw2:=3) (fr2:=[(2,paW 2 [.sub]),(3,.bool true)]) (hp2:=(1,139,.ptr 0 0)::(0,78,aqW ⟨7,x,d,g,u⟩)::paH 0 1 2 [.sub]) Xg Xg ⟨rfl,rfl,trivial⟩ rfl (ztq ⟨⟨by decide,rfl,rfl⟩,⟨by decide,rfl,zaq (zOq _)⟩,⟨by decide,rfl,rfl⟩,trivial⟩) (by simp[paH])) rfl ⟨rfl,rfl,rfl,rfl⟩
     .skip
      refine gIs 19 Y (λk0=>?_);refine gF 0 Y (eqI_not.2 Xi) ?_;refine gF 7 Y (eqI_not.2 Xi) ?_;refine gF 5 Y (eqI_not.2 Xi) ?_;refine gF 6 Y (eqI_not.2 Xi) ?_;refine gF 7 Y (eqI_not.2 Xi) ?_;refine gF 5 Y (eqI_not.2 Xi) ?_;refine gF 7 Y (eqI_not.2 Xi) ?_;refine gT 5 Y (eqI_iff.2 (rfl)) ?_;refine zcq 8 Y ?_
      (refine zsq rfl (zGq (ext:=[0]) (ws:=[.ptr 0 133]) Y Y Y Y Y (nLq ⟨8,x,d,g,u⟩) Xg Xl Xi (yCq Qw (zaq (zOq _))) Y ?_);rintro w hp1 nw1 ⟨rfl,rfl,rfl⟩;rw[z3q (zOq _),ZOq])
      refine zhq 13 Y ?_;exact fin Jm (zDq (nw2:=3) (fr2:=[(2,paW 2 [.sub]),(3,.bool true)]) (hp2:=(1,139,.ptr 0 0)::(0,78,aqW ⟨8,x,d,g,u⟩)::paH 0 1 2 [.sub]) Xg Xg ⟨rfl,rfl,trivial⟩ rfl (ztq ⟨⟨by decide,rfl,rfl⟩,⟨by decide,rfl,zaq (zOq _)⟩,⟨by decide,rfl,rfl⟩,trivial⟩) (by simp[paH])) rfl ⟨rfl,rfl,rfl,rfl⟩
    .have hL:b4q k=[]:=by unfold b4q;rw[Zg k1,Zg k2,Zg k4,Zg k7]
     rw[hL];by_cases k5:k=5
     .subst k5;refine gIs 19 Y (λk0=>?_);refine gF 0 Y (eqI_not.2 Xi) ?_;refine gF 7 Y (eqI_not.2 Xi) ?_;refine gF 5 Y (eqI_not.2 Xi) ?_;refine gF 6 Y (eqI_not.2 Xi) ?_;refine gT 7 Y (eqI_iff.2 (rfl)) ?_;refine zcq 18 Y ?_;exact fin Jm (J8q (fr2:=[(2,.nils),(3,.bool true)]) (hp2:=[(1,139,.ptr 0 0),(0,78,aqW ⟨5,x,d,g,u⟩)]) Xg ⟨rfl,rfl,trivial⟩ ⟨rfl,rfl,trivial⟩ ⟨⟨by decide,rfl,rfl⟩,⟨by decide,rfl,zaq (zOq _)⟩,trivial⟩ Xi) rfl ⟨rfl,rfl,rfl,rfl⟩
     .by_cases k6:k=6
      .subst k6;refine gIs 19 Y (λk0=>?_);refine gF 0 Y (eqI_not.2 Xi) ?_;refine gF 7 Y (eqI_not.2 Xi) ?_;refine gF 5 Y (eqI_not.2 Xi) ?_;refine gF 6 Y (eqI_not.2 Xi) ?_;refine gF 7 Y (eqI_not.2 Xi) ?_;refine gT 5 Y (eqI_iff.2 (rfl)) ?_;refine zcq 15 Y ?_;exact fin Jm (J8q (fr2:=[(2,.nils),(3,.bool true)]) (hp2:=[(1,139,.ptr 0 0),(0,78,aqW ⟨6,x,d,g,u⟩)]) Xg ⟨rfl,rfl,trivial⟩ ⟨rfl,rfl,trivial⟩ ⟨⟨by decide,rfl,rfl⟩,⟨by decide,rfl,zaq (zOq _)⟩,trivial⟩ Xi) rfl ⟨rfl,rfl,rfl,rfl⟩
      .have hB:fFq k=false:=Zo Xd;rw[hB];refine gIs 19 Y (λk0=>?_);refine gF 0 Y (eqI_not.2 (k1)) ?_;refine gF 7 Y (eqI_not.2 (λq=>k2 (.inl q))) ?_;refine gF 5 Y (eqI_not.2 (λq=>k2 (.inr q))) ?_;refine gF 6 Y (eqI_not.2 (k4)) ?_;refine gF 7 Y (eqI_not.2 (k5)) ?_;refine gF 5 Y (eqI_not.2 (k6)) ?_;refine gF 7 Y (eqI_not.2 (λq=>k7 (.inl q))) ?_;refine gF 5 Y (eqI_not.2 (λq=>k7 (.inr q))) ?_;refine zcq 13 Y ?_;exact fin Jm (J8q (fr2:=[(2,.nils),(3,.bool false)]) (hp2:=[(1,139,.ptr 0 0),(0,78,aqW ⟨k,x,d,g,u⟩)]) Xg ⟨rfl,rfl,trivial⟩ ⟨rfl,rfl,trivial⟩ ⟨⟨by decide,rfl,rfl⟩,⟨by decide,rfl,zaq (zOq _)⟩,trivial⟩ Xi) rfl ⟨rfl,rfl,rfl,rfl⟩
end
end
end
end Go.Proofs.YtpjfmknefefapaaGreatDoor

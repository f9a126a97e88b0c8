/-
  What the proof of AutoRefuses stands on, part 8. No condition.
-/
import Derived.Test.YtpjfmknefefapaaGreatDoorZAutoRefusesG
set_option maxRecDepth 100000
set_option linter.unusedSimpArgs false
set_option linter.unusedVariables false
namespace Go.Proofs.YtpjfmknefefapaaGreatDoor
section
open Go.RowKit
set_option maxRecDepth 100000
section
attribute [local irreducible] CoW OpW FlW aeq aiq
noncomputable def a7q:Aq×List UInt8×Bool->Prt->Aq×List UInt8×Bool
 |(q,l,b),.height=>(⟨q.kind,q.tx,q.key,(min (ajq (akq l 8)) 1073741824:Nat),q.sub⟩,aOq l 8,(b||decide (l.length<8))||decide (1073741824<ajq (akq l 8)))
 |(q,l,b),.sub=>(⟨q.kind,q.tx,q.key,q.height,(min (ajq (akq l 4)) 1073741823:Nat)⟩,aOq l 4,(b||decide (l.length<4))||decide (1073741823<ajq (akq l 4)))
 |(q,l,b),.key=>(⟨q.kind,q.tx,jkq (akq l 32),q.height,q.sub⟩,aOq l 32,b||decide (l.length<32))
 |(q,l,b),.tx=>if b||decide (l.length<120) then(q,aOq l 120,true) else(⟨q.kind,(aEq (akq l 120)).1,q.key,q.height,q.sub⟩,aOq l 120,!decide ((aEq (akq l 120)).2=0))
noncomputable def aQq(ps:List Prt)(s:Aq×List UInt8×Bool):Aq×List UInt8×Bool:=ps.foldl a7q s
theorem iMq{ps:List Prt}{i:Nat}{p:Prt}(h:ps[i]? =some p)(s:Aq×List UInt8×Bool):aQq (ps.take (i+1)) s=a7q (aQq (ps.take i) s) p:=by
 unfold aQq;rw[YF,h,List.foldl_append];rfl
theorem f7q(s:Aq×List UInt8×Bool)(p:Prt):(a7q s p).2.1.length<=s.2.1.length:=by
 obtain⟨q,l,b⟩:=s;cases p with
 |height=>exact ZIq l 8
 |sub=>exact ZIq l 4
 |key=>exact ZIq l 32
 |tx=>
  show(if _ then _ else _:Aq×List UInt8×Bool).2.1.length<=l.length;split<;>exact ZIq l 120
theorem eLq:∀(ps:List Prt) (s:Aq×List UInt8×Bool),(aQq ps s).2.1.length<=s.2.1.length
 |[],s=>Zc _
 |p::ps,s=>Zs (eLq ps (a7q s p)) (f7q s p)
theorem lzq(s:Aq×List UInt8×Bool)(p:Prt)(h:s.1.tx.ok):(a7q s p).1.tx.ok/\(a7q s p).1.kind=s.1.kind:=by
 obtain⟨q,l,b⟩:=s;cases p with
 |height=>exact⟨h,rfl⟩
 |sub=>exact⟨h,rfl⟩
 |key=>exact⟨h,rfl⟩
 |tx=>
  show(if _ then _ else _:Aq×List UInt8×Bool).1.tx.ok/\(if _ then _ else _:Aq×List UInt8×Bool).1.kind=q.kind;split
  .exact⟨h,rfl⟩
  .exact⟨o2q _,rfl⟩
theorem iNq:∀(ps:List Prt) (s:Aq×List UInt8×Bool),s.1.tx.ok->(aQq ps s).1.tx.ok/\(aQq ps s).1.kind=s.1.kind
 |[],s,h=>⟨h,rfl⟩
 |p::ps,s,h=>by
  obtain⟨h1,h2⟩:=lzq s p h;obtain⟨h3,h4⟩:=iNq ps (a7q s p) h1;exact⟨h3,h4.trans h2⟩
theorem B8q{a b:Nat}(h:b<=a):Nat.blt a b=false:=by
 cases e:Nat.blt a b with
 |false=>rfl
 |true=>exact absurd (Yb e) Xd
theorem bltT{a b:Nat}(h:a<b):Nat.blt a b=true:=Zl h
noncomputable def aqF(q:Aq)(l:List UInt8):W:=.agg 134 [.int .u8 q.kind,txW q.tx,.arr 32 1 (zbq l),.int .i64 q.height,.int .i64 q.sub]
theorem myq(q:Aq)(l:List UInt8)(i:Nat)(c:UInt8)(hl:l.length=32)(hi:i<32):yoq 50 (aqF q l) (100+i) (byW c)=some (aqF q (l.set i c)):=by
 have h:=dQq (f:=47) (l:=l) (n:=32) (i:=i) Xd Xg c;rw[show 0+i*1+0=i by omega] at h
 have hp:Zjq (λy o=>yoq 49 y o (byW c)) [.int .u8 q.kind,txW q.tx,.arr 32 1 (zbq l),.int .i64 q.height,.int .i64 q.sub] (100+i)=some [.int .u8 q.kind,txW q.tx,.arr 32 1 (zbq (l.set i c)),.int .i64 q.height,.int .i64 q.sub]:=by
  simp only[Zjq];rw[show(W.int .u8 q.kind).size=1 from rfl,show(txW q.tx).size=99 from rfl,show(W.arr 32 1 (zbq l)).size=32 from rfl,B8q (show 1<=100+i by omega),B8q (show 99<=100+i-1 by omega),show 100+i-1-99=i by omega,bltT hi];simp only[h]
 have hz:(Nat.beq (100+i) 0&&Nat.beq (byW c).size (aqF q l).size&&(byW c).isAgg==(aqF q l).isAgg)=false:=by
  show(Nat.beq (100+i) 0&&Nat.beq 1 134&&false)=false;rw[Y1]
 unfold yoq;rw[hz]
 show(match Zjq (λy o=>yoq 49 y o (byW c)) [.int .u8 q.kind,txW q.tx,.arr 32 1 (zbq l),.int .i64 q.height,.int .i64 q.sub] (100+i) with
  |some l'=>some (W.agg 134 l')
  |none=>none)=_
 rw[hp];rfl
theorem dRq(q:Aq)(l:List UInt8)(h:l.length=32):vbq (aqW q) 100 1 (zbq l)=some (aqW ⟨q.kind,q.tx,jkq l,q.height,q.sub⟩):=by
 have:=Ygq (F:=aqF q) (base:=100) (n:=32) (myq q) (λ_=>rfl) l 0 q.key.1 q.key.2 Xd;rw[List.take_zero,YX,ZW (by rw[q.key.2];omega),ZU] at this;show vbq (aqF q q.key.1) (100+0) 1 _=some (aqF ⟨q.kind,q.tx,jkq l,q.height,q.sub⟩ (jkq l).1);rw[aZq Xd,Zm Xd];exact this
theorem tUq(k:IntKind)(M n:Nat):W.int k (match ltI (M:Int) (n:Int) with|true=>(M:Int)|false=>(n:Int))=W.int k ((min n M:Nat):Int):=by
 by_cases h:M<n
 .rw[ltI_iff.2 Xd];simp only;congr 2;omega
 .rw[ltI_not.2 Xd];simp only;congr 2;omega
theorem lbq(q:Aq)(l:List UInt8)(f:Bool)(hl:l.length=120):yxq cfg glK 112 2 [.fz (zbq l) 1 f,.ptr 1 0] [(0,78,aqW q),(1,139,.ptr 0 0)] λw hp nw=>w= .bool (decide ((aEq l).2=0))/\hp=[(0,78,aqW ⟨q.kind,(aEq l).1,q.key,q.height,q.sub⟩),(1,139,.ptr 0 0)]/\nw=2:=by
 intro R;by_cases h:(aEq l).2=0
 .rw[Zn h];refine gIs 8 Y (λk0=>?_);exact gC 0 Y (ZBq l f hl) (gT 20 Y (eqI_iff.2 (h)) (zcq 4 Y (fin Jm (zDq (nw2:=2) (fr2:=[(3,.bool true)]) (hp2:=[(0,78,aqW ⟨q.kind,(aEq l).1,q.key,q.height,q.sub⟩),(1,139,.ptr 0 0)]) Xg (by show 2<=3;decide) ⟨rfl,trivial⟩ rfl (ztq ⟨⟨by decide,rfl,zaq (zOq _)⟩,⟨by decide,rfl,rfl⟩,trivial⟩) Xi) rfl ⟨rfl,rfl,rfl,rfl⟩)))
 .rw[Zo h];refine gIs 8 Y (λk0=>?_);exact gC 0 Y (ZBq l f hl) (gF 20 Y (eqI_not.2 (h)) (zcq 4 Y (fin Jm (zDq (nw2:=2) (fr2:=[(3,.bool false)]) (hp2:=[(0,78,aqW ⟨q.kind,(aEq l).1,q.key,q.height,q.sub⟩),(1,139,.ptr 0 0)]) Xg (by show 2<=3;decide) ⟨rfl,trivial⟩ rfl (ztq ⟨⟨by decide,rfl,zaq (zOq _)⟩,⟨by decide,rfl,rfl⟩,trivial⟩) Xi) rfl ⟨rfl,rfl,rfl,rfl⟩)))
noncomputable def psH(n:Nat)(z:List W)(s:Aq×List UInt8×Bool):HpW:=[(0,143,rsW s.2.1 s.2.2),(1,78,aqW s.1),(2,139,.ptr 1 0),(3,244,.arr (n*1) 1 z)]
theorem pYq(ps:List Prt)(q:Aq)(l:List UInt8)(b:Bool)(hl:l.length<=1000000)(hn:ps.length<=100):yxq cfg glK 48 4 [.ptr 0 0,.sl 3 0 0 ps.length 1 none] (psH ps.length (ps.map (avq 1 2)) (q,l,b)) λw hp nw=>hp=psH ps.length (ps.map (avq 1 2)) (aQq ps (q,l,b))/\nw=4:=by
 have e:(ps.map (avq 1 2)).length=ps.length:=Zd _;have hz:azq 4 (ps.map (avq 1 2))=true:=JEq Xg Xg ps;intro R;refine gIs 10 Y (λk0=>?_);refine gL 0 Y ?_;refine zcq 4 Y ?_;refine jeq (α:=Nat×Aq×List UInt8×Bool) (λp=>p.1<=ps.length/\p.2=aQq (ps.take p.1) (q,l,b)) (λp=>[(20,.int .i64 (p.1:Int)),(0,.ptr 0 0),(4,.fn 117 [.ptr 0 0] []),(18,.sl 3 0 0 ps.length 1 none),(19,.int .i64 (ps.length:Int))]) (λp=>psH ps.length (ps.map (avq 1 2)) p.2) (λ_=>4) (λ_=>R) (λp=>ps.length-p.1) (0,q,l,b) ⟨Zi _,rfl⟩ (ynq ⟨rfl,rfl,rfl,rfl,rfl,trivial⟩ Y Y) (λp hI=>?_);skip
 obtain⟨i,q1,l1,b1⟩:=p;obtain⟨hi,hst⟩:=hI;simp only at hi hst⊢;have hl1:l1.length<=1000000:=Zs (show(q1,l1,b1).2.1.length<=1000000 from by rw[hst];exact Zs (eLq _ _) hl) (Zc _);refine zEq 6 Y ?_;refine gS 0 Y (λh1=>?_) (λh1=>?_)
 .have hi2:i<ps.length:=by omega
  obtain⟨p,hx⟩:∃p,ps[i]? =some p:=⟨_,Za hi2⟩
  have hsx:=iMq hx (q,l,b);rw[<-hst] at hsx;have again:∀(s:Aq×List UInt8×Bool),a7q (q1,l1,b1) p=s->aQq (ps.take (i+1)) (q,l,b)=s:=λs h=>hsx.trans h
  clear hst hsx;skip
  cases p with
  |height=>
   have hlt:ajq (akq l1 8)<18446744073709551616:=by
    have h1:=Yuq (akq l1 8);rw[yZq] at h1;exact Zw h1 (Y6 Xg (by decide:8<=8))
   have htk:∀g,PS cfg glK 108 [.fz (zbq (akq l1 8)) 1 g,.int .i64 ((8:Nat):Int)] (.tup [.int .u64 ((ajq (akq l1 8):Nat):Int),bW [],.int .i64 0]):=λg=>zoq (j4q (akq l1 8) g 8 Xg Xg Qg (by rw[yZq];decide)) (by rw[Zm Qg,ZW Qg])
   obtain⟨bb,hb⟩:∃bb,(b1||decide (l1.length<8))=bb:=⟨_,rfl⟩
   refine zPq 6 Y ?_;refine gP 0 Y (qbq (i:=i) Y Y Y Y Y Y Y hi2) ?_;refine gM 0 Y (z7q Y Y Y (xRq (e:=1) (off:=0) (zgq (avq 1 2) hx) Xg Xg (Y1 _) rfl)) ?_;refine zcq 28 Y ?_
   (refine qmq rfl (kLq (ev:=.updO 0) (ext:=[0]) (ws:=[.ptr 0 0,.int .i64 ((8:Nat):Int)]) Y Y Y Y Y (vMq l1 b1 8 Xg Xg hl1) Xg Xl Xi (yCq Yt (zaq (ycq _ _))) Y ?_ (.inr ⟨0,rfl,rfl,_,rfl⟩));rintro w hp1 nw1 ⟨⟨g,rfl⟩,rfl,rfl⟩;rw[z3q (ycq _ _),zfq (show abq (.fz (zbq (akq l1 8)) 1 g)=true by simp[abq]),hb];refine⟨by first|rfl|kernel_rfl,?_⟩)
   refine yhq 2 Y ?_;refine gC 0 Y (htk g) ?_;refine zcq 9 Y ?_;refine Y1q (α:=Bool) (λb'=>(bb||decide (1073741824<ajq (akq l1 8)))=b') (λ_=>[(8,.int .u64 ((ajq (akq l1 8):Nat):Int)),(7,.ptr 4 0),(0,.ptr 0 0),(4,.fn 117 [.ptr 0 0] []),(18,.sl 3 0 0 ps.length 1 none),(19,.int .i64 (ps.length:Int)),(20,.int .i64 (i:Int))]) (λb'=>[(0,143,rsW (aOq l1 8) b'),(4,249,.agg 3 [.ptr 1 132,.int .i64 8,.int .i64 1073741824]),(1,78,aqW q1),(2,139,.ptr 1 0),(3,244,.arr (ps.length*1) 1 (ps.map (avq 1 2)))]) (λ_=>5) ?_ (λa ha=>?_)
   .skip
    cases bb with
    |true=>
     refine zEq 17 Y ?_;exact⟨rfl,_,rfl,ynq ⟨rfl,rfl,rfl,rfl,rfl,rfl,rfl,trivial⟩ Y Y⟩
    |false=>
     by_cases hM:1073741824<ajq (akq l1 8)
     .refine zEq 10 Y ?_;refine gWr 0 Y ?_;refine gT 0 Y (ltI_iff.2 Xd) ?_;refine zcq 5 Y ?_;exact⟨rfl,_,Zn hM,ynq ⟨rfl,rfl,rfl,rfl,rfl,rfl,rfl,trivial⟩ Y Y⟩
     .refine zEq 10 Y ?_;refine gWr 0 Y ?_;refine gF 0 Y (ltI_not.2 Xd) ?_;refine zcq 5 Y ?_;exact⟨rfl,_,Zo hM,ynq ⟨rfl,rfl,rfl,rfl,rfl,rfl,rfl,trivial⟩ Y Y⟩
   refine zPq 6 Y ?_;refine gWr 0 Y ?_;refine gV (w':=.int .u64 ((min (ajq (akq l1 8)) 1073741824:Nat):Int)) 0 rfl (tUq _ _ _) ?_;refine gA 0 Y (min (ajq (akq l1 8)) 1073741824) ?_;refine gA 7 Y (i+1) ?_;refine zcq 2 Y ?_;skip
   exact y6q (i+1,⟨q1.kind,q1.tx,q1.key,(min (ajq (akq l1 8)) 1073741824:Nat),q1.sub⟩,aOq l1 8,a) ⟨hi2,(again _ (by show(_,_,(b1||decide (l1.length<8))||decide (1073741824<ajq (akq l1 8)))=_;rw[hb,ha])).symm⟩ Xw (zDq (nw2:=4) Xg Qq ⟨rfl,rfl,rfl,rfl,rfl,trivial⟩ rfl (ztq ⟨⟨by decide,rfl,zaq (ycq _ _)⟩,⟨by decide,rfl,zaq (zOq _)⟩,⟨by decide,rfl,rfl⟩,⟨by decide,rfl,hz⟩,trivial⟩) Jc)
  |sub=>
   have hlt:ajq (akq l1 4)<18446744073709551616:=by
    have h1:=Yuq (akq l1 4);rw[yZq] at h1;exact Zw h1 (Y6 Xg (by decide:4<=8))
   have htk:∀g,PS cfg glK 108 [.fz (zbq (akq l1 4)) 1 g,.int .i64 ((4:Nat):Int)] (.tup [.int .u64 ((ajq (akq l1 4):Nat):Int),bW [],.int .i64 0]):=λg=>zoq (j4q (akq l1 4) g 4 Xg Xg Qg (by rw[yZq];decide)) (by rw[Zm Qg,ZW Qg])
   obtain⟨bb,hb⟩:∃bb,(b1||decide (l1.length<4))=bb:=⟨_,rfl⟩
   refine zPq 6 Y ?_;refine gP 0 Y (qbq (i:=i) Y Y Y Y Y Y Y hi2) ?_;refine gM 0 Y (z7q Y Y Y (xRq (e:=1) (off:=0) (zgq (avq 1 2) hx) Xg Xg (Y1 _) rfl)) ?_;refine zcq 28 Y ?_
   (refine qmq rfl (kLq (ev:=.updO 0) (ext:=[0]) (ws:=[.ptr 0 0,.int .i64 ((4:Nat):Int)]) Y Y Y Y Y (vMq l1 b1 4 Xg Xg hl1) Xg Xl Xi (yCq Yt (zaq (ycq _ _))) Y ?_ (.inr ⟨0,rfl,rfl,_,rfl⟩));rintro w hp1 nw1 ⟨⟨g,rfl⟩,rfl,rfl⟩;rw[z3q (ycq _ _),zfq (show abq (.fz (zbq (akq l1 4)) 1 g)=true by simp[abq]),hb];refine⟨by first|rfl|kernel_rfl,?_⟩)
   refine yhq 2 Y ?_;refine gC 0 Y (htk g) ?_;refine zcq 9 Y ?_;refine Y1q (α:=Bool) (λb'=>(bb||decide (1073741823<ajq (akq l1 4)))=b') (λ_=>[(8,.int .u64 ((ajq (akq l1 4):Nat):Int)),(7,.ptr 4 0),(0,.ptr 0 0),(4,.fn 117 [.ptr 0 0] []),(18,.sl 3 0 0 ps.length 1 none),(19,.int .i64 (ps.length:Int)),(20,.int .i64 (i:Int))]) (λb'=>[(0,143,rsW (aOq l1 4) b'),(4,249,.agg 3 [.ptr 1 133,.int .i64 4,.int .i64 1073741823]),(1,78,aqW q1),(2,139,.ptr 1 0),(3,244,.arr (ps.length*1) 1 (ps.map (avq 1 2)))]) (λ_=>5) ?_ (λa ha=>?_)
   .skip
    cases bb with
    |true=>
     refine zEq 17 Y ?_;exact⟨rfl,_,rfl,ynq ⟨rfl,rfl,rfl,rfl,rfl,rfl,rfl,trivial⟩ Y Y⟩
    |false=>
     by_cases hM:1073741823<ajq (akq l1 4)
     .refine zEq 10 Y ?_;refine gWr 0 Y ?_;refine gT 0 Y (ltI_iff.2 Xd) ?_;refine zcq 5 Y ?_;exact⟨rfl,_,Zn hM,ynq ⟨rfl,rfl,rfl,rfl,rfl,rfl,rfl,trivial⟩ Y Y⟩
     .refine zEq 10 Y ?_;refine gWr 0 Y ?_;refine gF 0 Y (ltI_not.2 Xd) ?_;refine zcq 5 Y ?_;exact⟨rfl,_,Zo hM,ynq ⟨rfl,rfl,rfl,rfl,rfl,rfl,rfl,trivial⟩ Y Y⟩
   refine zPq 6 Y ?_;refine gWr 0 Y ?_;refine gV (w':=.int .u64 ((min (ajq (akq l1 4)) 1073741823:Nat):Int)) 0 rfl (tUq _ _ _) ?_;refine gA 0 Y (min (ajq (akq l1 4)) 1073741823) ?_;refine gA 7 Y (i+1) ?_;refine zcq 2 Y ?_;skip
   exact y6q (i+1,⟨q1.kind,q1.tx,q1.key,q1.height,(min (ajq (akq l1 4)) 1073741823:Nat)⟩,aOq l1 4,a) ⟨hi2,(again _ (by show(_,_,(b1||decide (l1.length<4))||decide (1073741823<ajq (akq l1 4)))=_;rw[hb,ha])).symm⟩ Xw (zDq (nw2:=4) Xg Qq ⟨rfl,rfl,rfl,rfl,rfl,trivial⟩ rfl (ztq ⟨⟨by decide,rfl,zaq (ycq _ _)⟩,⟨by decide,rfl,zaq (zOq _)⟩,⟨by decide,rfl,rfl⟩,⟨by decide,rfl,hz⟩,trivial⟩) Jc)
  |key=>
   cases hb:(b1||decide (l1.length<32)) with
   |true=>
    refine zPq 6 Y ?_;refine gP 0 Y (qbq (i:=i) Y Y Y Y Y Y Y hi2) ?_;refine gM 0 Y (z7q Y Y Y (xRq (e:=1) (off:=0) (zgq (avq 1 2) hx) Xg Xg (Y1 _) rfl)) ?_;refine zcq 37 Y ?_
    (refine qmq rfl (kLq (ev:=.updO 0) (ext:=[0]) (ws:=[.ptr 0 0,.int .i64 ((32:Nat):Int)]) Y Y Y Y Y (vMq l1 b1 32 Xg Xg hl1) Xg Xl Xi (yCq Yt (zaq (ycq _ _))) Y ?_ (.inr ⟨0,rfl,rfl,_,rfl⟩));rintro w hp1 nw1 ⟨⟨g,rfl⟩,rfl,rfl⟩;rw[z3q (ycq _ _),zfq (show abq (.fz (zbq (akq l1 32)) 1 g)=true by simp[abq]),hb];refine⟨by first|rfl|kernel_rfl,?_⟩)
    refine vqq rfl (r2q (all:=akq l1 32) (ns:=akq l1 32) (n:=32) (j:=zZq) (k:=ti5) Y Y Y Y Y Y Y (Zm Qg) (yZq _ _) Xg rfl (Yb rfl) (dRq q1 _ (yZq _ _))) Xr ?_;refine yhq 5 Y ?_;refine gA 0 Y (i+1) ?_;refine zcq 2 Y ?_;skip
    exact y6q (i+1,⟨q1.kind,q1.tx,jkq (akq l1 32),q1.height,q1.sub⟩,aOq l1 32,true) ⟨hi2,(again _ (by show(_,_,(b1||decide (l1.length<32)))=_;rw[hb])).symm⟩ Xw (zDq (nw2:=4) Xg Qq ⟨rfl,rfl,rfl,rfl,rfl,trivial⟩ rfl (ztq ⟨⟨by decide,rfl,zaq (ycq _ _)⟩,⟨by decide,rfl,zaq (zOq _)⟩,⟨by decide,rfl,rfl⟩,⟨by decide,rfl,hz⟩,trivial⟩) Jc)
   |false=>
    refine zPq 6 Y ?_;refine gP 0 Y (qbq (i:=i) Y Y Y Y Y Y Y hi2) ?_;refine gM 0 Y (z7q Y Y Y (xRq (e:=1) (off:=0) (zgq (avq 1 2) hx) Xg Xg (Y1 _) rfl)) ?_;refine zcq 37 Y ?_
    (refine qmq rfl (kLq (ev:=.updO 0) (ext:=[0]) (ws:=[.ptr 0 0,.int .i64 ((32:Nat):Int)]) Y Y Y Y Y (vMq l1 b1 32 Xg Xg hl1) Xg Xl Xi (yCq Yt (zaq (ycq _ _))) Y ?_ (.inr ⟨0,rfl,rfl,_,rfl⟩));rintro w hp1 nw1 ⟨⟨g,rfl⟩,rfl,rfl⟩;rw[z3q (ycq _ _),zfq (show abq (.fz (zbq (akq l1 32)) 1 g)=true by simp[abq]),hb];refine⟨by first|rfl|kernel_rfl,?_⟩)
    refine vqq rfl (r2q (all:=akq l1 32) (ns:=akq l1 32) (n:=32) (j:=zZq) (k:=ti5) Y Y Y Y Y Y Y (Zm Qg) (yZq _ _) Xg rfl (Yb rfl) (dRq q1 _ (yZq _ _))) Xr ?_;refine yhq 5 Y ?_;refine gA 0 Y (i+1) ?_;refine zcq 2 Y ?_;skip
    exact y6q (i+1,⟨q1.kind,q1.tx,jkq (akq l1 32),q1.height,q1.sub⟩,aOq l1 32,false) ⟨hi2,(again _ (by show(_,_,(b1||decide (l1.length<32)))=_;rw[hb])).symm⟩ Xw (zDq (nw2:=4) Xg Qq ⟨rfl,rfl,rfl,rfl,rfl,trivial⟩ rfl (ztq ⟨⟨by decide,rfl,zaq (ycq _ _)⟩,⟨by decide,rfl,zaq (zOq _)⟩,⟨by decide,rfl,rfl⟩,⟨by decide,rfl,hz⟩,trivial⟩) Jc)
  |tx=>
   cases hb:(b1||decide (l1.length<120)) with
   |true=>
    refine zPq 6 Y ?_;refine gP 0 Y (qbq (i:=i) Y Y Y Y Y Y Y hi2) ?_;refine gM 0 Y (z7q Y Y Y (xRq (e:=1) (off:=0) (zgq (avq 1 2) hx) Xg Xg (Y1 _) rfl)) ?_;refine zcq 52 Y ?_
    (refine zsq rfl (zGq (ext:=[0]) (ws:=[.ptr 0 0,.int .i64 ((120:Nat):Int)]) Y Y Y Y Y (vMq l1 b1 120 Xg Xg hl1) Xg Xl Xi (yCq Yt (zaq (ycq _ _))) Y ?_);rintro w hp1 nw1 ⟨⟨g,rfl⟩,rfl,rfl⟩;rw[z3q (ycq _ _),zfq (show abq (.fz (zbq (akq l1 120)) 1 g)=true by simp[abq]),hb])
    refine zhq 24 Y ?_;refine gA 0 Y (i+1) ?_;refine zcq 2 Y ?_;skip
    exact y6q (i+1,q1,aOq l1 120,true) ⟨hi2,(again _ (Zt hb)).symm⟩ Xw (zDq (nw2:=4) Xg Qq ⟨rfl,rfl,rfl,rfl,rfl,trivial⟩ rfl (ztq ⟨⟨by decide,rfl,zaq (ycq _ _)⟩,⟨by decide,rfl,zaq (zOq _)⟩,⟨by decide,rfl,rfl⟩,⟨by decide,rfl,hz⟩,trivial⟩) Jc)
   |false=>
    refine zPq 6 Y ?_;refine gP 0 Y (qbq (i:=i) Y Y Y Y Y Y Y hi2) ?_;refine gM 0 Y (z7q Y Y Y (xRq (e:=1) (off:=0) (zgq (avq 1 2) hx) Xg Xg (Y1 _) rfl)) ?_;refine zcq 52 Y ?_
    (refine zsq rfl (zGq (ext:=[0]) (ws:=[.ptr 0 0,.int .i64 ((120:Nat):Int)]) Y Y Y Y Y (vMq l1 b1 120 Xg Xg hl1) Xg Xl Xi (yCq Yt (zaq (ycq _ _))) Y ?_);rintro w hp1 nw1 ⟨⟨g,rfl⟩,rfl,rfl⟩;rw[z3q (ycq _ _),zfq (show abq (.fz (zbq (akq l1 120)) 1 g)=true by simp[abq]),hb])
    refine zhq 13 Y ?_
    (refine zsq rfl (zGq (ext:=[1,2]) (ws:=[.fz (zbq (akq l1 120)) 1 g,.ptr 1 0]) Y Y Y Y (by show [W.fz (zbq (akq l1 120)) 1 g,W.ptr 2 0]=[adq _ (W.fz (zbq (akq l1 120)) 1 g),_];rw[zfq (show abq (.fz (zbq (akq l1 120)) 1 g)=true by simp[abq])];rfl) (lbq q1 (akq l1 120) g (yZq _ _)) Xg Xl Xi (cXq Qw rfl (zaq (zOq _)) rfl) (by show(agq 2 (.fz (zbq (akq l1 120)) 1 g)&&_)=true;rw[zaq (show abq (.fz (zbq (akq l1 120)) 1 g)=true by simp[abq])];rfl) ?_);rintro w hp1 nw1 ⟨rfl,rfl,rfl⟩;rw[alq,zfq (zOq _)])
    refine zhq 10 Y ?_;refine gA 0 Y (i+1) ?_;refine zcq 2 Y ?_;skip
    exact y6q (i+1,⟨q1.kind,(aEq (akq l1 120)).1,q1.key,q1.height,q1.sub⟩,aOq l1 120,!decide ((aEq (akq l1 120)).2=0)) ⟨hi2,(again _ (Zg (by rw[hb];decide))).symm⟩ Xw (zDq (nw2:=4) Xg Qq ⟨rfl,rfl,rfl,rfl,rfl,trivial⟩ rfl (ztq ⟨⟨by decide,rfl,zaq (ycq _ _)⟩,⟨by decide,rfl,zaq (zOq _)⟩,⟨by decide,rfl,rfl⟩,⟨by decide,rfl,hz⟩,trivial⟩) Jc)
 .have hi3:i=ps.length:=by omega
  subst hi3;rw[List.take_length] at hst;refine zcq 2 Y ?_;refine qUq Xk ?_;refine z0q 1 Y ?_;exact fin (.inl rfl) (zDq (nw2:=4) (fr2:=[]) (hp2:=psH ps.length (ps.map (avq 1 2)) (q1,l1,b1)) Xg Xg trivial rfl (ztq ⟨⟨by decide,rfl,zaq (ycq _ _)⟩,⟨by decide,rfl,zaq (zOq _)⟩,⟨by decide,rfl,rfl⟩,⟨by decide,rfl,hz⟩,trivial⟩) Jc) rfl ⟨rfl,by rw[hst],rfl⟩
theorem p3q(τ:Nat->Nat)(c:Nat)(L:List Prt):adq τ (paW c L)=paW (τ c) L:=by cases L<;>rfl
theorem p4q(τ:Nat->Nat)(a b c:Nat)(L:List Prt):alq τ (paH a b c L)=paH (τ a) (τ b) (τ c) L:=by
 cases L with
 |nil=>rfl
 |cons p L=>
  show [(τ c,_,W.arr _ 1 (ySq τ ((p::L).map (avq a b))))]=_;rw[JDq];rfl
def aq0:Aq:=⟨0,tx0,zeroD,0,0⟩
def aqK(k:Int):Aq:=⟨k,tx0,zeroD,0,0⟩
theorem x1q{μ:Nat->Option W}(k:Int):View μ (.agg 134 [.int .u8 k,.agg 99 [.arr 32 1 (List.replicate 32 (.int .u8 (.ofNat 0))),.arr 32 1 (List.replicate 32 (.int .u8 (.ofNat 0))),.int .u64 0,.int .u64 0,.int .u64 0,.arr 32 1 (List.replicate 32 (.int .u8 (.ofNat 0)))],.arr 32 1 (List.replicate 32 (.int .u8 (.ofNat 0))),.int .i64 0,.int .i64 0]) (aqW (aqK k)):=.agg (.cons (.pur rfl) (.cons Jhq (.cons z9q (.cons (.pur rfl) (.cons (.pur rfl) .nil)))))
noncomputable def sLq(B:Bool)(s:Aq×List UInt8×Bool):Aq×Int:=if B=true/\s.2.2=false/\s.2.1=[] then(s.1,0) else(aq0,220)
noncomputable def rdQ:List UInt8->Aq×Int
 |[]=>(aq0,220)
 |k::r=>if k.toNat=1/\r.length=120/\(aEq r).2≠0 then(aq0,(aEq r).2) else sLq (fFq (k.toNat:Int)) (aQq (b4q (k.toNat:Int)) (aqK (k.toNat:Int),r,false))
section
variable {G:Nat->Option W}
theorem pZq(l:List UInt8)(b:Bool):yxq cfg G 48 1 [.ptr 0 0,.nils] [(0,143,rsW l b)] λw hp nw=>hp=[(0,143,rsW l b)]/\nw=1:=by
 intro R;refine gIs 10 Y (λk0=>?_);refine gL 0 Y (zcq 4 Y ?_);refine jeq (α:=Unit) (λ_=>True) (λ_=>[(20,.int .i64 0),(19,.int .i64 0)]) (λ_=>[(0,143,rsW l b)]) (λ_=>1) (λ_=>R) (λ_=>0) () trivial (ynq ⟨rfl,rfl,trivial⟩ Y Y) (λp hI=>?_);skip
 exact zEq 9 Y (qUq Xk (z0q 1 Y (fin (.inl rfl) (zDq (nw2:=1) (fr2:=[]) (hp2:=[(0,143,rsW l b)]) Xg Xg trivial rfl (ztq ⟨⟨by decide,rfl,zaq (ycq _ _)⟩,trivial⟩) Xi) rfl ⟨rfl,rfl,rfl⟩)))
end
theorem gGq(l:List UInt8)(f:Bool)(hl:l.length<=100000):PS cfg glK 13 [.fz (zbq l) 1 f] (.tup [aqW (rdQ l).1,.int .i64 (rdQ l).2]):=by
 have e:(zbq l).length=l.length:=zqq l;cases l with
 |nil=>
  exact gIv 10 Y (λR k0=>gZ 0 Y e (gT 0 Y (eqI_iff.2 (rfl)) (zcq 12 Y (yTq Jm rfl (.tup (.cons (x1q 0) (.cons (.pur rfl) .nil)))))))
 |cons k r=>
  have hcut:((zbq (k::r)).drop 1).take ((zbq (k::r)).length-1)=zbq r:=by rw[Zm Xi];rfl
  have hrl:r.length<=100000:=Nat.le_of_succ_le hl;by_cases hbad:k.toNat=1/\r.length=120/\(aEq r).2≠0
  .rw[show rdQ (k::r)=(aq0,(aEq r).2) from Zt hbad];obtain⟨h1,h2,h3⟩:=hbad;exact gIv 10 Y (λR k0=>gZ 0 Y e (gF 0 Y (eqI_not.2 (λq=>Nat.succ_ne_zero _ (Int.ofNat.inj q))) (gP 8 Y (zyq (i:=0) Y Y Y Y Y Y Y Y) (gT 10 Y (eqI_iff.2 (Ze Int.ofNat h1)) (gZ 2 Y e (gT 0 Y (eqI_iff.2 (Ze (λn=>Int.ofNat (n+1)) h2)) (gP 7 Y (YVq (ys:=zbq r) (l:=1) (h:=(zbq (k::r)).length) (g:=f) Y Y Y Y Y Y Y (by rw[e];exact Nat.le_add_left _ _) (Zc _) hcut Qo) (gC 0 Y (ZBq r f h2) (gT 11 Y (Ze not (eqI_not.2 (h3))) (zcq 13 Y (yTq Jm rfl (.tup (.cons (x1q 0) (.cons (.pur rfl) .nil))))))))))))))
  .rw [show rdQ (k::r)=sLq (fFq (k.toNat:Int)) (aQq (b4q (k.toNat:Int)) (aqK (k.toNat:Int),r,false)) from Zg hbad];have hA:=oTq (G:=glK) (aqK (k.toNat:Int));obtain⟨L,hL⟩:∃L,b4q (k.toNat:Int)=L:=⟨_,rfl⟩
   have hL2:L.length<=100:=by rw[<-hL];unfold b4q;(repeat' split)<;>decide
   rw[show b4q (aqK (k.toNat:Int)).kind=L from hL] at hA;rw[hL];refine gIv 10 Y (λR k0=>gZ 0 Y e (gF 0 Y (eqI_not.2 (λq=>Nat.succ_ne_zero _ (Int.ofNat.inj q))) (gP 8 Y (zyq (i:=0) Y Y Y Y Y Y Y Y) (zcq 5 Y ?_))));refine Y1q (α:=Unit) (λ_=>True) (λ_=>[(0,.fz (zbq (k::r)) 1 f),(2,.ptr 0 0)]) (λ_=>[(0,78,aqW (aqK (k.toNat:Int)))]) (λ_=>1) ?_ (λa ha=>?_)
   .skip
    by_cases h1:k.toNat=1
    .by_cases h2:r.length=120
     .have h3:(aEq r).2=0:=YR λq=>hbad ⟨h1,h2,q⟩
      exact zEq 4 Y (gT 0 Y (eqI_iff.2 (Ze Int.ofNat h1)) (gZ 2 Y e (gT 0 Y (eqI_iff.2 (Ze (λn=>Int.ofNat (n+1)) h2)) (gP 7 Y (YVq (ys:=zbq r) (l:=1) (h:=(zbq (k::r)).length) (g:=f) Y Y Y Y Y Y Y (by rw[e];exact Nat.le_add_left _ _) (Zc _) hcut Qo) (gC 0 Y (ZBq r f h2) (gF 11 Y (Ze not (eqI_iff.2 (h3))) (zcq 4 Y (⟨rfl,(),trivial,(jXq (b:=0) rfl (x1q _)).trans (zDq Xg Xg ⟨rfl,rfl,trivial⟩ (jTq ⟨zaq (by simp[abq]),rfl,trivial⟩) (ztq ⟨⟨by decide,rfl,zaq (zOq _)⟩,trivial⟩) Xi)⟩))))))))
     .exact zEq 4 Y (gT 0 Y (eqI_iff.2 (Ze Int.ofNat h1)) (gZ 2 Y e (gF 0 Y (eqI_not.2 (λq=>h2 (Nat.succ.inj (Int.ofNat.inj q)))) (zcq 5 Y (⟨rfl,(),trivial,(jXq (b:=0) rfl (x1q _)).trans (ynq ⟨rfl,rfl,trivial⟩ Y Y)⟩)))))
    .exact zEq 4 Y (gF 0 Y (eqI_not.2 (λq=>h1 (Int.ofNat.inj q))) (zcq 9 Y (⟨rfl,(),trivial,(jXq (b:=0) rfl (x1q _)).trans (ynq ⟨rfl,rfl,trivial⟩ Y Y)⟩)))
   refine zEq 2 Y ?_
   (refine zsq rfl (zGq (ext:=[0]) (ws:=[.ptr 0 0]) Y Y Y Y Y hA Xg Xl Xi (yCq Qw (zaq (zOq _))) Y ?_);rintro w hp1 nw1 ⟨rfl,rfl,rfl⟩;rw[alq,alq,p4q,zfq (zOq _),show adq (afq [0] 1) (.tup [paW 2 L,.bool (fFq (aqK (k.toNat:Int)).kind)])= .tup [paW 2 L,.bool (fFq (k.toNat:Int))] from Ze (λx=>W.tup [x,_]) (p3q _ _ _)])
   refine zhq 10 Y (gP 0 Y (YVq (ys:=zbq r) (l:=1) (h:=(zbq (k::r)).length) (g:=f) Y Y Y Y Y Y Y (by rw[e];exact Nat.le_add_left _ _) (Zc _) hcut Qo) (gC 0 Y (Zaq r f Xd) (zcq 5 Y ?_)));refine Y1q (α:=Unit) (λ_=>True) (λ_=>[(7,.bool (fFq (k.toNat:Int))),(8,.ptr 3 0),(2,.ptr 0 0)]) (λ_=>[(3,143,rsW (aQq L (aqK (k.toNat:Int),r,false)).2.1 (aQq L (aqK (k.toNat:Int),r,false)).2.2),(0,78,aqW (aQq L (aqK (k.toNat:Int),r,false)).1)]) (λ_=>4) ?_ (λa ha=>?_)
   .skip
    cases L with
    |nil=>
     refine zEq 3 Y ?_
     (refine zsq rfl (zGq (ext:=[3]) (ws:=[.ptr 0 0,.nils]) Y Y Y Y Y (pZq r false) Xg Xg Xi (yCq Yt (zaq (ycq _ _))) Y ?_);rintro w hp1 nw1 ⟨rfl,rfl⟩;rw[z3q (ycq _ _)])
     exact g3q (⟨rfl,(),trivial,zDq Xg Xg ⟨rfl,rfl,rfl,trivial⟩ rfl (ztq ⟨⟨by decide,rfl,zaq (ycq _ _)⟩,⟨by decide,rfl,zaq (zOq _)⟩,trivial⟩) Xi⟩)
    |cons p L=>
     have hz:azq 4 ((p::L).map (avq 1 2))=true:=JEq Xg Xg _;refine zEq 3 Y ?_
     (refine zsq rfl (zGq (ext:=[3,0,1,2]) (ws:=[.ptr 0 0,.sl 3 0 0 (p::L).length 1 none]) Y Y Y Y Y (pYq (p::L) (aqK (k.toNat:Int)) r false Xd hL2) Xg Xg Jc (jmq ⟨⟨by decide,zaq (ycq _ _),_,rfl,by rw[zfq (ycq _ _)];rfl⟩,⟨by decide,zaq (zOq _),_,rfl,by rw[zfq (zOq _)];rfl⟩,⟨by decide,rfl,_,rfl,rfl⟩,⟨by decide,hz,_,rfl,by show _=some (_,W.arr _ 1 (ySq _ ((p::L).map (avq 1 2))));rw[JDq];rfl⟩,trivial⟩) Y ?_);rintro w hp1 nw1 ⟨rfl,rfl⟩;rw[psH,alq,alq,zfq (ycq _ _),zfq (zOq _)])
     exact g3q (⟨rfl,(),trivial,zDq Xg Xg ⟨rfl,rfl,rfl,trivial⟩ rfl (ztq ⟨⟨by decide,rfl,zaq (ycq _ _)⟩,⟨by decide,rfl,zaq (zOq _)⟩,trivial⟩) Xi⟩)
   generalize fFq (k.toNat:Int)=B;generalize aQq L (aqK (k.toNat:Int),r,false)=s;obtain⟨q',l',b'⟩:=s;skip
   cases B with
   |false=>
    exact zEq 31 Y (yTq Jm rfl (.tup (.cons (x1q 0) (.cons (.pur rfl) .nil))))
   |true=>
    cases b' with
    |true=>
     exact zEq 31 Y (yTq Jm rfl (.tup (.cons (x1q 0) (.cons (.pur rfl) .nil))))
    |false=>
     cases l' with
     |cons c l'=>
      have el:(zbq (c::l')).length=l'.length+1:=zqq _;exact zEq 16 Y (gZ 0 Y el (gT 0 Y (ltI_iff.2 (Int.ofNat_lt.2 (Nat.succ_pos _))) (zcq 13 Y (yTq Jm rfl (.tup (.cons (x1q 0) (.cons (.pur rfl) .nil)))))))
     |nil=>
      exact zEq 32 Y (yTq Jm rfl (.tup (.cons (.pur (zOq _)) (.cons (.pur rfl) .nil))))
end
section
attribute [local irreducible] CoW OpW FlW aeq aiq
variable {G:Nat->Option W}
structure OkC(c:Ch):Prop where
 body:∀x∈c.links,BodOk x.ds x.xs
 nodes:c.tree.nodes.length<=4611686018427387903
 len:c.links.length<=4611686018427387903
 recs:∀x∈c.links,x.rs.length<=4611686018427387903
theorem pPq(l:List Lk)(i:Nat):∃h r b s,cJq l i= .agg 102 [hdW h,r,b,s]/\(acq [hdW h,r,b,s]=true)/\∀z,0<i->l[i-1]? =some z->h=z.hdr:=by
 cases i with
 |zero=>exact⟨hdZ,_,_,_,rfl,dUq l 0,λz h=>absurd h Xg⟩
 |succ i=>
  cases hz:l[i]? with
  |none=>exact⟨hdZ,_,_,_,by show lkA l i=_;unfold lkA;rw[hz];rfl,rhq,λz _ h=>by rw[Nat.add_sub_cancel,hz] at h;cases h⟩
  |some x=>exact⟨x.hdr,_,_,_,by show lkA l i=_;unfold lkA;rw[hz];rfl,hlq x,λz _ h=>by rw[Nat.add_sub_cancel,hz] at h;cases h;rfl⟩
theorem ZZq(c:Ch)(hc:OkC c):PS cfg glK 61 [chG c] (.int .i64 (if MayC c then 0 else 8)):=by
 have e:(c.links.map lkG).length=c.links.length:=Zd _;have hl:=hc.len;refine gI 11 Y (λR k0=>?_);refine gZ 0 Y e ?_;refine gD 0 Y (λh1=>?_) (λh1=>?_)
 .have hno:¬MayC c:=λq=>by have:=q.one;omega
  exact gQ 31 Y Xz
 obtain⟨z,hz⟩:∃z,c.links[c.links.length-1]? =some z:=⟨_,Za Xd⟩
 refine gZ 3 Y e ?_;refine gD 0 Y (λh2=>?_) (λh2=>?_)
 .have hno:¬MayC c:=λq=>by have:=q.len;omega
  exact gQ 26 Y Xz
 refine gZ 9 Y e ?_;refine gA 0 Y (c.links.length-1) ?_;refine gP 0 Y (zyq (i:=c.links.length-1) Y Y Y Y Y Y Y (zgq lkG hz)) ?_;refine gU 2 Y ?_;refine gS 3 Y (λh3=>?_) (λh3=>?_)
 .have hno:¬MayC c:=λq=>h3 (q.root z hz)
  exact gQ 7 Y Xz
 refine gC 13 Y (scq _ _) ?_;refine zcq 3 Y ?_;refine ilq (i7q c.links) (List.range c.links.length) (λi (a:Nat)=>a=i/\∀j x,j<i->c.links[j]? =some x->LkM c j x) (λa=>[(2,3,.int .i64 (a:Int)),(1,46,.int .i64 0),(0,31,chG c)]) (λ_=>R) (0) rfl Xn (noq c.links false hc.len) (rMq c.links) (⟨rfl,λj x h=>by omega⟩) Y Y (λi a y hy hI=>?_) (λa hI=>?_)
 .obtain⟨rfl,hI⟩:=hI;have hi:a<c.links.length:=by have:=y2q hy;simpa using this
  obtain rfl:a=y:=by rw[dNq hi] at hy;exact ZB hy
  obtain⟨x,hx⟩:∃x,c.links[a]? =some x:=⟨_,Za hi⟩
  obtain⟨ph,pr,pb,ps,hp,hpu,hph⟩:=pPq c.links a;have hpu:abq (.agg 102 [hdW ph,pr,pb,ps])=true:=hpu;rw[show i7q c.links a=[lkG x,.agg 102 [hdW ph,pr,pb,ps]] by unfold i7q;rw[odq hx,hp]];have hB:=hc.body x (Zf hx);have er:(x.rs.map rcW).length=x.rs.length:=Zd _;refine zEq 10 Y ?_;refine Qnq ?_;refine zEq 15 Y ?_;refine gD 0 Y (λh4=>?_) (λh4=>?_)
  .have hno:¬MayC c:=λq=>h4 (q.link a x hx).height
   refine zcq 50 Y ?_;refine jMq Xk ?_;refine z0q 2 Y ?_;exact gQ 0 Y Xz
  refine gC 2 Y (xlq x.hdr) ?_;refine gD 0 Y (λh5=>?_) (λh5=>?_)
  .have hno:¬MayC c:=λq=>h5 (by rw[Zt (q.link a x hx).hdr])
   refine zcq 46 Y ?_;refine jMq Xk ?_;refine z0q 2 Y ?_;exact gQ 0 Y Xz
  have hok:okH x.hdr:=YR λq=>h5 (by rw[Zg q];decide)
  refine gD 3 Y (λh6=>?_) (λh6=>?_)
  .refine gC 4 Y (fjq x.hdr ph) ?_;refine gB 0 Y (λh7=>?_) (λh7=>?_)
   .have hF:0<a->∀w,c.links[a-1]? =some w->zCq x.hdr w.hdr:=λh0 w hw=>hph w h0 hw▸h7
    refine gZ 6 Y er ?_;refine gD 2 Y (λh8=>?_) (λh8=>?_)
    .have hno:¬MayC c:=λq=>h8 (q.link a x hx).recs
     refine zcq 27 Y ?_;refine jMq Xk ?_;refine z0q 2 Y ?_;exact gQ 0 Y Xz
    refine gC 4 Y (isq x.ds x.xs false false hB.tx hB.dl hB.xl) ?_;refine gB 0 Y (λh9=>?_) (λh9=>?_)
    .refine gC 7 Y (oZq c.tree x.root) ?_;refine gC 0 Y (xwq (cjq c x.root) hc.nodes) ?_;refine gU 0 Y ?_;refine gS 3 Y (λh10=>?_) (λh10=>?_)
     .have hno:¬MayC c:=λq=>h10 (by rw[Zt (q.link a x hx).tree])
      refine zcq 8 Y ?_;refine jMq Xk ?_;refine z0q 2 Y ?_;exact gQ 0 Y Xz
     .have hA:nJq (cjq c x.root):=YR λq=>h10 (by rw[Zg q];decide)
      have hx2:LkM c a x:=⟨by omega,hok,λw h0 hw=>hF h0 w hw,by omega,h9,hA⟩;refine gWr 4 Y ?_;refine zcq 3 Y ?_;exact dOq (a+1) (⟨rfl,λj w hj hw=>by rcases ZI.1 hj with q|rfl;exact hI j w q hw;exact ZB (hx.symm.trans hw)▸hx2⟩) Xd Xj Xx rfl
    .have hno:¬MayC c:=λq=>h9 (q.link a x hx).body
     refine zcq 22 Y ?_;refine jMq Xk ?_;refine z0q 2 Y ?_;exact gQ 0 Y Xz
   .have hno:¬MayC c:=λq=>by
     obtain⟨w,hw⟩:∃w,c.links[a-1]? =some w:=⟨_,Za Xd⟩
     exact h7 (hph w Xd hw▸(q.link a x hx).fol w Xd hw)
    refine zcq 37 Y ?_;refine jMq Xk ?_;refine z0q 2 Y ?_;exact gQ 0 Y Xz
  .have hF:0<a->∀w,c.links[a-1]? =some w->zCq x.hdr w.hdr:=λh0=>absurd h0 Xd
   refine gZ 11 Y er ?_;refine gD 2 Y (λh7=>?_) (λh7=>?_)
   .have hno:¬MayC c:=λq=>h7 (q.link a x hx).recs
    refine zcq 27 Y ?_;refine jMq Xk ?_;refine z0q 2 Y ?_;exact gQ 0 Y Xz
   refine gC 4 Y (isq x.ds x.xs false false hB.tx hB.dl hB.xl) ?_;refine gB 0 Y (λh8=>?_) (λh8=>?_)
   .refine gC 7 Y (oZq c.tree x.root) ?_;refine gC 0 Y (xwq (cjq c x.root) hc.nodes) ?_;refine gU 0 Y ?_;refine gS 3 Y (λh9=>?_) (λh9=>?_)
    .have hno:¬MayC c:=λq=>h9 (by rw[Zt (q.link a x hx).tree])
     refine zcq 8 Y ?_;refine jMq Xk ?_;refine z0q 2 Y ?_;exact gQ 0 Y Xz
    .have hA:nJq (cjq c x.root):=YR λq=>h9 (by rw[Zg q];decide)
     have hx2:LkM c a x:=⟨by omega,hok,λw h0 hw=>hF h0 w hw,by omega,h8,hA⟩;refine gWr 4 Y ?_;refine zcq 3 Y ?_;exact dOq (a+1) (⟨rfl,λj w hj hw=>by rcases ZI.1 hj with q|rfl;exact hI j w q hw;exact ZB (hx.symm.trans hw)▸hx2⟩) Xd Xj Xx rfl
   .have hno:¬MayC c:=λq=>h8 (q.link a x hx).body
    refine zcq 22 Y ?_;refine jMq Xk ?_;refine z0q 2 Y ?_;exact gQ 0 Y Xz
 .obtain⟨rfl,hI⟩:=hI;have yes:MayC c:=⟨by omega,by omega,λw hw=>by cases hz.symm.trans hw;omega,λj w hw=>hI j w (by have:=y2q hw;simpa using this) hw⟩;refine z0q 8 Y ?_;exact gQ 0 Y Yn
structure SmallC(c:Ch):Prop where
 nodes:c.tree.nodes.length<=1000000
 vals:∀x∈c.tree.nodes,x.val.length<=70368744177664
 len:c.links.length<=1000000
 link:∀x∈c.links,x.ds.length<=1000000/\x.xs.length<=1000000/\x.rs.length<=1000000
def Qhq(c:Ch)(n:Nat):Prop:=Jeq c.tree 900\/n<c.links.length\/∃x∈c.links,yLq x.ds x.xs\/40<x.rs.length
noncomputable instance(c:Ch)(n:Nat):Decidable (Qhq c n):=Classical.propDecidable _
theorem mPq(c:Ch)(n:Nat)(hb:c.tree.nodes.length<=4611686018427387903)(hl:c.links.length<=4611686018427387903):PS cfg G 67 [chG c,.int .i64 (n:Int)] (.bool (decide (Qhq c n))):=by
 have e:(c.links.map lkG).length=c.links.length:=Zd _;by_cases hg:Jeq c.tree 900
 .skip
  exact gI 11 Y (λR k0=>gC 0 Y (zoq (w':=.bool true) (hIq c.tree 900 hb Xd) (by rw[Zn (hg)])) (gQ 17 Y (Zxq (.inl hg))))
 refine gI 11 Y (λR k0=>gC 0 Y (zoq (w':=.bool false) (hIq c.tree 900 hb Xd) (by rw[Zo (hg)])) (gZ 3 Y e (gU 1 Y ?_)));refine gS 3 Y (λh1=>?_) (λh1=>?_)
 .exact gQ 7 Y (Zxq (.inr (.inl Xd)))
 refine gLo (α:=Nat) 9 (λi=>i<=c.links.length/\∀j x,j<i->c.links[j]? =some x->¬(yLq x.ds x.xs\/40<x.rs.length)) (λi=>[(5,.int .i64 (i:Int))]) [2,4] (λi=>c.links.length-i) (0) rfl (⟨Zi _,λj x h=>by omega⟩) (λi hI=>?_);obtain⟨g1,g2⟩:=hI;refine gZ 6 Y e ?_;refine gS 3 Y (λh2=>?_) (λh2=>?_)
 .have hi:i<c.links.length:=by omega
  obtain⟨x,hx⟩:∃x,c.links[i]? =some x:=⟨_,Za hi⟩
  have er:(x.rs.map rcW).length=x.rs.length:=Zd _;refine gP 9 Y (zyq (i:=i) Y Y Y Y Y Y Y (zgq lkG hx)) (gC 2 Y (hNq x.ds x.xs false false) ?_);refine gB 0 Y (λh3=>?_) (λh3=>?_)
  .exact gO 21 Y (gQ 2 Y (Zxq (.inr (.inr ⟨x,Zf hx,.inl h3⟩))))
  .refine gP 4 Y (zyq (i:=i) Y Y Y Y Y Y Y (zgq lkG hx)) (gZ 2 Y er (gU 0 Y ?_));refine gS 3 Y (λh4=>?_) (λh4=>?_)
   .exact gO 8 Y (gQ 2 Y (Zxq (.inr (.inr ⟨x,Zf hx,.inr Xd⟩))))
   .exact gA 5 Y (i+1) (gAg 2 Y (i+1) (⟨hi,λj y hj hy=>by rcases ZI.1 hj with q|rfl;exact g2 j y q hy;exact ZB (hx.symm.trans hy)▸λq=>q.elim h3 Xd⟩) Xd)
 .have no:¬Qhq c n:=by
   rintro(q|q|⟨x,hx,q⟩)
   .exact hg q
   .omega
   .obtain⟨j,hj⟩:=List.getElem?_of_mem hx;exact g2 j x Qa hj q
  exact gO 2 Y (gQ 8 Y (qtq no))
theorem mOq(v:Vw)(n:Nat)(hb:v.ch.tree.nodes.length<=4611686018427387903)(hl:v.ch.links.length<=4611686018427387903):PS cfg G 22 [vwG v,.int .i64 (n:Int)] (.bool (decide (Qhq v.ch n))):=by
 exact gI 11 Y (λR k0=>gC 0 Y (mPq v.ch n hb hl) (gQa 4 Y))
theorem bHq{c:Ch}{n:Nat}(h:¬Qhq c n):c.tree.nodes.length<=900/\c.links.length<=n/\∀x∈c.links,¬yLq x.ds x.xs/\x.rs.length<=40:=
 ⟨Nat.le_of_not_lt λq=>h (.inl (.inl q)),Nat.le_of_not_lt λq=>h (.inr (.inl q)),λx hx=>⟨λq=>h (.inr (.inr ⟨x,hx,.inl q⟩)),Nat.le_of_not_lt λq=>h (.inr (.inr ⟨x,hx,.inr q⟩))⟩⟩
theorem r8q(x:Lk)(h:x.ds.length<=1000000/\x.xs.length<=1000000/\x.rs.length<=1000000):PS cfg G 203 [lkG x] (lkG x):=by
 obtain⟨h1,h2,h3⟩:=h;exact gI 11 Y (λR k0=>gC 0 Y (wRq x.ds false Xd) (gC 3 Y (nmq x.xs false Xd) (gC 9 Y (Btq x.rs false Xd) (gQa 11 Y))))
theorem wKq(l:List Lk)(f:Bool)(hl:l.length<=1000000)(hs:∀x∈l,x.ds.length<=1000000/\x.xs.length<=1000000/\x.rs.length<=1000000):PL cfg G 202 [.fz (l.map lkG) 102 f,.fn 203 [] []] 88 102 (l.map lkG):=by
 have e:(l.map lkG).length=l.length:=Zd _;intro R;refine gIs 14 Y (λk0=>?_);refine gZ 0 Y e (zcq 4 Y ?_);refine vCq (α:=Nat) (λi=>i<=l.length) 5 (λi=>(l.take i).map lkG) 88 102 (λi=>[(10,.int .i64 (i:Int))]) [(1,_),(4,_),(8,_),(9,_)] _ (λi=>l.length-i) (0) ⟨rfl,rfl,rfl,rfl,trivial⟩ (Zi _) ⟨rfl,trivial⟩ Y Y Y (λi hI=>?_);refine zEq 6 Y ?_;refine gS 0 Y (λh1=>?_) (λh1=>?_)
 .have hi:i<l.length:=by omega
  obtain⟨x,hx⟩:∃x,l[i]? =some x:=⟨_,Za hi⟩
  have es:(l.take (i+1)).map lkG=(l.take i).map lkG++[lkG x]:=by rw[YF,hx,Z5];rfl
  have el:((l.take i).map lkG).length=i:=by simp;omega
  have ep:acq ((l.take i).map lkG++[lkG x])=true:=by rw[<-es];exact vZq _
  have ep2:acq ((l.take i).map lkG)=true:=vZq _;exact gP 6 Y (zyq (i:=i) Y Y Y Y Y Y Y (zgq lkG hx)) (gC 9 Y (r8q x (hs x (Zf hx))) (gM 1 Y (qaq Y Y (Ztq [_,_] (k:=BQq) (news:=[lkG x]) Y Y Y Y Y (umq Y Y Y Y) Xi (by show(((l.take i).map lkG).length+1)*192<=_;omega) (by show((l.take i).map lkG).length+1<=_;omega) rfl Xi)) (gWr 5 Y (zcq 2 Y (koq 3 (i+1) (hi) Xd (Zi _) (es) Xu Xd Yo rfl Ya ⟨rfl,trivial⟩ ⟨rfl,rfl,rfl,rfl,trivial⟩ Xh Xh rfl Xn Xj Xx)))))
 .have hi:i=l.length:=by omega
  subst hi;rw[List.take_length];exact zcq 2 Y (qUq Xk (z0q 9 Y (fin Jm (ynq (fr2:=[(4,gW 0 102 (l.map lkG))]) ⟨rfl,trivial⟩ Y Y) rfl ⟨rfl,rfl,rfl,rfl⟩)))
theorem SmallC.vl{c:Ch}(h:SmallC c):c.tree.nodes.length<=1000000000:=by have:=h.nodes;omega
noncomputable def BVq(b:Nat)(c:Ch):W:=.agg 3 [tW c.tree,.sl b 0 0 c.links.length 102 none]
noncomputable def ownH(b0 b1 b:Nat)(c:Ch):HpW:=[(b,88,.arr (c.links.length*102) 102 (c.links.map lkG)),(b1,31,BVq b c),(b0,31,chG c)]
theorem r0q(c:Ch)(hs:SmallC c)(hne:c.links≠[]):yxq cfg G 148 0 [chG c] [] λw hp nw=>w=BVq 2 c/\hp=ownH 0 1 2 c/\nw=3:=by
 have hne2:c.links.map lkG≠[]:=by simpa using hne
 have e:(c.links.map lkG).length=c.links.length:=Zd _;intro R;refine gIs 10 Y (λk0=>?_);refine gC 0 Y (cmq c.tree hs.vl hs.vals) (zcq 2 Y ?_)
 (refine qmq rfl (f1q Y Y Y Y Y Qv (wKq c.links false hs.len hs.link) (vZq _) ?_);refine⟨by first|rfl|kernel_rfl,?_⟩;rw[YDq hne2,YEq hne2,e])
 exact yhq 5 Y (fin Jm Ent.refl rfl ⟨rfl,rfl,rfl,rfl⟩)
theorem rZq(c:Ch)(hs:SmallC c)(hne:c.links≠[]):PS cfg G 148 [chG c] (chG c):=λR=>
 u2q (kOq (r0q c hs hne) (Q:=λw hp _=>View (apq hp) w (chG c)) (λw hp nw h=>by
  obtain⟨rfl,rfl,rfl⟩:=h;exact .agg (.cons (.pur (fYq _)) (.cons (.sl (full:=false) rfl (vZq _) (zvq Xg (by rw[Zd]) rfl) Xk) .nil))) R)
theorem r9q(c:Ch)(hc:OkC c)(h:MayC c){y:Lk}(hy:c.links[c.links.length-1]? =some y):PS cfg glK 18 [chG c] (.tup [hdW y.hdr,.int .i64 0]):=by
 have e:(c.links.map lkG).length=c.links.length:=Zd _;have h1:=h.one;have hl:=hc.len;exact gI 11 Y (λR k0=>gC 0 Y (zoq (w':=.int .i64 0) (ZZq c hc) (by rw[Zt h])) (gFa 6 Y (gZ 11 Y e (gA 0 Y (c.links.length-1) (gP 0 Y (zyq (i:=c.links.length-1) Y Y Y Y Y Y Y (zgq lkG hy)) (gQa 7 Y))))))
theorem nhq(c:Ch)(hc:OkC c)(hs:SmallC c)(i:Nat)(hm:MayC c){x:Lk}(hx:c.links[i]? =some x):PS cfg glK 212 [chG c,.int .i64 (i:Int)] (.tup [tW (cjq c x.root),.int .i64 0]):=by
 have e:(c.links.map lkG).length=c.links.length:=Zd _;have hi:=y2q hx;refine gI 12 Y (λR k0=>gC 0 Y (zoq (w':=.int .i64 0) (ZZq c hc) Xv) (gFa 0 Y (gF 7 Y (ltI_not.2 Xd) (gZ 4 Y e (gF 0 Y (Ze not (ltI_iff.2 Xd)) (gP 15 Y (zyq (i:=i) Y Y Y Y Y Y Y (zgq lkG hx)) (gC 2 Y (oZq c.tree x.root) ?_)))))));first|refine gC 0 Y (cmq (cjq c x.root) hs.vl hs.vals) ?_|refine gC 0 Y (cmq c.tree hs.vl hs.vals) ?_
 exact gQa 5 Y
end
section
attribute [local irreducible] CoW OpW FlW aeq aiq
def aNq(v:Vw):Prop:=MayC v.ch/\(0<=v.final/\v.final<(v.ch.links.length:Int)/\0<=v.number/\v.number<=1073741823)
noncomputable instance(v:Vw):Decidable (aNq v):=Classical.propDecidable _
theorem jrq(v:Vw)(hc:OkC v.ch):PS cfg glK 29 [vwG v] (.int .i64 (if aNq v then 0 else 8)):=by
 have e:(v.ch.links.map lkG).length=v.ch.links.length:=Zd _;by_cases hm:MayC v.ch
 .skip
  refine gI 11 Y (λR k0=>gC 0 Y (zoq (w':=.int .i64 0) (ZZq v.ch hc) Xv) (gFa 0 Y ?_));refine gD 3 Y (λh1=>?_) (λh1=>?_)
  .exact gQ 30 Y Xt
  .refine gZ 7 Y e ?_;refine gD 0 Y (λh2=>?_) (λh2=>?_)
   .exact gQ 21 Y Xt
   .refine gD 4 Y (λh3=>?_) (λh3=>?_)
    .exact gQ 16 Y Xt
    .refine gU 4 Y ?_;refine gS 3 Y (λh4=>?_) (λh4=>?_)
     .exact gQ 7 Y Xt
     .exact gQ 8 Y Xt
 .skip
  exact gI 11 Y (λR k0=>gC 0 Y (zoq (w':=.int .i64 8) (ZZq v.ch hc) (by rw[Zg hm])) (gTa 0 Y (gQ 34 Y (by rw[Zg λq=>hm q.1]))))
theorem oVq(v:Vw)(hs:SmallC v.ch)(hne:v.ch.links≠[]):PS cfg glK 83 [vwG v] (vwG v):=by
 exact gI 10 Y (λR k0=>gC 0 Y (rZq v.ch hs hne) (gQa 11 Y))
def oJq:Nat->List Lk->List (Nat×RcI)
 |_,[]=>[]
 |h,x::l=>x.rs.map (λr=>(h,r))++oJq (h+1) l
theorem ssq{l:List Lk}{i:Nat}{x:Lk}(h:l[i]? =some x):oJq i (l.drop i)=x.rs.map (λr=>(i,r))++oJq (i+1) (l.drop (i+1)):=by
 rw[uOq h];rfl
noncomputable def rLq(p:Nat×RcI):List W:=[.int .i64 (p.1:Int),rcW p.2]
theorem rKq(l:List (Nat×RcI)):∀y∈l,acq (rLq y)=true/\(rLq y).length=2:=λy _=>⟨by simp[rLq,acq,abq],rfl⟩
noncomputable def sKq(k:Dig)(p:Nat×RcI):Bool:=decide (p.2.id=k)
noncomputable def ehq(c:Ch)(k:Dig):Option (Nat×RcI):=(oJq 0 c.links).find? (sKq k)
theorem oXq(v:Vw):PS cfg glK 211 [vwG v] (.fn 242 [] [.fel (vwG v)]):=by
 have hp:=oUq v;refine gI 13 Y (λR k0=>?_);refine yUq (fr2:=[(2,_)]) Xq ?_ Y Y
 (repeat (first|exact trivial|refine And.symm ⟨?_,_,rfl,?_⟩))<;>(repeat (first|exact .nil|refine .cons ?_ ?_|refine .fn ?_ ?_|(refine yYq Y ?_ rfl;(first|rfl|(focus (simp;done))))|(refine .sl Y ?_ rfl Xk;(first|rfl|(focus (simp;done))))|(refine .pur ?_;(first|rfl|(focus (simp;done))))|refine .agg ?_|refine .arr ?_|refine .tup ?_))
theorem ldq(v:Vw)(hc:OkC v.ch):qAq cfg glK 242 [.fel (vwG v)] ((oJq 0 v.ch.links).map rLq):=by
 have e:(v.ch.links.map lkG).length=v.ch.links.length:=Zd _;have hl:=hc.len;refine xOq (fn:=Tryz.f242) Y Y Y (Yb rfl) (λL E R hy k0=>?_);refine ZXq 3 (zEq 8 Y (gZ 0 Y e (zcq 4 Y ?_)));refine vBq (α:=Nat×Res) (λp=>p.1<=v.ch.links.length/\Yl cfg glK L E ((oJq p.1 (v.ch.links.drop p.1)).map rLq) p.2) (λp=>[(11,.int .i64 (p.1:Int))]) [(0,_),(9,_),(10,_)] (λp=>p.2) (λp=>v.ch.links.length-p.1) ((0,R)) ⟨rfl,rfl,rfl,trivial⟩ (⟨Zi _,hy⟩) ⟨rfl,trivial⟩ rfl (λp hI=>?_);obtain⟨i,R⟩:=p;obtain⟨hi,hy⟩:=hI;simp only at hi hy⊢;refine zEq 6 Y ?_;refine gS 0 Y (λh1=>?_) (λh1=>?_)
 .have hi':i<v.ch.links.length:=by omega
  obtain⟨x,hx⟩:∃x,v.ch.links[i]? =some x:=⟨_,Za hi'⟩
  have er:(x.rs.map rcW).length=x.rs.length:=Zd _;have hxr:=hc.recs x (Zf hx);rw[ssq hx] at hy;refine gP 7 Y (zyq (i:=i) Y Y Y Y Y Y Y (zgq lkG hx)) (gZ 10 Y er (zcq 4 Y ?_));refine vBq (α:=Nat×Res) (λq=>q.1<=x.rs.length/\Yl cfg glK L E (((x.rs.drop q.1).map (λr=>(i,r))++oJq (i+1) (v.ch.links.drop (i+1))).map rLq) q.2) (λq=>[(19,.int .i64 (q.1:Int))]) [(0,_),(3,_),(4,_),(9,_),(10,_),(11,_),(12,_),(13,_),(14,_),(15,_),(16,_),(17,_),(18,_)] (λq=>q.2) (λq=>x.rs.length-q.1) ((0,R)) ⟨rfl,rfl,rfl,rfl,rfl,rfl,rfl,rfl,rfl,rfl,rfl,rfl,rfl,trivial⟩ (⟨Zi _,hy⟩) ⟨rfl,trivial⟩ rfl (λq hI=>?_);obtain⟨j,R⟩:=q;obtain⟨hj,hy⟩:=hI;simp only at hj hy⊢;refine zEq 6 Y ?_;refine gS 0 Y (λh2=>?_) (λh2=>?_)
  .have hj':j<x.rs.length:=by omega
   obtain⟨r,hr⟩:∃r,x.rs[j]? =some r:=⟨_,Za hj'⟩
   rw[uOq hr,ZC,YW,ZC] at hy;refine gP 6 Y (zyq (i:=j) Y Y Y Y Y Y Y (zgq rcW hr)) ?_;refine gSo 10 Y (q1q Y Y Y (hy) (λb R1 hb=>?_));refine gS 3 Y (λh3=>?_) (λh3=>?_)
   .cases b with
    |true=>cases h3
    |false=>
     exact zPq 3 Y (gO 0 Y (gO 3 Y (zcq 1 Y (xdq Yq (kuq (.inl rfl) rfl hb)))))
   .cases b with
    |false=>exact absurd rfl h3
    |true=>
     exact zPq 4 Y (gA 0 Y (j+1) (gAg 2 Y ((j+1,R1)) (⟨hj',hb⟩) Xw))
  .obtain rfl:j=x.rs.length:=by omega
   rw[List.drop_length] at hy;refine gO 2 Y (gA 4 Y (i+1) (zcq 2 Y ?_));skip
   exact gAg 0 Y ((i+1,R)) (⟨hi',hy⟩) Xw
 .refine gO 2 Y (zcq 1 Y (xdq Yq ?_));obtain rfl:i=v.ch.links.length:=by omega
  rw[List.drop_length] at hy;exact kuq (.inl rfl) rfl hy
noncomputable def BUq:Option (Nat×RcI) ->W
 |some p=>.tup [.int .i64 (p.1:Int),rcW p.2,.int .i64 0]
 |none=>.tup [.int .i64 0,rcW ⟨0,zeroD,0⟩,.int .i64 6]
theorem s0q(v:Vw)(hc:OkC v.ch)(hm:aNq v)(k:Dig):PS cfg glK 161 [vwG v,dW k] (BUq (ehq v.ch k)):=by
 obtain⟨ls,hls⟩:∃ls,oJq 0 v.ch.links=ls:=⟨_,rfl⟩
 have it:=ldq v hc;unfold ehq;rw[hls] at it⊢;refine gIv 13 Y (λR k0=>gC 0 Y (zoq (w':=.int .i64 0) (jrq v hc) Xv) (gFa 6 Y (gC 9 Y (oXq v) (zcq 3 Y ?_))));refine vAq (rLq) (ls) (λi (_:Unit)=>ls.find? (sKq k)=(ls.drop i).find? (sKq k)) (λ_=>R) (()) rfl Xn (it) (rKq ls) (rfl) rfl (λi a y hy hI=>?_) (λa hI=>?_)
 .rw[uOq hy,List.find?_cons] at hI;obtain⟨hh,r⟩:=y;refine zEq 9 Y (Qnq (zEq 6 Y (gUe 0 Y (yIq Y Y Y Y (yzq Y Y Y Y Y Y _ _ 250)) y9q ?_)));refine gS 2 Y (λh1=>?_) (λh1=>?_)
  .have hk:sKq k (hh,r)=true:=Zn Yh;rw[hk] at hI;have hI:ls.find? (sKq k)=some (hh,r):=hI;rw[hI];exact zcq 11 Y (ZKq Xk (z0q 2 Y (yTq Jm rfl (.pur Qb))))
  .have hk:sKq k (hh,r)=false:=Zo Yh;rw[hk] at hI;exact zcq 2 Y (ZJq (()) (hI) Xd Yd rfl)
 .rw[List.drop_length] at hI;rw[hI];exact z0q 11 Y (yTq Jm rfl (.tup (.cons (.pur rfl) (.cons (.agg (.cons (.pur rfl) (.cons z9q (.cons (.pur rfl) .nil)))) (.cons (.pur rfl) .nil)))))
def T.road:T->Nat->Dig->List T
 |.fork l r,d,k=>if bitN k d=0 then r::l.road (d+1) k else l::r.road (d+1) k
 |_,_,_=>[]
def T.tail:T->Nat->Dig->T
 |.fork l r,d,k=>if bitN k d=0 then l.tail (d+1) k else r.tail (d+1) k
 |t,_,_=>t
structure Side(t0:T)(ns:List Node)(k:Dig)(c d:Nat)(b:Dig)(s:T):Prop where
 rep:Rep ns c s
 zr:Zr (d+1) b
 ok:s.ok (d+1) b=true
 short:vHq s
 road:(t0.road 0 k)[d]? =some s
 few:s.all.length<=1000000
structure OnR(t0:T)(ns:List Node)(k:Dig)(n d:Nat)(b:Dig)(t:T):Prop where
 rep:Rep ns n t
 zr:Zr d b
 ok:t.ok d b=true
 le:d<=256
 road:(t0.road 0 k).drop d=t.road d k
 tail:t0.tail 0 k=t.tail d k
 short:vHq t
 few:t.all.length<=1000000
theorem OnR.go{t0:T}{ns:List Node}{k:Dig}{n d:Nat}{b:Dig}{L R:T}(h:OnR t0 ns k n d b (.fork L R)):∃(i:Nat) (k':Dig) (v:List UInt8) (l r:Nat),n=i+1/\ns[i]? =some ⟨false,k',v,l,r⟩/\d<256/\
  ((bitN k d=0/\OnR t0 ns k l (d+1) b L/\Side t0 ns k r d (jRq b d) R)\/(bitN k d=1/\OnR t0 ns k r (d+1) (jRq b d) R/\Side t0 ns k l d b L)):=by
 obtain⟨rep,hz,ok,hle,road,tail,sh,few⟩:=h;simp only[T.all,Zj] at few;obtain⟨hd,okL,okR,_⟩:=ok_fork.1 ok;have sL:vHq L:=λp hp=>sh p (by simp[T.all,hp])
 have sR:vHq R:=λp hp=>sh p (by simp[T.all,hp])
 have hat:∀{s:T} {q:List T},(t0.road 0 k).drop d=s::q->(t0.road 0 k)[d]? =some s/\(t0.road 0 k).drop (d+1)=q:=λ{s q} e=>by
  constructor
  .rw[<-List.head?_drop,e];rfl
  .rw[<-List.tail_drop,e];rfl
 cases rep with
 |fork hx hl hr hL hR=>
  rename_i i l r k' v;refine⟨i,k',v,l,r,rfl,hx,hd,?_⟩;by_cases hb:bitN k d=0
  .simp only[T.road,T.tail,Zt hb] at road tail;obtain⟨e1,e2⟩:=hat road;exact .inl ⟨hb,⟨hL,uuq hz,okL,hd,e2,tail,sL,by omega⟩,⟨hR,utq hz hd,okR,sR,e1,by omega⟩⟩
  .simp only[T.road,T.tail,Zg hb] at road tail;obtain⟨e1,e2⟩:=hat road;have:=Qbq k d;exact .inr ⟨by omega,⟨hR,utq hz hd,okR,hd,e2,tail,sR,by omega⟩,⟨hL,uuq hz,okL,sL,e1,by omega⟩⟩
theorem OnR.done{t0:T}{ns:List Node}{k:Dig}{n d:Nat}{b:Dig}{t:T}(h:OnR t0 ns k n d b t)(hf:t.isFork=false):t0.tail 0 k=t/\(t0.road 0 k).length<=d:=by
 have e:=h.road;have e2:=h.tail;cases t with
 |nil=>exact⟨e2,by rw[<-List.drop_eq_nil_iff];exact e⟩
 |leaf=>exact⟨e2,by rw[<-List.drop_eq_nil_iff];exact e⟩
 |fork=>cases hf
theorem OnR.start{t:Tree}{n:Nat}{t0:T}(h:IsT t n t0)(hs:vHq t0)(k:Dig):OnR t0 t.nodes k n 0 zeroD t0:=⟨h.rep,cfq,h.ok,by omega,rfl,rfl,hs,by have:=h.all_le;have:=h.len;omega⟩
noncomputable def sdW(t:T):W:=dW (b9q t)
@[simp] theorem jFq(l:List T):acq (l.map sdW)=true:=yfq (λt=>qhq _) l
theorem QCq{t0 s:T}{k:Dig}{d:Nat}(h:(t0.road 0 k)[d]? =some s):((t0.road 0 k).take (d+1)).map sdW=((t0.road 0 k).take d).map sdW++[sdW s]:=by
 rw[YF,h,Z5];rfl
noncomputable def rJq:T->W
 |.leaf x v=>nW ⟨true,x,v,0,0⟩
 |_=>nW ⟨false,zeroD,[],0,0⟩
theorem meq{ns:List Node}(h:okN ns){i:Nat}{k:Dig}{v:List UInt8}{l r:Int}(hx:ns[i]? =some ⟨true,k,v,l,r⟩):l=0/\r=0:=by
 have h1:=h i _ hx;simp only[cMq,if_true] at h1;exact⟨h1.1,h1.2.1⟩
theorem Jqq{ns:List Node}(h:okN ns):∀{n:Nat} {t:T},Rep ns n t->vHq t
 |_,_,.nil=>λp hp=>by simp[T.all] at hp
 |_,_,.leaf hx=>λp hp=>by
  simp only[T.all,ZF,YG,or_false] at hp;subst hp;exact Nat.lt_of_le_of_lt (Ytq h hx).2 Xg
 |_,_,.fork _ _ _ hL hR=>λp hp=>by
  simp only[T.all,ZT] at hp;rcases hp with hp|hp
  .exact Jqq h hL p hp
  .exact Jqq h hR p hp
theorem o7q(t:Tree)(n:Nat)(t0:T)(h:IsT t n t0)(k:Dig):PS cfg glK 243 [tW t,dW k] (.tup [rJq (t0.tail 0 k),.fz ((t0.road 0 k).map sdW) 32 false,.int .i64 0]):=by
 have hl:=h.len;have hs:=Jqq h.okn h.rep;have hr:=h.root;obtain⟨ns,root⟩:=t;simp only at hl hr;subst hr;refine gIv 13 Y (λR k0=>?_);refine gC 0 Y (zoq (w':=.int .i64 0) (k4q ⟨ns,((n:Nat):Int)⟩ Qk) (by rw[Zt h.may])) ?_;refine gFa 6 Y ?_;refine zcq 19 Y ?_;refine vCq (α:=Nat×Nat×Dig×T) (λp=>OnR t0 ns k p.1 p.2.1 p.2.2.1 p.2.2.2) 5 (λp=>((t0.road 0 k).take p.2.1).map sdW) 23 32 (λp=>[(8,.int .i64 (p.1:Int)),(9,.int .i64 (p.2.1:Int))]) [(2,_),(3,_),(4,_),(6,_)] _ (λp=>257-p.2.1) ((n,0,zeroD,t0)) ⟨rfl,rfl,rfl,rfl,trivial⟩ (OnR.start h hs k) ⟨rfl,rfl,trivial⟩ Y Y Y (λp hI=>?_);obtain⟨i,d,b,u⟩:=p;have hI:OnR t0 ns k i d b u:=hI;have hle:=hI.le;cases u with
 |fork L R=>
  skip
  obtain⟨i,k',v,l,r,rfl,hx,hd,⟨hb,hn,hsd⟩|⟨hb,hn,hsd⟩⟩:=hI.go
  .have hi:=(Zq.1 hx).1;have es:=QCq hsd.road;have ep:=jFq ((t0.road 0 k).take (d+1));have ep2:=jFq ((t0.road 0 k).take d);have el:(((t0.road 0 k).take d).map sdW).length<=256:=by rw[Zd,Zu];omega
   rw[es] at ep;refine zEq 4 Y ?_;refine gT 0 Y (ltI_iff.2 Xd) ?_;refine gA 4 Y (i) ?_;refine gP 0 Y (zyq (i:=i) Y Y Y Y Y Y Y (zgq nW hx)) ?_;refine gTa 2 Y ?_;refine gA 13 Y (i) ?_;refine gP 0 Y (zyq (i:=i) Y Y Y Y Y Y Y (zgq nW hx)) ?_;refine gC 1 Y (j6q _) ?_;refine gC 2 Y (dyq k d 0 hd hb) ?_;refine gV 10 Y (show _= .int .u8 1 by first|rfl|(simp;done)) ?_;refine gX 0 Y ?_;refine gC 1 Y (nSq ⟨ns,((n:Nat):Int)⟩ Qk R r hsd.rep hsd.short) ?_;refine zcq 1 Y ?_;refine vqq rfl (qaq Y Y (Ztq [_,_,_,_,_] (k:=AAq) (news:=[sdW R]) Y Y Y Y Y (umq Y Y Y Y) Xi (by show((((t0.road 0 k).take d).map sdW).length+1)*32<=_;omega) (by show(((t0.road 0 k).take d).map sdW).length+1<=_;omega) rfl Xi)) (wuq Xr Xr) ?_;refine yhq 5 Y ?_;refine gX 0 Y ?_;refine gA 7 Y (d+1) ?_;refine zcq 2 Y ?_;exact koq 6 ((l,d+1,b,L)) (hn) Xw (Zi _) (es) Xu Xd Yo rfl Ya ⟨rfl,rfl,trivial⟩ ⟨rfl,rfl,rfl,rfl,trivial⟩ Xh Xh rfl Xn Xj Xx
  .skip
   have hi:=(Zq.1 hx).1;have es:=QCq hsd.road;have ep:=jFq ((t0.road 0 k).take (d+1));have ep2:=jFq ((t0.road 0 k).take d);have el:(((t0.road 0 k).take d).map sdW).length<=256:=by rw[Zd,Zu];omega
   rw[es] at ep;refine zEq 4 Y ?_;refine gT 0 Y (ltI_iff.2 Xd) ?_;refine gA 4 Y (i) ?_;refine gP 0 Y (zyq (i:=i) Y Y Y Y Y Y Y (zgq nW hx)) ?_;refine gTa 2 Y ?_;refine gA 13 Y (i) ?_;refine gP 0 Y (zyq (i:=i) Y Y Y Y Y Y Y (zgq nW hx)) ?_;refine gC 1 Y (j6q _) ?_;refine gC 2 Y (dyq k d 1 hd hb) ?_;refine gV 10 Y (show _= .int .u8 0 by first|rfl|(simp;done)) ?_;refine gX 0 Y ?_;refine gC 1 Y (nSq ⟨ns,((n:Nat):Int)⟩ Qk L l hsd.rep hsd.short) ?_;refine zcq 1 Y ?_;refine vqq rfl (qaq Y Y (Ztq [_,_,_,_,_] (k:=AAq) (news:=[sdW L]) Y Y Y Y Y (umq Y Y Y Y) Xi (by show((((t0.road 0 k).take d).map sdW).length+1)*32<=_;omega) (by show(((t0.road 0 k).take d).map sdW).length+1<=_;omega) rfl Xi)) (wuq Xr Xr) ?_;refine yhq 5 Y ?_;refine gX 0 Y ?_;refine gA 7 Y (d+1) ?_;refine zcq 2 Y ?_;exact koq 6 ((r,d+1,jRq b d,R)) (hn) Xw (Zi _) (es) Xu Xd Yo rfl Ya ⟨rfl,rfl,trivial⟩ ⟨rfl,rfl,rfl,rfl,trivial⟩ Xh Xh rfl Xn Xj Xx
 |nil=>
  obtain⟨e1,e2⟩:=hI.done rfl;have hr:=hI.rep;obtain rfl:i=0:=by cases hr;rfl
  have ep:=jFq (t0.road 0 k);rw[Zm (by exact e2)];refine zEq 4 Y ?_;refine gF 0 Y (ltI_not.2 Xd) ?_;refine zcq 15 Y ?_;refine qUq Xk ?_;refine z0q 6 Y ?_;refine gF 0 Y (ltI_not.2 Xd) ?_;refine zcq 15 Y ?_;exact yTq Jm rfl (.tup (.cons (by rw[e1];exact .agg (.cons (.pur rfl) (.cons z9q (.cons .nilfz (.cons (.pur rfl) (.cons (.pur rfl) .nil)))))) (.cons (aYq (H0:=[_,_,_]) (b:=3) (e:=32) (ty:=23) Xg ep Xi) (.cons (.pur rfl) .nil))))
 |leaf x v=>
  obtain⟨e1,e2⟩:=hI.done rfl;have hr:=hI.rep;obtain⟨i,l,r,rfl,hx⟩:∃(j:Nat) (l r:Int),i=j+1/\ns[j]? =some ⟨true,x,v,l,r⟩:=by cases hr with|leaf h=>exact⟨_,_,_,rfl,h⟩
  have hi:=(Zq.1 hx).1;obtain⟨rfl,rfl⟩:=meq h.okn hx;have hv:=Ytq h.okn hx;have ep:=jFq (t0.road 0 k);rw[Zm (by exact e2)];refine zEq 4 Y ?_;refine gT 0 Y (ltI_iff.2 Xd) ?_;refine gA 4 Y (i) ?_;refine gP 0 Y (zyq (i:=i) Y Y Y Y Y Y Y (zgq nW hx)) ?_;refine gFa 2 Y ?_;refine zcq 6 Y ?_;refine qUq Xk ?_;refine z0q 6 Y ?_;refine gT 0 Y (ltI_iff.2 Xd) ?_;refine gA 8 Y (i) ?_;refine gP 0 Y (zyq (i:=i) Y Y Y Y Y Y Y (zgq nW hx)) ?_;refine gC 7 Y (Zaq v false Xd) ?_;refine zcq 14 Y ?_;exact yTq Jm rfl (.tup (.cons (by rw[e1];exact .pur (by simp[rJq])) (.cons (aYq (H0:=[_,_,_]) (b:=3) (e:=32) (ty:=23) Xg ep Xi) (.cons (.pur rfl) .nil))))
noncomputable def prG(k:Dig)(e:Int)(o:Dig)(v s:W):W:=.agg 67 [dW k,.int .u8 e,dW o,v,s]
noncomputable def prT(k:Dig)(s:W):T->W
 |.leaf x v=>if x=k then prG k 1 zeroD (bW v) s else prG k 2 x (bW v) s
 |_=>prG k 0 zeroD .nils s
theorem pRq(k:Dig)(s:W)(v:List UInt8):prT k s (.leaf k v)=prG k 1 zeroD (bW v) s:=Zt rfl
theorem gSq{x k:Dig}(s:W)(v:List UInt8)(h:¬x=k):prT k s (.leaf x v)=prG k 2 x (bW v) s:=Zg h
theorem pQq(k:Dig)(s:W):W.agg 67 [dW k,.int .u8 0,.arr 32 1 (List.replicate 32 (.int .u8 (.ofNat 0))),.nils,s]=prG k 0 zeroD .nils s:=by
 unfold prG;rw[v8q]
theorem tIq(t:T)(hf:t.isFork=false)(k:Dig)(s:W):yxq cfg glK 244 1 [.ptr 0 0,rJq t] [(0,415,prG k 0 zeroD .nils s)] λw hp nw=>w= .tup []/\hp=[(1,223,rJq t),(0,415,prT k s t)]/\nw=2:=by
 intro R;cases t with
 |fork=>cases hf
 |nil=>
  refine gIs 11 Y (λk0=>?_);exact gTa 0 Y (zcq 7 Y (fin Jm Ent.refl rfl ⟨rfl,rfl,rfl,rfl⟩))
 |leaf x v=>
  by_cases hx:x=k
  .subst hx;refine gIs 11 Y (λk0=>?_);refine gFa 0 Y (gUe 13 Y (yIq Y Y Y Y (yzq Y Y Y Y Y Y _ _ 250)) y9q ?_);refine gS 3 Y (λh1=>?_) (λh1=>?_)
   .exact zcq 18 Y (fin (.inl rfl) Ent.refl rfl ⟨rfl,rfl,by rw[pRq];rfl,rfl⟩)
   .exfalso;exact(by assumption:¬x=x) rfl
  .skip
   refine gIs 11 Y (λk0=>?_);refine gFa 0 Y (gUe 13 Y (yIq Y Y Y Y (yzq Y Y Y Y Y Y _ _ 250)) y9q ?_);refine gS 3 Y (λh1=>?_) (λh1=>?_)
   .exfalso;exact hx Yh
   .exact zcq 25 Y (fin (.inl rfl) Ent.refl rfl ⟨rfl,rfl,by rw[gSq s v hx];rfl,rfl⟩)
noncomputable def goq(t0:T)(k:Dig):W:=.fz ((t0.road 0 k).map sdW) 32 false
@[simp] theorem Jsq(t0:T)(k:Dig):abq (goq t0 k)=true:=jFq _
@[simp] theorem m7q(t:T):abq (rJq t)=true:=by cases t<;>simp[rJq]
theorem gRq(k:Dig){s:W}(hs:abq s=true)(t:T):abq (prT k s t)=true:=by
 unfold prT prG;split
 .split<;>simp[abq,acq,hs]
 .simp[abq,acq,hs]
theorem fpq(t:T):∃a b c d e,rJq t= .agg 36 [a,b,c,d,e]:=by cases t<;>exact⟨_,_,_,_,_,rfl⟩
theorem gQq(k:Dig)(s:W)(t:T):∃a b c d e,prT k s t= .agg 67 [a,b,c,d,e]:=by
 unfold prT;split
 .split<;>exact⟨_,_,_,_,_,rfl⟩
 .exact⟨_,_,_,_,_,rfl⟩
noncomputable def uoq(t0:T)(k:Dig):W:=match t0.tail 0 k with
 |.leaf x v=>if x=k then prG k 1 zeroD (bW v) (goq t0 k) else prG k 2 x (bW v) (goq t0 k)
 |_=>prG k 0 zeroD (bW []) (goq t0 k)
theorem ZDq:∀(t:T) (d:Nat) (k:Dig),(t.tail d k).isFork=false
 |.nil,_,_=>rfl
 |.leaf _ _,_,_=>rfl
 |.fork l r,d,k=>by
  unfold T.tail;split
  .exact ZDq l _ k
  .exact ZDq r _ k
theorem e2q{blk:Nat->Option W}(t0:T)(k:Dig):View blk (prT k (goq t0 k) (t0.tail 0 k)) (uoq t0 k):=by
 unfold uoq;split
 .rename_i x v e;rw[e];have:=gRq k (Jsq t0 k) (.leaf x v);exact .pur this
 .rename_i h;have e:=ZDq t0 0 k;cases hq:t0.tail 0 k with
  |leaf x v=>exact absurd hq (h x v)
  |fork=>rw[hq] at e;cases e
  |nil=>exact .agg (.cons (.pur Xi) (.cons (.pur rfl) (.cons (.pur Xi) (.cons .nilfz (.cons (.pur (Jsq t0 k)) .nil)))))
theorem pUq(t:Tree)(n:Nat)(t0:T)(h:IsT t n t0)(k:Dig):PS cfg glK 213 [tW t,dW k] (.tup [uoq t0 k,.int .i64 0]):=by
 have hsp:=Jsq t0 k;have hep:=m7q (t0.tail 0 k);have hm0:abq (prG k 0 zeroD .nils (goq t0 k))=true:=by unfold prG;simp[abq,acq]
 have hm1:=gRq k hsp (t0.tail 0 k);have hv:=λblk=>e2q (blk:=blk) t0 k
 have hE:=tIq (t0.tail 0 k) (ZDq t0 0 k) k (goq t0 k);have hR:=o7q t n t0 h k;have hso:acq ((t0.road 0 k).map sdW)=true:=jFq _;obtain⟨a1,a2,a3,a4,a5,ha⟩:=fpq (t0.tail 0 k);obtain⟨b1,b2,b3,b4,b5,hb⟩:=gQq k (goq t0 k) (t0.tail 0 k);rw[ha] at hep hE hR;rw[hb] at hm1 hE hv;refine gIv 12 Y (λR k0=>?_);refine tOq hR ?_ (hw:=by show(abq (.agg 36 [a1,a2,a3,a4,a5])&&(acq ((t0.road 0 k).map sdW)&&true))=true;rw[hep,hso];rfl);refine zhq 14 Y (gFa 0 Y (gV (w':=prG k 0 zeroD .nils (goq t0 k)) 9 Y (pQq k _) (zcq 9 Y ?_)));skip
 refine gSo 0 Y (zGq (ext:=[4]) (ws:=[.ptr 0 0,.agg 36 [a1,a2,a3,a4,a5]]) Y Y Y Y (by show [W.ptr 4 0,_]=[W.ptr 4 0,adq _ (.agg 36 [a1,a2,a3,a4,a5])];rw[zfq hep]) hE Xg Xl Xi (yCq (by rw[zfq hm0];rfl) (zaq hm0)) (by show(true&&(agq 1 (.agg 36 [a1,a2,a3,a4,a5])&&true))=true;rw[zaq hep];rfl) ?_);rintro w hp1 nw1 ⟨rfl,rfl,rfl⟩;simp only[alq,zfq hep,zfq hm1];skip
 exact zcq 13 Y (yTq Jm rfl (.tup (.cons (hv _) (.cons (.pur rfl) .nil))))
theorem cIq(t0:T)(k:Dig):∃a b c d e,uoq t0 k= .agg 67 [a,b,c,d,e]:=by
 unfold uoq;split
 .split<;>exact⟨_,_,_,_,_,rfl⟩
 .exact⟨_,_,_,_,_,rfl⟩
@[simp] theorem e3q(t0:T)(k:Dig):abq (uoq t0 k)=true:=by
 unfold uoq prG;split
 .split<;>simp[abq,acq]
 .simp[abq,acq]
noncomputable def prZ:W:=prG zeroD 0 zeroD (bW []) (.fz [] 32 false)
theorem ZPq{blk:Nat->Option W}:View blk (.agg 67 [.arr 32 1 (List.replicate 32 (.int .u8 (.ofNat 0))),.int .u8 0,.arr 32 1 (List.replicate 32 (.int .u8 (.ofNat 0))),.nils,.nils]) prZ:=.agg (.cons z9q (.cons (.pur rfl) (.cons z9q (.cons .nilfz (.cons .nilfz .nil)))))
def Auq(v:Vw)(win h:Int):Prop:=0<=h/\h<(v.ch.links.length:Int)/\(v.ch.links.length:Int) -1-h<win
noncomputable instance(v:Vw)(win h:Int):Decidable (Auq v win h):=Classical.propDecidable _
theorem ciq(v:Vw)(hc:OkC v.ch)(hm:aNq v)(win h:Int)(k:Dig)(hg:¬Auq v win h):PS cfg glK 162 [vwG v,.int .i64 win,.int .i64 h,dW k] (.tup [dW zeroD,prZ,.int .i64 180]):=by
 have e:(v.ch.links.map lkG).length=v.ch.links.length:=Zd _;have hl:=hc.len;have h1:=hm.1.one;by_cases ha:h<0
 .skip
  exact gIv 13 Y (λR k0=>gC 0 Y (zoq (w':=.int .i64 0) (jrq v hc) Xv) (gFa 6 Y (gZ 10 Y e (gA 0 Y (v.ch.links.length-1) (gT 7 Y (ltI_iff.2 (ha)) (zcq 26 Y (yTq Jm rfl (.tup (.cons z9q (.cons ZPq (.cons (.pur rfl) .nil)))))))))))
 .by_cases hb:(v.ch.links.length:Int)<=h
  .skip
   exact gIv 13 Y (λR k0=>gC 0 Y (zoq (w':=.int .i64 0) (jrq v hc) Xv) (gFa 6 Y (gZ 10 Y e (gA 0 Y (v.ch.links.length-1) (gF 7 Y (ltI_not.2 (ha)) (gT 3 Y (ltI_iff.2 Xd) (zcq 22 Y (yTq Jm rfl (.tup (.cons z9q (.cons ZPq (.cons (.pur rfl) .nil))))))))))))
  .have hw:¬((v.ch.links.length:Int) -1-h<win):=λq=>hg ⟨by omega,by omega,q⟩
   obtain⟨i,rfl⟩:=Int.eq_ofNat_of_zero_le (show 0<=h by omega);exact gIv 13 Y (λR k0=>gC 0 Y (zoq (w':=.int .i64 0) (jrq v hc) Xv) (gFa 6 Y (gZ 10 Y e (gA 0 Y (v.ch.links.length-1) (gF 7 Y (ltI_not.2 (ha)) (gF 3 Y (ltI_not.2 Xd) (gA 4 Y (v.ch.links.length-1-i) (gT 1 Y (Ze not (ltI_not.2 Xd)) (zcq 15 Y (yTq Jm rfl (.tup (.cons z9q (.cons ZPq (.cons (.pur rfl) .nil))))))))))))))
theorem lfq(v:Vw)(hc:OkC v.ch)(hs:SmallC v.ch)(hm:aNq v)(win:Int)(i:Nat)(k:Dig)(hg:Auq v win (i:Int)){x:Lk}(hx:v.ch.links[i]? =some x)(n:Nat)(t0:T)(hA:IsT (cjq v.ch x.root) n t0):PS cfg glK 162 [vwG v,.int .i64 win,.int .i64 (i:Int),dW k] (.tup [dW x.hdr.state,uoq t0 k,.int .i64 0]):=by
 have e:(v.ch.links.map lkG).length=v.ch.links.length:=Zd _;have hl:=hc.len;have h1:=hm.1.one;obtain⟨g1,g2,g3⟩:=hg;have hpp:=e3q t0 k;have hM:=pUq (cjq v.ch x.root) n t0 hA k;obtain⟨a,b,c,d,f,hp⟩:=cIq t0 k;rw[hp] at hpp hM;rw[hp];refine gIv 13 Y (λR k0=>gC 0 Y (zoq (w':=.int .i64 0) (jrq v hc) Xv) (gFa 6 Y (gZ 10 Y e (gA 0 Y (v.ch.links.length-1) (gF 7 Y (ltI_not.2 Xd) (gF 3 Y (ltI_not.2 Xd) (gA 4 Y (v.ch.links.length-1-i) (gF 1 Y (Ze not (ltI_iff.2 Xd)) (gC 11 Y (nhq v.ch hc hs i hm.1 hx) (zcq 12 Y ?_))))))))));refine tOq hM ?_ (hw:=by show(abq (.agg 67 [a,b,c,d,f])&&true)=true;rw[hpp];rfl);exact zhq 13 Y (gP 0 Y (zyq (i:=i) Y Y Y Y Y Y Y (zgq lkG hx)) (zcq 11 Y (yTq Jm rfl (.tup (.cons (.pur Xi) (.cons (.pur hpp) (.cons (.pur rfl) .nil)))))))
theorem lgq(v:Vw)(hc:OkC v.ch)(hm:aNq v){y:Lk}(hy:v.ch.links[v.ch.links.length-1]? =some y):PS cfg glK 163 [vwG v] (.tup [.int .i64 y.hdr.height,dW (mNq y.hdr),.int .i64 0]):=by
 obtain⟨y2,hy2,_,hl⟩:=hm.1.last;obtain rfl:=ZB (hy.symm.trans hy2);exact gI 12 Y (λR k0=>gC 0 Y (zoq (w':=.int .i64 0) (jrq v hc) Xv) (gFa 6 Y (gC 9 Y (r9q v.ch hc hm.1 hy) (gC 11 Y (cUq y.hdr hl.hdr) (gQa 19 Y)))))
theorem pyq:∀(t:T) (d:Nat) (k:Dig) (b:Dig),t.ok d b=true->(t.road d k).length<=256
 |.nil,_,_,_,_=>Zi _
 |.leaf _ _,_,_,_,_=>Zi _
 |.fork l r,d,k,b,h=>by
  have key:∀(t:T) (d:Nat) (b:Dig),t.ok d b=true->d<=256->(t.road d k).length+d<=256:=by
   intro t;induction t with
   |nil=>intro d b _ hd;simpa[T.road] using hd
   |leaf=>intro d b _ hd;simpa[T.road] using hd
   |fork l r il ir=>
    intro d b h hd;obtain⟨hd,h1,h2,_⟩:=ok_fork.1 h;unfold T.road;split
    .have:=il (d+1) _ h1 hd;simp only[Zv];omega
    .have:=ir (d+1) _ h2 hd;simp only[Zv];omega
  obtain⟨hd,_⟩:=ok_fork.1 h;have:=key (.fork l r) d b h Xd;omega
structure PrV where
 (k:Dig) (e:Int) (o:Dig) (l:List UInt8) (ds:List Dig)
 hl:ds.length<=1000000
noncomputable def PrV.w(p:PrV):W:=prG p.k p.e p.o (bW p.l) (.fz (p.ds.map dW) 32 false)
@[simp] theorem PrV.pur(p:PrV):abq p.w=true:=by simp[PrV.w,prG,abq,acq]
noncomputable def prZV:PrV:=⟨zeroD,0,zeroD,[],[],Zi _⟩
theorem ARq:prZ=prZV.w:=rfl
theorem pOq{t:Tree}{n:Nat}{t0:T}(h:IsT t n t0)(k:Dig):∃p:PrV,uoq t0 k=p.w:=by
 have hr:=pyq t0 0 k _ h.ok;have es:goq t0 k= .fz (((t0.road 0 k).map b9q).map dW) 32 false:=by unfold goq;rw[List.map_map];rfl
 have hl:((t0.road 0 k).map b9q).length<=1000000:=by rw[Zd];omega
 unfold uoq;rw[es];split
 .split
  .exact⟨⟨k,1,zeroD,_,_,hl⟩,rfl⟩
  .exact⟨⟨k,2,_,_,_,hl⟩,rfl⟩
 .exact⟨⟨k,0,zeroD,[],_,hl⟩,rfl⟩
theorem s2q(v:Vw)(hc:OkC v.ch)(hm:aNq v)(k:Dig){y:Lk}(hy:v.ch.links[v.ch.links.length-1]? =some y){n:Nat}{t0:T}(hA:IsA v.ch.tree n t0):PS cfg glK 160 [vwG v,dW k] (.tup [aW (usq t0 k),.int .i64 0]):=by
 exact gI 12 Y (λR k0=>gC 0 Y (zoq (w':=.int .i64 0) (jrq v hc) Xv) (gFa 6 Y (gC 11 Y (oMq v.ch.tree n t0 hA k) (gQa 7 Y))))
structure Rp where
 (kind:Int) (code:Int) (height:Int) (dig:Dig) (acct:Acct) (rc:RcI) (pr:PrV)
noncomputable def z32:W:=.arr 32 1 (List.replicate 32 (.int .u8 (.ofNat 0)))
noncomputable def zIt:W:=.agg 101 [.bool false,.agg 100 [.int .i64 0,.bool false,.agg 98 [.int .i64 0,z32,z32,z32,.int .i64 0]]]
noncomputable def rpW(x:Rp):W:=.agg 240 [.int .u8 x.kind,.int .i64 x.code,.int .i64 x.height,dW x.dig,aW x.acct,rcW x.rc,x.pr.w,.int .i64 0,zIt]
def rcZ:RcI:=⟨0,zeroD,0⟩
theorem ubq{blk:Nat->Option W}:View blk (.agg 34 [.int .u8 0,.arr 32 1 (List.replicate 32 (.int .u8 (.ofNat 0))),.int .i64 0]) (rcW rcZ):=.agg (.cons (.pur rfl) (.cons z9q (.cons (.pur rfl) .nil)))
theorem kPq{blk:Nat->Option W}:View blk (.agg 67 [.arr 32 1 (List.replicate 32 (.int .u8 (.ofNat 0))),.int .u8 0,.arr 32 1 (List.replicate 32 (.int .u8 (.ofNat 0))),.nils,.nils]) prZV.w:=ZPq
theorem gxq(x:Rp):abq (rpW x)=true:=by
 have h:abq zIt=true:=by decide+kernel
 show(true&&(true&&(true&&(abq (dW x.dig)&&(abq (aW x.acct)&&(abq (rcW x.rc)&&(abq x.pr.w&&(true&&(abq zIt&&true)))))))))=true;rw[qhq,PrV.pur,h];simp
attribute [local simp] gxq
theorem tsq(r:Ru)(v:Vw)(q:Aq)(hq:q.kind=2)(a:Acct)(e:Int)(p:PS cfg glK 160 [vwG v,dW q.key] (.tup [aW a,.int .i64 e])):PS cfg glK 95 [ruG r,vwG v,aqW q] (rpW ⟨q.kind,e,0,zeroD,a,rcZ,prZV⟩):=by
 refine gIv 26 Y (λR k0=>gT 0 Y (eqI_iff.2 (hq)) (gC 8 Y (p) (zcq 17 Y (yTq Xq Y ?_))))
 (repeat (first|exact .nil|refine .cons ?_ ?_|exact z9q|exact kPq|exact ubq|(refine .pur ?_;first|rfl|(focus (simp;done)))|refine .agg ?_))
theorem trq(r:Ru)(v:Vw)(q:Aq)(hq:q.kind=3)(i:Int)(c:RcI)(e:Int)(p:PS cfg glK 161 [vwG v,dW q.key] (.tup [.int .i64 i,rcW c,.int .i64 e])):PS cfg glK 95 [ruG r,vwG v,aqW q] (rpW ⟨q.kind,e,i,zeroD,⟨0,0⟩,c,prZV⟩):=by
 refine gIv 26 Y (λR k0=>gF 0 Y (eqI_not.2 Xd) (gT 6 Y (eqI_iff.2 (hq)) (gC 8 Y (p) (zcq 20 Y (yTq Xq Y ?_)))))
 (repeat (first|exact .nil|refine .cons ?_ ?_|exact z9q|exact kPq|exact ubq|(refine .pur ?_;first|rfl|(focus (simp;done)))|refine .agg ?_))
theorem n4q(r:Ru)(v:Vw)(q:Aq)(hq:q.kind=4)(d:Dig)(s:PrV)(e:Int)(p:PS cfg glK 162 [vwG v,.int .i64 r.window,.int .i64 q.height,dW q.key] (.tup [dW d,s.w,.int .i64 e])):PS cfg glK 95 [ruG r,vwG v,aqW q] (rpW ⟨q.kind,e,if e=0 then q.height else 0,d,⟨0,0⟩,rcZ,s⟩):=by
 by_cases he:e=0
 .rw[Zt he];refine gIv 26 Y (λR k0=>gF 0 Y (eqI_not.2 Xd) (gF 6 Y (eqI_not.2 Xd) (gT 6 Y (eqI_iff.2 (hq)) (gC 13 Y (p) (gT 16 Y (eqI_iff.2 (he)) (zcq 18 Y (yTq Xq Y ?_)))))))
  (repeat (first|exact .nil|refine .cons ?_ ?_|exact z9q|exact kPq|exact ubq|(refine .pur ?_;first|rfl|(focus (simp;done)))|refine .agg ?_))
 .rw[Zg he];refine gIv 26 Y (λR k0=>gF 0 Y (eqI_not.2 Xd) (gF 6 Y (eqI_not.2 Xd) (gT 6 Y (eqI_iff.2 (hq)) (gC 13 Y (p) (gF 16 Y (eqI_not.2 (he)) (zcq 13 Y (yTq Xq Y ?_)))))))
  (repeat (first|exact .nil|refine .cons ?_ ?_|exact z9q|exact kPq|exact ubq|(refine .pur ?_;first|rfl|(focus (simp;done)))|refine .agg ?_))
theorem pDq(r:Ru)(v:Vw)(q:Aq)(hq:q.kind=5)(x:Int)(c:Dig)(e:Int)(p:PS cfg glK 163 [vwG v] (.tup [.int .i64 x,dW c,.int .i64 e])):PS cfg glK 95 [ruG r,vwG v,aqW q] (rpW ⟨q.kind,e,x,c,⟨0,0⟩,rcZ,prZV⟩):=by
 refine gIv 26 Y (λR k0=>gF 0 Y (eqI_not.2 Xd) (gF 6 Y (eqI_not.2 Xd) (gF 6 Y (eqI_not.2 Xd) (gT 6 Y (eqI_iff.2 (hq)) (gC 6 Y (p) (zcq 20 Y (yTq Xq Y ?_)))))))
 (repeat (first|exact .nil|refine .cons ?_ ?_|exact z9q|exact kPq|exact ubq|(refine .pur ?_;first|rfl|(focus (simp;done)))|refine .agg ?_))
theorem AKq(r:Ru)(v:Vw)(q:Aq)(hq:q.kind≠2/\q.kind≠3/\q.kind≠4/\q.kind≠5):PS cfg glK 95 [ruG r,vwG v,aqW q] (rpW ⟨q.kind,8,0,zeroD,⟨0,0⟩,rcZ,prZV⟩):=by
 refine gIv 26 Y (λR k0=>gF 0 Y (eqI_not.2 Xd) (gF 6 Y (eqI_not.2 Xd) (gF 6 Y (eqI_not.2 Xd) (gF 6 Y (eqI_not.2 Xd) (zcq 17 Y (yTq Xq Y ?_))))))
 (repeat (first|exact .nil|refine .cons ?_ ?_|exact z9q|exact kPq|exact ubq|(refine .pur ?_;first|rfl|(focus (simp;done)))|refine .agg ?_))
end
noncomputable def rYq(l:Ln):Ln:=⟨l.who,l.txs.take (l.txs.length-1)⟩
noncomputable def wDq(s:Shd)(k:Dig):Shd:=s.take (fndK s k)++s.drop (fndK s k+1)
noncomputable def i2q(s:Shd)(l:Ln):Shd:=if l.txs=[] then wDq s l.who else gmq s l
theorem del_sub{α:Type}{l:List α}{k:Nat}:(l.take k++l.drop (k+1)).Sublist l:=by
 have h:(l.take k++l.drop (k+1)).Sublist (l.take k++l.drop k):=(List.Sublist.refl _).append (by rw[<-Z8];exact List.drop_sublist ..);rwa[ZJ] at h
section
variable {n i m:Nat} {s:Shd} {l:Ln} {k:Dig}
theorem bYq(h:GoodL n i m l):GoodL n i m (rYq l):=⟨λx hx=>h.own x (ZH hx),h.srt.sublist (List.take_sublist _ _),by have:=h.len;show(l.txs.take _).length<=_;rw[Zu];omega,h.at_⟩
theorem h6q(h:GoodS n i m s):GoodS n i m (wDq s k):=⟨λl hl=>h.line l (del_sub.mem hl),h.keys.sublist del_sub,Zs del_sub.length_le h.len⟩
theorem u9q(h:GoodS n i m s)(hl:GoodL n i m l):GoodS n i (m+1) (i2q s l):=by
 unfold i2q;split
 .exact(h6q h).up
 .rename_i q;exact glq h hl.up q
end
def Avq(n i m:Nat):W->Prop:=λw=>(∃s' old,w= .tup [shdW s',old,.int .i64 0]/\GoodS n i (m+2) s'/\abq old=true)\/(∃e:Int,e≠0/\w= .tup [.agg 1 [.nils],.nils,.int .i64 e])
structure HbP(h:Hb):Prop where
 nx:0<=h.next/\h.next<1073741824
 len:h.subs.length<=16
 each:∀s∈h.subs,(-1<s.id/\s.id<h.next)/\(0<=s.beg/\s.beg<1073741824)/\TpM s.tap
 ord:h.subs.Pairwise λa b=>a.id<b.id
theorem HbM.p{h:Hb}(q:HbM h):HbP h:=by
 obtain⟨⟨q1,q2⟩,q3⟩:=q
 have up:∀(i:Nat) s,h.subs[i]? =some s->-1<s.id:=λi=>by
  induction i with
  |zero=>exact λs hs=>(q3 0 s hs).1.1.1
  |succ i ih=>
   intro s hs;obtain⟨p,hp⟩:∃p,h.subs[i]? =some p:=⟨_,Za (by have:=y2q hs;omega)⟩
   have h1:=(q3 (i+1) s hs).1.1.1;rw[JRq hp] at h1;have:=ih p hp;omega
 refine⟨q1,q2,λs hs=>?_,lSq (R:=λa b:Sb=>a.id<b.id) (λh1 h2=>Int.lt_trans h1 h2) λi a b ha hb=>?_⟩
 .obtain⟨i,hi,e⟩:=List.mem_iff_getElem.1 hs;have hx:h.subs[i]? =some s:=by rw[Za hi,e]
  exact⟨⟨up i s hx,(q3 i s hx).1.1.2⟩,(q3 i s hx).1.2,(q3 i s hx).2⟩
 .have:=(q3 (i+1) b hb).1.1.1;rwa[JRq ha] at this
theorem HbP.m{h:Hb}(q:HbP h):HbM h:=by
 refine⟨⟨q.nx,q.len⟩,λi s hs=>?_⟩;obtain⟨e1,e2,e3⟩:=q.each s (Zf hs);refine⟨⟨⟨?_,e1.2⟩,e2⟩,e3⟩;cases i with
 |zero=>exact e1.1
 |succ i=>
  obtain⟨p,hp⟩:∃p,h.subs[i]? =some p:=⟨_,Za (by have:=y2q hs;omega)⟩
  rw[JRq hp];exact gHq q.ord (YE i) hp hs
noncomputable def JUq(h:Hb)(beg:Int):Hb:=⟨h.next+1,h.subs++[⟨h.next,beg,⟨[],false⟩⟩]⟩
theorem coq(b:Bool):TpM ⟨[],b⟩:=⟨Zi _,λi hi=>by simp at hi⟩
theorem huq{h:Hb}{beg:Int}(q:HbM h)(hb:0<=beg/\beg<1073741824)(hn:0<=h.next+1/\h.next+1<1073741824)(hl:h.subs.length<16):HbM (JUq h beg):=by
 have p:=q.p;refine HbP.m ⟨hn,?_,λs hs=>?_,?_⟩
 .show(h.subs++[_]).length<=16;rw[Zj];exact hl
 .rcases ZT.1 hs with hs|hs
  .obtain⟨e1,e2,e3⟩:=p.each s hs;exact⟨⟨e1.1,by show s.id<h.next+1;omega⟩,e2,e3⟩
  .obtain rfl:=Y4.1 hs;have:=p.nx.1;exact⟨⟨by show-1<h.next;omega,by show h.next<h.next+1;omega⟩,hb,coq _⟩
 .refine List.pairwise_append.2 ⟨p.ord,List.pairwise_singleton ..,λa ha b hb=>?_⟩;obtain rfl:=Y4.1 hb;exact(p.each a ha).1.2
noncomputable def d5q(h:Hb)(i:Nat):Hb:=⟨h.next,h.subs.take i++h.subs.drop (i+1)⟩
theorem faq{h:Hb}{i:Nat}(q:HbM h):HbM (d5q h i):=by
 have p:=q.p;exact HbP.m ⟨p.nx,Zs del_sub.length_le p.len,λs hs=>p.each s (del_sub.mem hs),p.ord.sublist del_sub⟩
noncomputable def pSq(h:Hb)(i:Nat)(s:Sb)(t:Tp):Hb:=⟨h.next,h.subs.set i ⟨s.id,s.beg,t⟩⟩
theorem gUq{h:Hb}{i:Nat}{s:Sb}{t:Tp}(q:HbM h)(hs:h.subs[i]? =some s)(ht:TpM t):HbM (pSq h i s t):=by
 have p:=q.p;refine HbP.m ⟨p.nx,by show(h.subs.set i _).length<=16;rw[YL];exact p.len,λz hz=>?_,?_⟩
 .rcases JMq hz with rfl|hz
  .obtain⟨e1,e2,_⟩:=p.each s (Zf hs);exact⟨e1,e2,ht⟩
  .exact p.each z hz
 .have e:(h.subs.set i ⟨s.id,s.beg,t⟩).map Sb.id=h.subs.map Sb.id:=by
   rw[List.map_set];exact k8q (by rw[ZY,hs];rfl)
  have h2:(h.subs.map Sb.id).Pairwise (· < ·):=List.pairwise_map.2 p.ord;rw[<-e] at h2;exact List.pairwise_map.1 h2
theorem fXq{x:Itm}{l:List Itm}{b:Bool}(q:TpM ⟨x::l,b⟩):TpM ⟨l,b⟩:=by
 obtain⟨q1,q2⟩:=q;refine⟨by have:(x::l).length<=64:=q1;simp only[Zv] at this;show l.length<=64;omega,λi hi=>?_⟩;have hi:i<l.length:=hi;have h:=q2 (i+1) (by show i+1<(x::l).length;simp only[Zv];omega);cases i with
 |zero=>
  have h:ItM x (v1q (x::l) 2):=h;have h:ItM x (v1q l 1):=h;show ItM itZ (v1q l 1);by_cases g:(v1q l 1).gap=true
  .exact(hyq g).2 ⟨((hyq g).1 h).1,λe=>by have:=Ze Itm.gap e;cases this⟩
  .exact(mCq g).2 ((mCq g).1 h)
 |succ i=>exact h
section
attribute [local irreducible] CoW OpW FlW aeq aiq
section
variable {G:Nat->Option W}
theorem pVq(l:List Shd)(hl:l.length<=1000000)(hx:∀s∈l,s.length<=1000000000/\∀y∈s,y.txs.length<=1000000000):PL cfg G 84 [plW l] 131 1 (l.map shdW):=by
 have e:(l.map shdW).length=l.length:=Zd _;intro R;refine gIs 14 Y (λk0=>?_);refine gZ 0 Y e (zcq 4 Y ?_);refine vCq (α:=Nat) (λi=>i<=l.length) 3 (λi=>(l.take i).map shdW) 131 1 (λi=>[(8,.int .i64 (i:Int))]) [(2,_),(6,_),(7,_)] _ (λi=>l.length-i) (0) ⟨rfl,rfl,rfl,trivial⟩ (Zi _) ⟨rfl,trivial⟩ Y Y Y (λi hI=>?_);refine zEq 6 Y ?_;refine gS 0 Y (λh1=>?_) (λh1=>?_)
 .have hi:i<l.length:=by omega
  obtain⟨x,hxi⟩:∃x,l[i]? =some x:=⟨_,Za hi⟩
  obtain⟨b1,b2⟩:=hx x (Zf hxi);have hlt:((l.take i).map shdW).length<=1000000:=by rw[Zd,Zu];omega
  have es:(l.take (i+1)).map shdW=(l.take i).map shdW++[shdW x]:=by rw[YF,hxi,Z5];rfl
  have ep:=jzq (l.take i);have ep2:acq ((l.take i).map shdW++[shdW x])=true:=by rw[<-es];exact jzq _
  exact gP 6 Y (zyq (i:=i) Y Y Y Y Y Y Y (zgq shdW hxi)) (gC 8 Y (nWq x b1 b2) (gM 1 Y (qaq Y Y (Ztq [_,_] (k:=pbq) (news:=[shdW x]) Y Y Y Y Y (umq Y Y Y Y) Xi (by show(((l.take i).map shdW).length+1)*24<=_;omega) (by show((l.take i).map shdW).length+1<=_;omega) rfl Xi)) (gA 5 Y (i+1) (zcq 2 Y (koq 3 (i+1) (hi) Xd (Zi _) (es) Xu Xd Yo rfl Ya ⟨rfl,trivial⟩ ⟨rfl,rfl,rfl,trivial⟩ Xh Xh rfl Xn Xj Xx)))))
 .have hi:i=l.length:=by omega
  subst hi;rw[List.take_length];exact zcq 2 Y (qUq Xk (z0q 9 Y (fin Jm (ynq (fr2:=[(2,gW 0 1 (l.map shdW))]) ⟨rfl,trivial⟩ Y Y) rfl ⟨rfl,rfl,rfl,rfl⟩)))
end
theorem pXq(ps:List Shd)(hx:∀s∈ps,s.length<=1000000000/\∀l∈s,OkL l)(hp:PlM ps)(t:Tree)(nt:Nat)(t0:T)(hA:IsA t nt t0):PS cfg glK 151 [plW ps,tW t] (.int .i64 0):=by
 have hl:=hA.len;have hpp:=JGq ps;exact gI 9 Y (λR k0=>gC 0 Y (zoq (w':=.int .i64 0) (gWq ps hx) (by rw[Zt hp])) (gC 1 Y (zoq (w':=.int .i64 0) (xwq t Xd) (by rw[Zt ⟨nt,t0,hA⟩])) (gQa 5 Y)))
end
section
attribute [local irreducible] CoW OpW FlW aeq aiq
variable {G:Nat->Option W}
theorem rQq(l:List Ln)(F:FuncId)(hF:∀x∈l,PS cfg G F [lnW x,lnW x] (.bool true))(hF0:cfg.ext F=none)(hn:l.length<=1000000000):PS cfg G 189 [.fz (l.map lnW) 33 false,.fz (l.map lnW) 33 false,.fn F [] []] (.bool true):=by
 have e:(l.map lnW).length=l.length:=Zd _;have ep:acq (l.map lnW)=true:=yfq qXq l;refine gI 9 Y (λR k0=>gZ 0 Y e (gZ 1 Y e (gF 0 Y (Ze not (eqI_iff.2 (rfl))) (gZ 9 Y e ?_))));refine gLo (α:=Nat) 4 (λi=>i<=l.length) (λi=>[(17,.int .i64 (i:Int))]) [1,2,6,15,16] (λi=>l.length-i) (0) rfl (Zi _) (λi hI=>?_);refine gS 6 Y (λh1=>?_) (λh1=>?_)
 .have hi:i<l.length:=by omega
  obtain⟨x,hx⟩:∃x,l[i]? =some x:=⟨_,Za hi⟩
  exact gP 7 Y (zyq (i:=i) Y Y Y Y Y Y Y (zgq lnW hx)) (gP 10 Y (zyq (i:=i) Y Y Y Y Y Y Y (zgq lnW hx)) (zcq 10 Y (Qoq Y Y Y hF0 Y Y (hF x (Zf hx)) Xi Xi (zhq 8 Y (gA 0 Y (i+1) (gAg 2 Y (i+1) (hi) Xd))))))
 .exact gO 2 Y (gQa 8 Y)
theorem rOq(l:List Shd)(F:FuncId)(hF:∀x∈l,PS cfg G F [shdW x,shdW x] (.bool true))(hF0:cfg.ext F=none)(hn:l.length<=1000000000):PS cfg G 119 [.fz (l.map shdW) 1 false,.fz (l.map shdW) 1 false,.fn F [] []] (.bool true):=by
 have e:(l.map shdW).length=l.length:=Zd _;have ep:acq (l.map shdW)=true:=yfq k7q l;refine gI 9 Y (λR k0=>gZ 0 Y e (gZ 1 Y e (gF 0 Y (Ze not (eqI_iff.2 (rfl))) (gZ 9 Y e ?_))));refine gLo (α:=Nat) 4 (λi=>i<=l.length) (λi=>[(17,.int .i64 (i:Int))]) [1,2,6,15,16] (λi=>l.length-i) (0) rfl (Zi _) (λi hI=>?_);refine gS 6 Y (λh1=>?_) (λh1=>?_)
 .have hi:i<l.length:=by omega
  obtain⟨x,hx⟩:∃x,l[i]? =some x:=⟨_,Za hi⟩
  exact gP 7 Y (zyq (i:=i) Y Y Y Y Y Y Y (zgq shdW hx)) (gP 10 Y (zyq (i:=i) Y Y Y Y Y Y Y (zgq shdW hx)) (zcq 10 Y (Qoq Y Y Y hF0 Y Y (hF x (Zf hx)) Xi Xi (zhq 8 Y (gA 0 Y (i+1) (gAg 2 Y (i+1) (hi) Xd))))))
 .exact gO 2 Y (gQa 8 Y)
theorem rPq(l:List Sb)(F:FuncId)(hF:∀x∈l,PS cfg G F [sbW x,sbW x] (.bool true))(hF0:cfg.ext F=none)(hn:l.length<=1000000000):PS cfg G 121 [.fz (l.map sbW) 4 false,.fz (l.map sbW) 4 false,.fn F [] []] (.bool true):=by
 have e:(l.map sbW).length=l.length:=Zd _;have ep:acq (l.map sbW)=true:=yfq sbW_pur l;refine gI 9 Y (λR k0=>gZ 0 Y e (gZ 1 Y e (gF 0 Y (Ze not (eqI_iff.2 (rfl))) (gZ 9 Y e ?_))));refine gLo (α:=Nat) 4 (λi=>i<=l.length) (λi=>[(17,.int .i64 (i:Int))]) [1,2,6,15,16] (λi=>l.length-i) (0) rfl (Zi _) (λi hI=>?_);refine gS 6 Y (λh1=>?_) (λh1=>?_)
 .have hi:i<l.length:=by omega
  obtain⟨x,hx⟩:∃x,l[i]? =some x:=⟨_,Za hi⟩
  exact gP 7 Y (zyq (i:=i) Y Y Y Y Y Y Y (zgq sbW hx)) (gP 10 Y (zyq (i:=i) Y Y Y Y Y Y Y (zgq sbW hx)) (zcq 10 Y (Qoq Y Y Y hF0 Y Y (hF x (Zf hx)) Xi Xi (zhq 8 Y (gA 0 Y (i+1) (gAg 2 Y (i+1) (hi) Xd))))))
 .exact gO 2 Y (gQa 8 Y)
theorem wvq(l:List Itm)(hl:l.length<=1000000000):PS cfg G 191 [.fz (l.map ahq) 101 false,.fz (l.map ahq) 101 false] (.bool true):=by
 have e:(l.map ahq).length=l.length:=Zd _;have ep:acq (l.map ahq)=true:=yfq ydq l;refine gI 9 Y (λR k0=>gZ 0 Y e (gZ 1 Y e (gF 0 Y (Ze not (eqI_iff.2 (rfl))) (gZ 9 Y e ?_))));refine gLo (α:=Nat) 4 (λi=>i<=l.length) (λi=>[(13,.int .i64 (i:Int))]) [0,1,4,12] (λi=>l.length-i) (0) rfl (Zi _) (λi hI=>?_);refine gS 6 Y (λh1=>?_) (λh1=>?_)
 .have hi:i<l.length:=by omega
  obtain⟨x,hx⟩:∃x,l[i]? =some x:=⟨_,Za hi⟩
  exact gP 14 Y (zyq (i:=i) Y Y Y Y Y Y Y (zgq ahq hx)) (gP 3 Y (zyq (i:=i) Y Y Y Y Y Y Y (zgq ahq hx)) (zcq 1 Y (jcq (w':=.bool false) rfl (qZq Y Y Y Y (foq x x)) (by rw[Zn rfl];rfl) (yhq 7 Y (gA 0 Y (i+1) (gAg 2 Y (i+1) (hi) Xd))))))
 .exact gO 2 Y (gQa 8 Y)
theorem pFq(l:Ln)(hl:l.txs.length<=1000000000):PS cfg G 190 [lnW l,lnW l] (.bool true):=by
 have hp:=qTq l.txs;exact gI 13 Y (λR k0=>kpq (w':=.bool true) rfl (yIq Y Y Y Y (yzq Y Y Y Y Y Y l.who l.who 250)) (by rw[Zn rfl]) (zhq 5 Y (gC 0 Y (zoq (w':=.bool true) (baq l.txs l.txs false false hl) Qh) (gQa 5 Y))))
theorem lHq(s:Shd)(hl:s.length<=1000000000)(hx:∀l∈s,l.txs.length<=1000000000):PS cfg G 120 [shdW s,shdW s] (.bool true):=by
 have hp:=y7q s;exact gI 13 Y (λR k0=>gC 0 Y (rQq s 190 (λl h=>pFq l (hx l h)) rfl hl) (gQa 4 Y))
theorem l3q(l:List Shd)(hl:l.length<=1000000000)(hx:∀s∈l,s.length<=1000000000/\∀y∈s,y.txs.length<=1000000000):PS cfg G 53 [plW l,plW l] (.bool true):=by
 have hp:=jzq l;exact gI 9 Y (λR k0=>gC 0 Y (rOq l 120 (λs h=>lHq s (hx s h).1 (hx s h).2) rfl hl) (gQa 4 Y))
theorem loq(t:Tp)(hl:t.items.length<=1000000000):PS cfg G 123 [tpW t,tpW t] (.bool true):=by
 obtain⟨items,lost⟩:=t;have hp:=JVq items;simp only at hl;refine gI 13 Y (λR k0=>?_);refine gV (w':=.bool true) 0 Y (by cases lost<;>rfl) ?_;exact gC 5 Y (wvq items hl) (gQa 5 Y)
theorem hEq(s:Sb)(hl:s.tap.items.length<=1000000000):PS cfg G 122 [sbW s,sbW s] (.bool true):=by
 exact gI 13 Y (λR k0=>gT 0 Y (eqI_iff.2 (rfl)) (gT 5 Y (eqI_iff.2 (rfl)) (gC 6 Y (loq s.tap hl) (gQa 5 Y))))
theorem mLq(h:Hb)(hl:h.subs.length<=1000000000)(hx:∀s∈h.subs,s.tap.items.length<=1000000000):PS cfg G 54 [hbW h,hbW h] (.bool true):=by
 have hp:=xHq h.subs;exact gI 13 Y (λR k0=>gT 0 Y (eqI_iff.2 (rfl)) (gC 5 Y (rPq h.subs 122 (λs q=>hEq s (hx s q)) rfl hl) (gQa 5 Y)))
noncomputable def rlW(h:Int):W:=.agg 35 [.int .u8 3,.arr 32 1 (List.replicate 32 (.int .u8 0)),.int .u64 0,.int .i64 h]
noncomputable def mvR(h:Int):W:=.agg 38 [.int .u8 2,.nils,rlW h,.int .i64 0]
noncomputable def mvB(i:Int):W:=.agg 38 [.int .u8 3,.nils,.agg 35 [.int .u8 0,.arr 32 1 (List.replicate 32 (.int .u8 0)),.int .u64 0,.int .i64 0],.int .i64 i]
end
section
attribute [local irreducible] CoW OpW FlW aeq aiq
@[simp] theorem A1q(h:Int):abq (mvR h)=true:=by
 have q:abq (mvR 0)=true:=by kernel_rfl
 exact q
@[simp] theorem A2q(i:Int):abq (mvB i)=true:=by
 have q:abq (mvB 0)=true:=by kernel_rfl
 exact q
def InV(v:Vw)(h:Int):Prop:=v.final<=h/\h<(v.ch.links.length:Int)
noncomputable instance(v:Vw)(h:Int):Decidable (InV v h):=Classical.propDecidable _
abbrev Bd:=List Depo×List Tx
noncomputable def bdW(b:Bd):W:=sgq b.1 b.2 false false
@[simp] theorem smq(b:Bd):abq (bdW b)=true:=eFq _ _ _ _
@[simp] theorem Bwq(l:List Bd):acq (l.map bdW)=true:=yfq smq l
structure CanRoll(v:Vw)(h:Int):Prop where
 may:aNq v
 num:v.number≠1073741823
 is:InV v h
noncomputable instance(v:Vw)(h:Int):Decidable (CanRoll v h):=Classical.propDecidable _
end
theorem wpq{w:W}(h:Fit (.st 34 [.int .u8,.arr 32 1 (.int .u8),.int .i64]) w):∃r:RcI,w=rcW r/\True:=by
 obtain⟨l,rfl,w1,l1,rfl,h1,w2,l2,rfl,h2,w3,l3,rfl,h3,rfl⟩:=h;obtain⟨k,rfl,_⟩:=oqq h1;obtain⟨d,rfl⟩:=kfq h2;obtain⟨c,rfl,_⟩:=qnq h3;exact⟨⟨k,d,c⟩,rfl,trivial⟩
theorem m1q{w:W}(h:Fit (.st 102 [.st 98 [.int .i64,.arr 32 1 (.int .u8),.arr 32 1 (.int .u8),.arr 32 1 (.int .u8),.int .i64],.int .i64,.st 2 [.sl 34 48 (.st 34 [.int .u64,.arr 32 1 (.int .u8),.int .u64]),.sl 99 120 (.st 99 [.arr 32 1 (.int .u8),.arr 32 1 (.int .u8),.int .u64,.int .u64,.int .u64,.arr 32 1 (.int .u8)])],.sl 34 48 (.st 34 [.int .u8,.arr 32 1 (.int .u8),.int .i64])]) w):∃x:Lk,w=lkG x/\BodOk x.ds x.xs/\x.rs.length<=4611686018427387903:=by
 obtain⟨l,rfl,w1,l1,rfl,h1,w2,l2,rfl,h2,w3,l3,rfl,h3,w4,l4,rfl,h4,rfl⟩:=h;obtain⟨p,rfl,_⟩:=hUq h1;obtain⟨r,rfl,_⟩:=qnq h2;obtain⟨ds,xs,rfl,hB⟩:=m2q h3;obtain⟨rs,rfl,hl,_⟩:=ktq h4 λx hx=>wpq hx
 exact⟨⟨p,r,ds,xs,rs⟩,rfl,hB,by show rs.length<=_;omega⟩
theorem hWq{w:W}(h:Fit (.st 3 [.st 2 [.sl 36 80 (.st 36 [.bool,.arr 32 1 (.int .u8),.sl 1 1 (.int .u8),.int .i64,.int .i64]),.int .i64],.sl 102 192 (.st 102 [.st 98 [.int .i64,.arr 32 1 (.int .u8),.arr 32 1 (.int .u8),.arr 32 1 (.int .u8),.int .i64],.int .i64,.st 2 [.sl 34 48 (.st 34 [.int .u64,.arr 32 1 (.int .u8),.int .u64]),.sl 99 120 (.st 99 [.arr 32 1 (.int .u8),.arr 32 1 (.int .u8),.int .u64,.int .u64,.int .u64,.arr 32 1 (.int .u8)])],.sl 34 48 (.st 34 [.int .u8,.arr 32 1 (.int .u8),.int .i64])])]) w):∃c:Ch,w=chG c/\OkC c:=by
 obtain⟨l,rfl,w1,l1,rfl,h1,w2,l2,rfl,h2,rfl⟩:=h;obtain⟨t,rfl,ht,_⟩:=mYq h1;obtain⟨ls,rfl,hl,hx⟩:=ktq h2 λx hx=>m1q hx
 exact⟨⟨t,ls⟩,rfl,λx h=>(hx x h).1,by show t.nodes.length<=_;omega,by show ls.length<=_;omega,λx h=>(hx x h).2⟩
theorem mXq{w:W}(h:Fit (.st 6 [.int .i64,.bool,.int .i64,.st 3 [.st 2 [.sl 36 80 (.st 36 [.bool,.arr 32 1 (.int .u8),.sl 1 1 (.int .u8),.int .i64,.int .i64]),.int .i64],.sl 102 192 (.st 102 [.st 98 [.int .i64,.arr 32 1 (.int .u8),.arr 32 1 (.int .u8),.arr 32 1 (.int .u8),.int .i64],.int .i64,.st 2 [.sl 34 48 (.st 34 [.int .u64,.arr 32 1 (.int .u8),.int .u64]),.sl 99 120 (.st 99 [.arr 32 1 (.int .u8),.arr 32 1 (.int .u8),.int .u64,.int .u64,.int .u64,.arr 32 1 (.int .u8)])],.sl 34 48 (.st 34 [.int .u8,.arr 32 1 (.int .u8),.int .i64])])]]) w):∃v:Vw,w=vwG v/\OkC v.ch/\(-9223372036854775808<=v.number/\v.number<=9223372036854775807)/\(-9223372036854775808<=v.final/\v.final<=9223372036854775807):=by
 obtain⟨l,rfl,w1,l1,rfl,h1,w2,l2,rfl,h2,w3,l3,rfl,h3,w4,l4,rfl,h4,rfl⟩:=h;obtain⟨n,rfl,hn⟩:=qnq h1;obtain⟨b,rfl⟩:=vrq h2;obtain⟨f,rfl,hf⟩:=qnq h3;obtain⟨c,rfl,hc⟩:=hWq h4;exact⟨⟨n,b,f,c⟩,rfl,hc,hn,hf⟩
theorem rCq{w:W}(h:Fit (.st 38 [.int .i64,.int .i64,.int .i64,.int .i64,.int .i64,.int .i64,.arr 32 1 (.int .u8)]) w):∃r:Ru,w=ruG r:=by
 obtain⟨l,rfl,w1,l1,rfl,h1,w2,l2,rfl,h2,w3,l3,rfl,h3,w4,l4,rfl,h4,w5,l5,rfl,h5,w6,l6,rfl,h6,w7,l7,rfl,h7,rfl⟩:=h;obtain⟨a,rfl,_⟩:=qnq h1;obtain⟨b,rfl,_⟩:=qnq h2;obtain⟨c,rfl,_⟩:=qnq h3;obtain⟨d,rfl,_⟩:=qnq h4;obtain⟨e,rfl,_⟩:=qnq h5;obtain⟨f,rfl,_⟩:=qnq h6;obtain⟨g,rfl⟩:=kfq h7;exact⟨⟨a,b,c,d,e,f,g⟩,rfl⟩
theorem wqq{w:W}(h:Fit (.st 33 [.arr 32 1 (.int .u8),.sl 99 120 (.st 99 [.arr 32 1 (.int .u8),.arr 32 1 (.int .u8),.int .u64,.int .u64,.int .u64,.arr 32 1 (.int .u8)])]) w):∃l:Ln,w=lnW l/\OkL l:=by
 obtain⟨l,rfl,w1,l1,rfl,h1,w2,l2,rfl,h2,rfl⟩:=h;obtain⟨k,rfl⟩:=kfq h1;obtain⟨xs,rfl,hl,hx⟩:=ktq h2 λx hx=>efq hx
 exact⟨⟨k,xs⟩,rfl,hx,by show xs.length<=_;omega⟩
theorem rAq{w:W}(h:Fit (.st 1 [.sl 33 56 (.st 33 [.arr 32 1 (.int .u8),.sl 99 120 (.st 99 [.arr 32 1 (.int .u8),.arr 32 1 (.int .u8),.int .u64,.int .u64,.int .u64,.arr 32 1 (.int .u8)])])]) w):∃s:Shd,w=shdW s/\s.length<=4611686018427387903/\∀l∈s,OkL l:=by
 obtain⟨l,rfl,w1,l1,rfl,h1,rfl⟩:=h;obtain⟨xs,rfl,hl,hx⟩:=ktq h1 λx hx=>wqq hx
 exact⟨xs,rfl,by omega,hx⟩
theorem hVq{w:W}(h:Fit (.st 100 [.int .i64,.bool,.st 98 [.int .i64,.arr 32 1 (.int .u8),.arr 32 1 (.int .u8),.arr 32 1 (.int .u8),.int .i64]]) w):∃e:Eve,w=eveW e/\True:=by
 obtain⟨l,rfl,w1,l1,rfl,h1,w2,l2,rfl,h2,w3,l3,rfl,h3,rfl⟩:=h;obtain⟨n,rfl,_⟩:=qnq h1;obtain⟨b,rfl⟩:=vrq h2;obtain⟨p,rfl,_⟩:=hUq h3;exact⟨⟨n,b,p⟩,rfl,trivial⟩
theorem rDq{w:W}(h:Fit (.st 101 [.bool,.st 100 [.int .i64,.bool,.st 98 [.int .i64,.arr 32 1 (.int .u8),.arr 32 1 (.int .u8),.arr 32 1 (.int .u8),.int .i64]]]) w):∃e:Itm,w=ahq e/\True:=by
 obtain⟨l,rfl,w1,l1,rfl,h1,w2,l2,rfl,h2,rfl⟩:=h;obtain⟨b,rfl⟩:=vrq h1;obtain⟨e,rfl,_⟩:=hVq h2;exact⟨⟨b,e⟩,rfl,trivial⟩
theorem ryq{w:W}(h:Fit (.st 2 [.sl 101 136 (.st 101 [.bool,.st 100 [.int .i64,.bool,.st 98 [.int .i64,.arr 32 1 (.int .u8),.arr 32 1 (.int .u8),.arr 32 1 (.int .u8),.int .i64]]]),.bool]) w):∃t:Tp,w=tpW t/\t.items.length<=4611686018427387903:=by
 obtain⟨l,rfl,w1,l1,rfl,h1,w2,l2,rfl,h2,rfl⟩:=h;obtain⟨xs,rfl,hl,hx⟩:=ktq h1 λx hx=>rDq hx
 obtain⟨b,rfl⟩:=vrq h2;exact⟨⟨xs,b⟩,rfl,by show xs.length<=_;omega⟩
theorem rBq{w:W}(h:Fit (.st 4 [.int .i64,.int .i64,.st 2 [.sl 101 136 (.st 101 [.bool,.st 100 [.int .i64,.bool,.st 98 [.int .i64,.arr 32 1 (.int .u8),.arr 32 1 (.int .u8),.arr 32 1 (.int .u8),.int .i64]]]),.bool]]) w):∃s:Sb,w=sbW s/\s.tap.items.length<=4611686018427387903:=by
 obtain⟨l,rfl,w1,l1,rfl,h1,w2,l2,rfl,h2,w3,l3,rfl,h3,rfl⟩:=h;obtain⟨n,rfl,_⟩:=qnq h1;obtain⟨b,rfl,_⟩:=qnq h2;obtain⟨t,rfl,ht⟩:=ryq h3;exact⟨⟨n,b,t⟩,rfl,ht⟩
theorem rEq{w:W}(h:Fit (.st 2 [.int .i64,.sl 4 48 (.st 4 [.int .i64,.int .i64,.st 2 [.sl 101 136 (.st 101 [.bool,.st 100 [.int .i64,.bool,.st 98 [.int .i64,.arr 32 1 (.int .u8),.arr 32 1 (.int .u8),.arr 32 1 (.int .u8),.int .i64]]]),.bool]])]) w):∃s:Hb,w=hbW s/\s.subs.length<=4611686018427387903/\∀x∈s.subs,x.tap.items.length<=4611686018427387903:=by
 obtain⟨l,rfl,w1,l1,rfl,h1,w2,l2,rfl,h2,rfl⟩:=h;obtain⟨n,rfl,_⟩:=qnq h1;obtain⟨xs,rfl,hl,hx⟩:=ktq h2 λx hx=>rBq hx
 exact⟨⟨n,xs⟩,rfl,by show xs.length<=_;omega,hx⟩
structure Fit25(a:Au):Prop where
 ch:OkC a.vw.ch
 pooll:a.pool.length<=4611686018427387903
 pool:∀s∈a.pool,s.length<=4611686018427387903/\∀l∈s,OkL l
 drawn:∀x∈a.drawn,x.ok
 drawl:a.drawn.length<=4611686018427387903
 back:∀x∈a.back,x.ok
 backl:a.back.length<=4611686018427387903
 waitl:a.wait.length<=4611686018427387903
 tells:a.tells.length<=4611686018427387903
 subs:a.hub.subs.length<=4611686018427387903
 taps:∀s∈a.hub.subs,s.tap.items.length<=4611686018427387903
theorem fit_auto{w:W}(h:Fit (.st 52 [.st 38 [.int .i64,.int .i64,.int .i64,.int .i64,.int .i64,.int .i64,.arr 32 1 (.int .u8)],.st 6 [.int .i64,.bool,.int .i64,.st 3 [.st 2 [.sl 36 80 (.st 36 [.bool,.arr 32 1 (.int .u8),.sl 1 1 (.int .u8),.int .i64,.int .i64]),.int .i64],.sl 102 192 (.st 102 [.st 98 [.int .i64,.arr 32 1 (.int .u8),.arr 32 1 (.int .u8),.arr 32 1 (.int .u8),.int .i64],.int .i64,.st 2 [.sl 34 48 (.st 34 [.int .u64,.arr 32 1 (.int .u8),.int .u64]),.sl 99 120 (.st 99 [.arr 32 1 (.int .u8),.arr 32 1 (.int .u8),.int .u64,.int .u64,.int .u64,.arr 32 1 (.int .u8)])],.sl 34 48 (.st 34 [.int .u8,.arr 32 1 (.int .u8),.int .i64])])]],.sl 1 24 (.st 1 [.sl 33 56 (.st 33 [.arr 32 1 (.int .u8),.sl 99 120 (.st 99 [.arr 32 1 (.int .u8),.arr 32 1 (.int .u8),.int .u64,.int .u64,.int .u64,.arr 32 1 (.int .u8)])])]),.sl 99 120 (.st 99 [.arr 32 1 (.int .u8),.arr 32 1 (.int .u8),.int .u64,.int .u64,.int .u64,.arr 32 1 (.int .u8)]),.sl 99 120 (.st 99 [.arr 32 1 (.int .u8),.arr 32 1 (.int .u8),.int .u64,.int .u64,.int .u64,.arr 32 1 (.int .u8)]),.sl 34 48 (.st 34 [.int .u64,.arr 32 1 (.int .u8),.int .u64]),.int .u64,.sl 100 128 (.st 100 [.int .i64,.bool,.st 98 [.int .i64,.arr 32 1 (.int .u8),.arr 32 1 (.int .u8),.arr 32 1 (.int .u8),.int .i64]]),.st 2 [.int .i64,.sl 4 48 (.st 4 [.int .i64,.int .i64,.st 2 [.sl 101 136 (.st 101 [.bool,.st 100 [.int .i64,.bool,.st 98 [.int .i64,.arr 32 1 (.int .u8),.arr 32 1 (.int .u8),.arr 32 1 (.int .u8),.int .i64]]]),.bool]])]]) w):∃a:Au,w=amW a/\Fit25 a:=by
 obtain⟨l,rfl,w1,l1,rfl,h1,w2,l2,rfl,h2,w3,l3,rfl,h3,w4,l4,rfl,h4,w5,l5,rfl,h5,w6,l6,rfl,h6,w7,l7,rfl,h7,w8,l8,rfl,h8,w9,l9,rfl,h9,rfl⟩:=h;obtain⟨r,rfl⟩:=rCq h1;obtain⟨v,rfl,hc,_,_⟩:=mXq h2;obtain⟨pl,rfl,pl1,pl2⟩:=ktq h3 λx hx=>rAq hx
 obtain⟨dr,rfl,dr1,dr2⟩:=ktq h4 λx hx=>efq hx
 obtain⟨bk,rfl,bk1,bk2⟩:=ktq h5 λx hx=>efq hx
 obtain⟨wt,rfl,wt1,wt2⟩:=ktq h6 λx hx=>bLq hx
 obtain⟨n,rfl,_⟩:=v4q h7;obtain⟨te,rfl,te1,te2⟩:=ktq h8 λx hx=>hVq hx
 obtain⟨hu,rfl,hu1,hu2⟩:=rEq h9;exact⟨⟨r,v,pl,dr,bk,wt,n,te,hu⟩,rfl,hc,by show pl.length<=_;omega,pl2,dr2,by show dr.length<=_;omega,bk2,by show bk.length<=_;omega,by show wt.length<=_;omega,by show te.length<=_;omega,hu1,hu2⟩
structure Few25(a:Au):Prop where
 ch:¬Qhq a.vw.ch 6
 pool:a.pool.length<=10/\∀s∈a.pool,s.length<=6/\∀y∈s,y.txs.length<=20
 hub:a.hub.subs.length<=18/\∀s∈a.hub.subs,s.tap.items.length<=20
 drawn:a.drawn.length<=10
 back:a.back.length<=20
 wait:a.wait.length<=20
 tells:a.tells.length<=20
theorem wtq{a:Au}(hf:Fit25 a)(hg:Few25 a):OkAu a:=
 ⟨λs hs=>⟨by have:=(hg.pool.2 s hs).1;omega,(hf.pool s hs).2⟩,hf.drawn,by have:=hg.drawn;omega,hf.back,by have:=hg.back;omega,by have:=hg.tells;omega,hf.subs,hf.taps⟩
theorem wsq{a:Au}(hg:Few25 a):SmAu a:=
 ⟨by have:=hg.pool.1;omega,λs hs=>⟨by have:=(hg.pool.2 s hs).1;omega,λy hy=>by have:=(hg.pool.2 s hs).2 y hy;omega⟩,by have:=hg.drawn;omega,by have:=hg.back;omega,by have:=hg.wait;omega,by have:=hg.tells;omega,by have:=hg.hub.1;omega,λs hs=>by have:=hg.hub.2 s hs;omega⟩
section
variable {t0:T} {a:Au} {i j m:Nat} {s:Shd}
theorem Bcq(hm:PlM a.pool)(hok:∀s∈a.pool,∀l∈s,OkL l)(hg:Few25 a)(hs:a.pool[i]? =some s):GoodS a.pool.length i 20 s:=by
 obtain⟨h1,h2⟩:=hm.2 i s hs;obtain⟨g1,g2⟩:=hg.pool.2 s (Zf hs);have ho:=hok s (Zf hs);refine⟨λl hl=>?_,lSq (R:=λx y:Ln=>yKq x.who y.who=true) (λq1 q2=>Qdq q1 q2) (λk x y hx hy=>(h1 (k+1) y hy).2 x Xd (by rw[Nat.add_sub_cancel];exact hx)),by omega⟩;obtain⟨k,hk,hkl⟩:=List.mem_iff_getElem.1 hl;obtain⟨⟨h3,h4,h5⟩,_⟩:=h1 k l (by rw[Za hk,hkl]);refine⟨⟨λx hx=>?_,lSq (R:=λx y:Tx=>x.nonce<y.nonce) (λq1 q2=>Nat.lt_trans q1 q2) (λk x y hx hy=>(h5 (k+1) y hy).2 x Xd (by rw[Nat.add_sub_cancel];exact hx)),g2 l hl,YR λq=>h2 ⟨l,hl,q⟩⟩,λq=>h3 (by rw[q];rfl)⟩;obtain⟨p,hp,hpx⟩:=List.mem_iff_getElem.1 hx;exact⟨(h5 p x (by rw[Za hp,hpx])).1,(ho l hl).txs x hx⟩
end
noncomputable def Abq(a:Au)(i:Nat)(s:Shd):Au:=⟨a.ru,a.vw,a.pool.set i s,a.drawn,a.back,a.wait,a.count,a.tells,a.hub⟩
noncomputable def oiq(a:Au)(h:Hb):Au:=⟨a.ru,a.vw,a.pool,a.drawn,a.back,a.wait,a.count,a.tells,h⟩
section
variable {V:Prop} {a:Au} {i m:Nat} {s:Shd} {h:Hb}
theorem tdq{α:Type}{l:List α}{i j:Nat}{x y:α}(h:(l.set i x)[j]? =some y):(j=i/\y=x)\/l[j]? =some y:=by
 rw[List.getElem?_set] at h;split at h
 .rename_i e;split at h
  .exact .inl ⟨e.symm,(ZB h).symm⟩
  .cases h
 .exact .inr h
theorem luq(hm:AuM V a)(g:GoodS a.pool.length i m s)(h256:m<=256):AuM V (Abq a i s):=
 ⟨hm.ru,hm.vw,⟨by show 1<=(a.pool.set i s).length/\(a.pool.set i s).length<=8;rw[YL];exact hm.pool.1,λj z hz=>by
  have hl:(Abq a i s).pool.length=a.pool.length:=YL;rw[hl];rcases tdq hz with ⟨rfl,rfl⟩|hz
  .exact⟨g.sh h256,λ⟨l,hl,q⟩=>q (g.line l hl).1.at_⟩
  .exact hm.pool.2 j z hz⟩,by show((a.pool.set i s).length:Int)=_;rw[YL];exact hm.len,hm.block,hm.drawn,hm.back,hm.odd,hm.hub⟩
theorem pfq(o:OkAu a)(g:GoodS a.pool.length i m s)(h256:m<=256):OkAu (Abq a i s):=
 ⟨λz hz=>by
  rcases JMq hz with rfl|hz
  .exact⟨by have:=g.len;omega,λl hl=>⟨λx hx=>((g.line l hl).1.own x hx).2,by have:=(g.line l hl).1.len;omega⟩⟩
  .exact o.pool z hz,o.drawn,o.drawl,o.back,o.backl,o.tells,o.subs,o.taps⟩
theorem JXq(hm:AuM V a)(g:HbM h):AuM V (oiq a h):=⟨hm.ru,hm.vw,hm.pool,hm.len,hm.block,hm.drawn,hm.back,hm.odd,g⟩
theorem cTq(o:OkAu a)(g:HbM h):OkAu (oiq a h):=
 ⟨o.pool,o.drawn,o.drawl,o.back,o.backl,o.tells,by have:=g.1.2;show h.subs.length<=_;omega,λs hs=>by have:=(g.p.each s hs).2.2.1;omega⟩
end
section
attribute [local irreducible] CoW OpW FlW aeq aiq
variable {G:Nat->Option W}
theorem pnq(s:Shd)(hn:s.length<=1000)(hx:∀l∈s,l.txs.length<=1000):PE cfg G 208 [shdW s] (λw=>∃n:Nat,w= .int .i64 (n:Int)):=by
 have e:(s.map lnW).length=s.length:=Zd _;refine gIe 11 Y (λR k0=>gZ 0 Y e ?_);refine gLo (α:=Nat×Nat) 4 (λp=>p.1<=s.length/\p.2<=p.1*1000) (λp=>[(8,.int .i64 (p.1:Int)),(2,.int .i64 (p.2:Int))]) [6,7] (λp=>s.length-p.1) ((0,0)) rfl (⟨Zi _,Zi _⟩) (λp hI=>?_);obtain⟨i,n⟩:=p;obtain⟨g1,g2⟩:=hI;simp only at g1 g2;refine gS 6 Y (λh1=>?_) (λh1=>?_)
 .have hi:i<s.length:=by omega
  obtain⟨l,hl⟩:∃l,s[i]? =some l:=⟨_,Za hi⟩
  have hlx:=hx l (Zf hl);have el:(l.txs.map txW).length=l.txs.length:=Zd _;exact gP 6 Y (zyq (i:=i) Y Y Y Y Y Y Y (zgq lnW hl)) (gZ 9 Y el (gA 0 Y (n+l.txs.length) (gA 5 Y (i+1) (gAg 2 Y ((i+1,n+l.txs.length)) (⟨hi,by show n+l.txs.length<=(i+1)*1000;omega⟩) (by show s.length-(i+1)<s.length-i;omega)))))
 .exact gO 2 Y (zcq 9 Y (z1q (w':=.int .i64 (n:Int)) Jm rfl (.pur rfl) rfl ⟨n,rfl⟩))
theorem xMq(s:Shd)(i:Nat)(l:Ln)(hl:s[i]? =some l)(y:Tx)(hy:l.txs[l.txs.length-1]? =some y)(hn:l.txs.length<=1000000000):PS cfg G 239 [.int .i64 (i:Int),.fel (.fel (shdW s))] (.int .u64 (y.fee:Int)):=by
 have el:(l.txs.map txW).length=l.txs.length:=Zd _;have h1:=y2q hy;exact gI 13 Y (λR k0=>gP 0 Y (zyq (i:=i) Y Y Y Y Y Y Y (zgq lnW hl)) (gP 8 Y (zyq (i:=i) Y Y Y Y Y Y Y (zgq lnW hl)) (gZ 2 Y el (gA 0 Y (l.txs.length-1) (gP 0 Y (zyq (i:=l.txs.length-1) Y Y Y Y Y Y Y (zgq txW hy)) (gQa 6 Y))))))
theorem oRq(s:Shd)(x:Tx)(hn:s.length<=1000000000)(hx:∀l∈s,l.txs≠[]/\l.txs.length<=1000000000):PE cfg glK 209 [.fel (shdW s),txW x] (λw=>w= .int .i64 (-1)\/∃i:Nat,i<s.length/\w= .int .i64 (i:Int)):=by
 have e:(s.map lnW).length=s.length:=Zd _;have hps:=k7q s
 have hlast:∀(i:Nat) l,s[i]? =some l->∃y,l.txs[l.txs.length-1]? =some y:=λi l hl=>by
  have:=(hx l (Zf hl)).1;have h0:l.txs.length≠0:=λq=>this (Z4.1 q)
  exact⟨_,Za Xd⟩
 have hv:∀{P:HpW} {n:Int},apq P 0=some (.fel (shdW s)) ->ViewL (apq P) [.int .i64 n,.ptr 0 0] [.int .i64 n,.fel (.fel (shdW s))]:=λq=>.cons (.pur rfl) (.cons (yYq q hps rfl) .nil)
 have hpa:∀n:Int,acq [.int .i64 n,.fel (.fel (shdW s))]=true:=λn=>by show(true&&(abq (shdW s)&&true))=true;rw[hps];rfl
 refine gIe 10 Y (λR k0=>gC 0 Y (bIq x) (gZ 19 Y e ?_));refine gLo (α:=Nat×Int) 4 (λp=>p.1<=s.length/\(p.2=-1\/∃j:Nat,j<s.length/\p.2=(j:Int))) (λp=>[(18,.int .i64 (p.1:Int)),(5,.int .i64 p.2)]) [2,3,4,6,7,17] (λp=>s.length-p.1) ((0,-1)) rfl (⟨Zi _,.inl rfl⟩) (λp hI=>?_);obtain⟨i,q⟩:=p;obtain⟨g1,g2⟩:=hI;simp only at g1 g2;refine gS 6 Y (λh1=>?_) (λh1=>?_)
 .have hi:i<s.length:=by omega
  obtain⟨l,hl⟩:∃l,s[i]? =some l:=⟨_,Za hi⟩
  obtain⟨y,hy⟩:=hlast i l hl;have hly:=(hx l (Zf hl)).2;have hmu:s.length-(i+1)<s.length-i:=by omega
  skip
  by_cases hw:l.who=atq x.pub
  .exact gP 18 Y (zyq (i:=i) Y Y Y Y Y Y Y (zgq lnW hl)) (zcq 3 Y (jcq (w':=.bool false) rfl (qZq Y Y Y Y (yzq Y Y Y Y Y Y _ _ 250)) (by rw[Zn hw];rfl) (yhq 28 Y (gA 0 Y (i+1) (gAg 2 Y ((i+1,q)) (⟨hi,g2⟩) (hmu))))))
  .by_cases hf:y.fee<x.fee
   .rcases g2 with rfl|⟨j,hj,rfl⟩
    .exact gP 18 Y (zyq (i:=i) Y Y Y Y Y Y Y (zgq lnW hl)) (zcq 3 Y (jcq (w':=.bool true) rfl (qZq Y Y Y Y (yzq Y Y Y Y Y Y _ _ 250)) Qy (yhq 3 Y (YIq Y Y Y Y Y (hv rfl) (xMq s i l hl y hy hly) (hpa _) rfl Xr (yhq 2 Y (gT 0 Y (ltI_iff.2 Xd) (gT 3 Y (ltI_iff.2 (by show(-1:Int)<0;decide)) (gA 20 Y (i+1) (gAg 2 Y ((i+1,(i:Int))) (⟨hi,.inr ⟨i,hi,rfl⟩⟩) (hmu))))))))))
    .obtain⟨l2,hl2⟩:∃l,s[j]? =some l:=⟨_,Za hj⟩
     obtain⟨y2,hy2⟩:=hlast j l2 hl2;have hly2:=(hx l2 (Zf hl2)).2;by_cases hz:y.fee<y2.fee
     .exact gP 18 Y (zyq (i:=i) Y Y Y Y Y Y Y (zgq lnW hl)) (zcq 3 Y (jcq (w':=.bool true) rfl (qZq Y Y Y Y (yzq Y Y Y Y Y Y _ _ 250)) Qy (yhq 3 Y (YIq Y Y Y Y Y (hv rfl) (xMq s i l hl y hy hly) (hpa _) rfl Xr (yhq 2 Y (gT 0 Y (ltI_iff.2 Xd) (gF 3 Y (ltI_not.2 Xd) (zcq 3 Y (YIq Y Y Y Y Y (hv rfl) (xMq s i l hl y hy hly) (hpa _) rfl Xr (yhq 2 Y (YIq Y Y Y Y Y (hv rfl) (xMq s j l2 hl2 y2 hy2 hly2) (hpa _) rfl Xr (jcq (w':=.bool true) Y Y (Ze W.bool (ltI_iff.2 Xd)) (yhq 12 Y (gA 0 Y (i+1) (gAg 2 Y ((i+1,(i:Int))) (⟨hi,.inr ⟨i,hi,rfl⟩⟩) (hmu))))))))))))))))
     .exact gP 18 Y (zyq (i:=i) Y Y Y Y Y Y Y (zgq lnW hl)) (zcq 3 Y (jcq (w':=.bool true) rfl (qZq Y Y Y Y (yzq Y Y Y Y Y Y _ _ 250)) Qy (yhq 3 Y (YIq Y Y Y Y Y (hv rfl) (xMq s i l hl y hy hly) (hpa _) rfl Xr (yhq 2 Y (gT 0 Y (ltI_iff.2 Xd) (gF 3 Y (ltI_not.2 Xd) (zcq 3 Y (YIq Y Y Y Y Y (hv rfl) (xMq s i l hl y hy hly) (hpa _) rfl Xr (yhq 2 Y (YIq Y Y Y Y Y (hv rfl) (xMq s j l2 hl2 y2 hy2 hly2) (hpa _) rfl Xr (jcq (w':=.bool false) Y Y (Ze W.bool (ltI_not.2 Xd)) (yhq 9 Y (gA 0 Y (i+1) (gAg 2 Y ((i+1,(j:Int))) (⟨hi,.inr ⟨j,hj,rfl⟩⟩) (hmu))))))))))))))))
   .exact gP 18 Y (zyq (i:=i) Y Y Y Y Y Y Y (zgq lnW hl)) (zcq 3 Y (jcq (w':=.bool true) rfl (qZq Y Y Y Y (yzq Y Y Y Y Y Y _ _ 250)) Qy (yhq 3 Y (YIq Y Y Y Y Y (hv rfl) (xMq s i l hl y hy hly) (hpa _) rfl Xr (yhq 2 Y (gF 0 Y (ltI_not.2 Xd) (gA 21 Y (i+1) (gAg 2 Y ((i+1,q)) (⟨hi,g2⟩) (hmu)))))))))
 .exact gO 2 Y (zcq 9 Y (z1q (w':=.int .i64 q) Jm rfl (.pur rfl) rfl (by rcases g2 with rfl|⟨j,hj,rfl⟩;exact .inl rfl;exact .inr ⟨j,hj,rfl⟩)))
end
section
variable {C:Cfg} {G:Nat->Option W} {R:Res}
theorem Bqq{F:FuncId}{te K:Nat}(hk:C.known F=some (dfq te K))(hK:Nat.blt 0 K=true){olds:List W}{ob:W}{n i:Nat}(hs0:ysq 50 ob 0 n K=some olds)(hi:i<n)(hb2:n<=70368744177664):
  yxq C G F 1 [.sl 0 0 0 n K none,.int .i64 (i:Int),.int .i64 ((i+1:Nat):Int)] [(0,te,ob)]
   λw hp' nw'=>w= .sl 1 0 0 (n-1) K none/\hp'=[(1,te,.arr ((n-1)*K) K (olds.take i++olds.drop (i+1)))]/\nw'=2:=λR Γ X vs hnw s hv=>by
 obtain⟨v0,vs1,rfl,hv0,hv1⟩:=RVL_cons.1 hv;obtain⟨v1,vs2,rfl,hvi,hv2⟩:=RVL_cons.1 hv1;obtain⟨v2,vs3,rfl,hvx,hv3⟩:=RVL_cons.1 hv2;obtain rfl:=RVL_nil.1 hv3;obtain⟨hb0,rfl⟩:=RV_sl.1 hv0;obtain rfl:=RV_int.1 hvi;obtain rfl:=RV_int.1 hvx;have hK0:0<K:=by simpa using hK
 have hg0:hget [(0,te,ob)] 0=some (te,ob):=rfl;obtain⟨bv,q1,q2,q3⟩:=qVq s hg0;obtain⟨us,g1,ho,g3⟩:=uxq q3 hs0
 have hml:(n-1)*K=(us.take i++us.drop (i+1)).length*K:=by
  congr 1
  simp only[Zj,Zu,Zx,g3.len];omega
 have hwl:(olds.take i++olds.drop (i+1)).length=n-1:=by
  simp only[Zj,Zu,Zx];omega
 have ha:RV Γ (.arr ((n-1)*K) K (olds.take i++olds.drop (i+1))) (.arr ((n-1)*K) K (us.take i++us.drop (i+1))):=by
  have:=((g3.split i).1.append (g3.split (i+1)).2).arr;rw[hwl,<-hml] at this;exact this
 have hrun:dfq te K [.sl (Γ.σ 0) 0 0 n K none,.int .i64 (i:Int),.int .i64 ((i+1:Nat):Int)] Γ.h=some (.sl Γ.h.next 0 0 (n-1) K none,(Γ.h.push (.cells te (.arr ((n-1)*K) K (us.take i++us.drop (i+1))))).kill (Γ.σ 0)):=by
  show dfq te K [.sl (Γ.σ 0) 0 0 n K none,.int .i64 (.ofNat i),.int .i64 (.ofNat (i+1))] Γ.h=_;have hlt:Nat.blt i n=true:=by simpa using hi
  simp only[dfq,hlt,show Nat.beq (i+1) (i+1)=true by simp,show Nat.beq K K=true by simp,Zl hb2,hK,Bool.and_self,q1,show Nat.beq te te=true by simp,g1]
 have n1:=vcq s (ty:=te) ha;have le1:=Ylq s (.cells te (.arr ((n-1)*K) K (us.take i++us.drop (i+1))))
 have hgb':hget ((Γ.nw,te,W.arr ((n-1)*K) K (olds.take i++olds.drop (i+1)))::[(0,te,ob)]) 0=some (te,ob):=by
  rw[zeq,Zg Xd];exact hg0
 obtain⟨le2,n2,f2⟩:=JSq n1.1 hgb';have hσ:(Γ.push (.cells te (.arr ((n-1)*K) K (us.take i++us.drop (i+1))))).σ 0=Γ.σ 0:=le1.σ 0 hb0
 have hdl:awq ((Γ.nw,te,W.arr ((n-1)*K) K (olds.take i++olds.drop (i+1)))::[(0,te,ob)]) 0=[(Γ.nw,te,W.arr ((n-1)*K) K (olds.take i++olds.drop (i+1)))]:=by
  rw[hnw];rfl
 rw[hdl,hσ] at n2 f2;rw[hσ] at le2;refine⟨1,.sl Γ.h.next 0 0 (n-1) K none,_,X,.sl Γ.nw 0 0 (n-1) K none,_,R,?_,n2,Eq.mp (Ze (λk=>Frm k Γ _ X _ _ X) hnw) (n1.2.trans (f2.le (m':=Γ.nw) (YK _) (Zc _))),RV_sl.2 ⟨YE _,by simp[Ctx.push]⟩,rfl,by rw[hnw],by rw[hnw],by show Γ.nw+1=2;rw[hnw]⟩;simp only[yPq,hk,hrun];rfl
theorem Kcq{l:List W}{i j:Nat}(h:acq l=true):acq (l.take i++l.drop j)=true:=by
 have h1:=h;have h2:=h;rw[<-ZJ i l,jBq,Zb] at h1;rw[<-ZJ j l,jBq,Zb] at h2;rw[jBq,h1.1,h2.2];rfl
theorem a6q{o:Oper}{fr:FrW}{hp:HpW}{nw:Nat}{post:W->HpW->Nat->Res->Option EvW->Prop}{x:Operand}{xs:Array Operand}{ats:Array TypeId}{F:FuncId}{te K:Nat}(hk:C.known F=some (dfq te K))(hK:Nat.blt 0 K=true)
  {L:List W} {i b:Nat} (ho:o.op= .call ⟨.value x,xs,ats⟩) (hx:evW C G fr x=some (.fn F [] [])) (he:C.ext F=none) (hxs:ayq C G fr xs.toList=some [.sl b 0 0 L.length K none,.int .i64 (i:Int),.int .i64 ((i+1:Nat):Int)])
  (hu:hget hp b=some (te,.arr (L.length*K) K L)) (hL:acq L=true) (hbn:b<nw) (hi:i<L.length) (hb2:L.length<=70368744177664)
  (P:HpW) (hP:∀c z,hget P c=some z->c≠b/\hget hp c=some z) (hPn:∀p∈P,p.1≠nw) (hnd:(P.map (·.1)).Nodup)
  (h:∀L',L'=L.take i++L.drop (i+1) ->post (.sl nw 0 0 L'.length K none) ((nw,te,.arr (L'.length*K) K L')::P) (nw+1) R (some .dirty)):aeq C G o fr hp nw R post:=by
 have hK0:0<K:=by simpa using hK
 have el:(L.take i++L.drop (i+1)).length=L.length-1:=by
  simp only[Zj,Zu,Zx];omega
 have h:=h _ rfl;rw[el] at h;have hnew:abq (.arr ((L.length-1)*K) K (L.take i++L.drop (i+1)))=true:=Kcq hL;have hop:abq (.arr (L.length*K) K L)=true:=hL;refine y0q (zGq (ext:=[b]) (ws:=[.sl 0 0 0 L.length K none,.int .i64 (i:Int),.int .i64 ((i+1:Nat):Int)]) (hp0:=[(0,te,.arr (L.length*K) K L)]) ho hx he hxs rfl (Bqq (ob:=.arr (L.length*K) K L) (olds:=L) hk hK (zvq hK0 Y Y) hi hb2) Xi (by simpa using hbn) Xi (λc ty w hc=>?_) Y ?_)
 .rw[zeq] at hc;split at hc
  .rename_i e;subst e;cases hc;exact⟨by simp,zaq hop,b,rfl,by rw[zfq hop];exact hu⟩
  .simp[hget] at hc
 .rintro w hp1 nw1 ⟨rfl,rfl,rfl⟩;refine⟨(nw,te,.arr ((L.length-1)*K) K (L.take i++L.drop (i+1)))::P,λc y hc=>?_,?_,?_⟩
  .rw[zeq] at hc;split at hc
   .rename_i e;subst e;cases hc;show hget ((nw+(1-1),te,adq _ _)::_) _=_;rw[zeq,Zt Xd,zfq hnew]
   .rename_i e;obtain⟨p1,p2⟩:=hP c y hc;show hget ((nw+(1-1),_)::awq hp b) c=_;rw[zeq,Zg Xd,kVq p1];exact p2
  .rw[ZC,Y0];refine⟨λhm=>?_,hnd⟩;obtain⟨p,hp,e⟩:=Z1.1 hm;exact hPn p hp e
  .exact h
end
section
attribute [local irreducible] CoW OpW FlW aeq aiq
section
variable {G:Nat->Option W}
theorem wCq:cfg.known 240=some (dfq 133 33):=by kernel_rfl
theorem gZq{x y:TypeId×W}{Q:HpW}(hQ:∀p∈Q,p.1=1):∀c u,hget [(2,x),(0,y)] c=some u->c≠1/\hget ((2,x)::(0,y)::Q) c=some u:=λc u hc=>by
 have h:=hc;rw[zeq] at h;split at h
 .rename_i q;subst q;cases h;exact⟨by decide,rfl⟩
 .rw[zeq] at h;split at h
  .rename_i q;subst q;cases h;exact⟨by decide,rfl⟩
  .simp[hget] at h
theorem tJq(s:Shd)(l:Ln)(o:Option (List W))(ho:o.getD []=s.map lnW)(ht:l.txs=[])(hat:aRq s l.who)(hn:s.length<=1000):yxq cfg G 210 2 [.ptr 0 0,lnW l] (ptH 1 o) λw hp nw=>w= .tup []/\(∃c o',(c=1\/c=2)/\o'.getD []=(wDq s l.who).map lnW/\hp=ptH c o')/\nw=3:=by
 have e:(s.map lnW).length=s.length:=Zd _;have e2:(l.txs.map txW).length=0:=by rw[ht];rfl
 have hps:=y7q s;have hpa:acq [.fel (shdW s),dW l.who]=true:=by simp[acq,abq]
 obtain⟨z,hz,hw⟩:=hat;have hlt:=y2q hz
 have e3:(wDq s l.who).map lnW=(s.map lnW).take (fndK s l.who)++(s.map lnW).drop (fndK s l.who+1):=by
  unfold wDq;rw[Z5,List.map_take,List.map_drop]
 obtain rfl:o=some (s.map lnW):=by
  cases o with
  |none=>exact absurd (ho.symm▸e:([]:List W).length=_) Yu
  |some L=>exact Ze some ho
 intro R;refine gIs 17 Y (λk0=>?_);refine ulq Y Y Y Y Y (.cons (kHq rfl ho (z2q Xg (z2q Xg kqq))) (.cons (.pur (qhq l.who)) .nil)) (zoq (w':=.tup [.int .i64 (fndK s l.who:Int),.bool true]) (YKq s l.who Xd) (by rw[Zn (show aRq s l.who from⟨z,hz,hw⟩)])) hpa Y (zhq 14 Y (gZ 0 Y e2 (gT 0 Y (eqI_iff.2 (rfl)) (gA 14 Y (fndK s l.who+1) ?_))))
 (refine zsq rfl (a6q (L:=s.map lnW) (i:=fndK s l.who) (b:=1) wCq Y Y Y Y Y Y hps Xg (by rw[e];exact hlt) Yp [(2,133,lnW l),(0,358,ptO 1 (some (s.map lnW)))] (gZq λp hp=>qWq p hp) Xi Xi ?_);intro L hL)
 refine zhq 3 Y (gM 0 Y (qrq Y Y Y Y Y (show _=some (ptO 3 (some L)) from rfl) rfl) (zcq 2 Y ?_));have hpl:abq (.arr (L.length*33) 33 L)=true:=by show acq L=true;rw[hL];exact Kcq hps
 exact fin (.inl rfl) (qdq (b:=2) (k:=3) (fr2:=[]) (hp2:=ptH 2 (some L)) Xg Xg Xg trivial ⟨⟨by decide,by rw[xhq];rfl,xKq Xg⟩,⟨by decide,by rw[zfq hpl];rfl,zaq hpl⟩,trivial⟩ (by simp[ptH,oH])) rfl ⟨rfl,rfl,⟨2,some L,.inr rfl,by rw[e3];exact hL,rfl⟩,rfl⟩
theorem tFq(s:Shd)(l:Ln)(o:Option (List W))(ho:o.getD []=s.map lnW)(hat:l.txs=[] ->aRq s l.who)(hl:l.txs.length<=1000)(hn:s.length<=1000):yxq cfg G 210 2 [.ptr 0 0,lnW l] (ptH 1 o) λw hp nw=>w= .tup []/\(∃c o',(c=1\/c=2)/\o'.getD []=(i2q s l).map lnW/\hp=ptH c o')/\nw=3:=by
 unfold i2q;by_cases h:l.txs=[]
 .rw[Zt h];exact tJq s l o ho h (hat h) hn
 .rw[Zg h];exact tCq s l o ho h hl hn
theorem ZGq{R:Res}{op:Oper}{fr:FrW}{hp:HpW}{nw:Nat}{post:W->HpW->Nat->Res->Option EvW->Prop}{x:Operand}{xs:Array Operand}{ats:Array TypeId}{p c:Nat}{ou:Option (List W)}{S:Shd}{l:Ln}(ho:op.op= .call ⟨.value x,xs,ats⟩)(hx:evW cfg G fr x=some (.fn 210 [] []))(hxs:ayq cfg G fr xs.toList=some [.ptr p 0,lnW l])
  (h1:hget hp p=some (358,ptO c ou)) (h2:oIn hp c 133 33 ou) (g:ou.getD []=S.map lnW) (hpc:p≠c) (hpn:p<nw) (hcn:c<nw) (hat:l.txs=[] ->aRq S l.who) (hl:l.txs.length<=1000) (hS:S.length<=1000)
  (Z:HpW) (hZ:∀k y,hget Z k=some y->k≠p/\k≠c/\hget hp k=some y) (hZn:∀q∈Z,q.1<nw/\q.1≠p/\q.1≠c) (hnd:(Z.map (·.1)).Nodup)
  (k:∀cN o2,(cN=c\/cN=nw) ->o2.getD []=(i2q S l).map lnW->post (.tup []) ((p,358,ptO cN o2)::(Z++oH cN 133 33 o2)) (nw+1) R (some .dirty)):aeq cfg G op fr hp nw R post:=by
 have hpu:acq (ou.getD [])=true:=g▸y7q S
 refine y0q (zGq (ext:=[p,c]) (ws:=[.ptr 0 0,lnW l]) (hp0:=ptH 1 ou) ho hx rfl hxs (by rw[ySq,ySq,zfq (qXq l)];rfl) (tFq S l ou g hat hl hS) (by simpa using hpc) Xl (by cases ou<;>simp[ptH,oH]) (jmq ⟨⟨by simp,xKq Xi,p,rfl,by rw[xhq];exact h1⟩,B0q rfl hpu h2⟩) (by show(true&&(agq 2 (lnW l)&&true))=true;rw[zaq (qXq l)];rfl) ?_);rintro w hp1 nw1 ⟨rfl,⟨b,o2,hb,ho2,rfl⟩,rfl⟩;have hp2:acq (o2.getD [])=true:=ho2▸y7q _
 obtain⟨cN,hcN,hcE⟩:∃cN,(cN=c\/cN=nw)/\afq [p,c] nw b=cN:=by
  rcases hb with rfl|rfl
  .exact⟨c,.inl rfl,rfl⟩
  .exact⟨nw,.inr rfl,by show nw+(2-2)=nw;omega⟩
 have hcp:cN≠p:=by omega
 have hcZ:∀q∈Z,q.1≠cN:=λq hq=>by
  have:=hZn q hq;omega
 refine⟨(p,358,ptO cN o2)::(Z++oH cN 133 33 o2),λi y hi=>?_,?_,k cN o2 hcN ho2⟩
 .rw [show alq (afq [p,c] nw) (ptH b o2)=(p,358,ptO cN o2)::oH cN 133 33 o2 from by rw[ptH,alq,xhq,Ziq _ _ _ _ hp2,hcE];rfl];rw[zeq] at hi;show hget ((p,_)::(oH cN _ 33 o2++bVq [p,c] hp)) i=_;rw[zeq];split
  .rename_i q;rw[Zt q] at hi;exact hi
  .rename_i q;rw[Zg q,jUq] at hi;rw[jUq];cases hz:hget Z i with
   |some z=>
    rw[hz] at hi;obtain⟨z1,z2,z3⟩:=hZ i z hz
    have hiN:i≠cN:=λe=>by
     rw[e,y3q hcZ] at hz;cases hz
    rw[y3q (λr hr e=>hiN (by rw[qWq r hr] at e;exact e.symm)),dgq (λj hj=>by simp only[ZF,YG,or_false] at hj;rcases hj with rfl|rfl;exact λe=>z1 e.symm;exact λe=>z2 e.symm),z3];exact hi
   |none=>
    rw[hz] at hi;have hi:hget (oH cN 133 33 o2) i=some y:=hi;rw[hi];rfl
 .rw[ZC,Y0,Z5];refine⟨λhm=>?_,List.nodup_append.2 ⟨hnd,by cases o2<;>simp[oH],λa ha b hb e=>?_⟩⟩
  .rcases ZT.1 hm with h|h
   .obtain⟨q,hq,e⟩:=Z1.1 h;exact(hZn q hq).2.1 e
   .obtain⟨q,hq,e⟩:=Z1.1 h;rw[qWq q hq] at e;exact hcp e
  .obtain⟨q,hq,rfl⟩:=Z1.1 ha;obtain⟨r,hr,rfl⟩:=Z1.1 hb;exact hcZ q hq (by rw[e];exact qWq r hr)
end
theorem gIq{l l':Ln}{x:Tx}(hx:∀y∈l.txs,y.ok)(ok:x.ok)(hm:LnM l)(ho:fAq x l.who)(hl:l.txs.length<256)(he:pJq l x=some l'):∃old,(old= .nils\/∃y:Tx,old= .fz [txW y] 99 false)/\PS cfg glK 206 [lnW l,txW x] (.tup [lnW l',old,.int .i64 0]):=by
 unfold pJq at he;split at he
 .rename_i y hy;split at he
  .rename_i hn;split at he
   .cases he
   .rename_i hf;cases he;exact⟨_,.inr ⟨y,rfl⟩,pGq l x hx ok hm ho hy hn hf⟩
  .rename_i hn;cases he;exact⟨_,.inl rfl,gKq l x hx ok hm ho hl (λz hz=>by obtain rfl:=ZB (hy.symm.trans hz);exact hn)⟩
 .rename_i hy;cases he;exact⟨_,.inl rfl,gKq l x hx ok hm ho hl (λz hz=>by rw[hy] at hz;cases hz)⟩
theorem wmq{n i m:Nat}{s:Shd}(h:GoodS n i m s){j:Nat}{l:Ln}(hj:s[j]? =some l):aRq s l.who:=by
 have:fndK s l.who=j:=ljq Qa (λk x hk hx=>gHq h.keys hk hx hj) (λx hx=>by obtain rfl:=ZB (hj.symm.trans hx);exact fzq _);exact⟨l,by rw[this];exact hj,rfl⟩
noncomputable def sbH(c:Nat)(s:Shd)(x:Tx)(o:Option (List W)):HpW:=[(6,358,ptO c o),(2,131,.agg 1 [.nils]),(1,72,txW x),(0,131,shdW s)]++oH c 133 33 o
theorem tjq{s:Shd}{x:Tx}{o:Option (List W)}:((sbH 7 s x o).map (·.1)).Nodup:=by
 cases o<;>simp[sbH,oH]
theorem tiq{k:Nat}{s:Shd}{x:Tx}{o:Option (List W)}(h:k≠6/\k≠7/\2<k):∀p∈sbH 7 s x o,p.1≠k:=λp hp=>by
 rcases ZT.1 hp with hp|hp
 .simp only[ZF,YG,or_false] at hp;rcases hp with rfl|rfl|rfl|rfl
  .exact λe=>h.1 e.symm
  .show 2≠k;omega
  .show 1≠k;omega
  .show 0≠k;omega
 .rw[qWq p hp];exact λe=>h.2.1 e.symm
theorem eXq{s:Shd}{x:Tx}{o:Option (List W)}:oIn (sbH 7 s x o) 7 133 33 o:=xiq (y8q (l:=[6,2,1,0]) rfl Xi)
theorem AFq{s:Shd}{x:Tx}{o:Option (List W)}:hget (sbH 7 s x o) 7=hget (oH 7 133 33 o) 7:=by
 unfold sbH;rw[jUq,y3q (y8q (l:=[6,2,1,0]) rfl Xi)];rfl
theorem aTq{hp:HpW}{p c:Nat}:∀{Z:HpW},(∀q∈Z,q.1≠p/\q.1≠c/\hget hp q.1=some q.2) ->∀k y,hget Z k=some y->k≠p/\k≠c/\hget hp k=some y
 |[],_,k,y,hk=>by simp[hget] at hk
 |q::Z,h,k,y,hk=>by
  rw[zeq] at hk;split at hk
  .rename_i e;subst e;cases hk;exact h q (ZS ..)
  .exact aTq (λr hr=>h r (ZP _ hr)) k y hk
theorem aSq{P:Nat×TypeId×W->Prop}{a:Nat×TypeId×W}(h:P a):∀q∈[a],P q:=λq hq=>by obtain rfl:=Y4.1 hq;exact h
theorem Quq{P:Nat×TypeId×W->Prop}{a:Nat×TypeId×W}{l:HpW}(h:P a)(hl:∀q∈l,P q):∀q∈a::l,P q:=λq hq=>by
 rcases ZF.1 hq with rfl|hq
 .exact h
 .exact hl q hq
theorem pmq{N i m:Nat}{s:Shd}(hs:GoodS N i m s)(hm:m<=100)(cap:Int)(nonce:Nat)(x:Tx)(hx:x.ok)(hk:atE (atq x.pub) N=i):PE cfg glK 154 [shdW s,.int .i64 cap,.int .u64 (nonce:Int),txW x] (Avq N i m):=by
 have e:(s.map lnW).length=s.length:=Zd _;have hsl:=hs.len;have hps:=y7q s;have hxn:=hx.nonce;have hok:∀l∈s,OkL l:=λl hl=>⟨λx hx=>((hs.line l hl).1.own x hx).2,by have:=(hs.line l hl).1.len;omega⟩
 have hlen:∀l∈s,l.txs.length<=m:=λl hl=>(hs.line l hl).1.len
 have hch:=zoq (w':=.int .i64 0) (u3q s hok Xd) (by rw[Zt (hs.sh Xd)]);have hno:∀e:Int,e≠0->Avq N i m (.tup [.agg 1 [.nils],.nils,.int .i64 e]):=λe he=>.inr ⟨e,he,rfl⟩
 by_cases c1:x.sign=xCq x
 .have htx:=zoq (w':=.int .i64 0) (qBq x hx) Yx;by_cases c2:x.nonce<nonce
  .skip
   exact gIe 14 Y (λR k0=>gC 0 Y (hch) (gF 0 Y (Ze not (eqI_iff.2 (rfl))) (gC 7 Y (htx) (gF 0 Y (Ze not (eqI_iff.2 (rfl))) (gT 9 Y (ltI_iff.2 Xd) (zcq 15 Y (z1q (w':=.tup [.agg 1 [.nils],.nils,.int .i64 200]) Jm rfl (.pur rfl) rfl (hno 200 Xg))))))))
  .by_cases c3:x.nonce-nonce<16
   .by_cases c4:x.nonce=18446744073709551615
    .skip
     exact gIe 14 Y (λR k0=>gC 0 Y (hch) (gF 0 Y (Ze not (eqI_iff.2 (rfl))) (gC 7 Y (htx) (gF 0 Y (Ze not (eqI_iff.2 (rfl))) (gF 9 Y (ltI_not.2 Xd) (gA 9 Y (x.nonce-nonce) (gF 0 Y (Ze not (ltI_iff.2 Xd)) (gT 3 Y (eqI_iff.2 Xd) (zcq 16 Y (z1q (w':=.tup [.agg 1 [.nils],.nils,.int .i64 201]) Jm rfl (.pur rfl) rfl (hno 201 Xg)))))))))))
    .have hw:=hmq s (atq x.pub);have hgl:=e9q hs hk;have hll:=hgl.len;have hlm:=hgl.lnm Xd;have hox:fAq x (kEq s (atq x.pub)).who:=⟨c1,hw.symm⟩;have hlx:∀y∈(kEq s (atq x.pub)).txs,y.ok:=λy hy=>(hgl.own y hy).2
     have hpa:acq [.fel (shdW s),dW (atq x.pub)]=true:=by simp[acq,abq]
     refine gIe 14 Y (λR k0=>gC 0 Y (hch) (gF 0 Y (Ze not (eqI_iff.2 (rfl))) (gC 7 Y (htx) (gF 0 Y (Ze not (eqI_iff.2 (rfl))) (gF 9 Y (ltI_not.2 Xd) (gA 9 Y (x.nonce-nonce) (gF 0 Y (Ze not (ltI_iff.2 Xd)) (gF 3 Y (eqI_not.2 Xd) (zcq 11 Y ?_)))))))))
     (refine zsq rfl (y0q (yMq Y Y Y Y Y Yc (plq s Xd (λl hl=>by have:=hlen l hl;omega)) ?_));rintro w hp1 nw1 ⟨⟨o,ho,rfl,rfl⟩,rfl⟩;have hpb:acq (o.getD [])=true:=(by rw[ho];exact y7q s);rw[xhq,show alq (afq [] 3) ([(1,131,ptO 2 o),(0,131,shdW s)]++oH 2 133 33 o)=[(4,131,ptO 5 o),(3,131,shdW s)]++oH 5 133 33 o from(by rw[Yfq,Ziq _ _ _ _ hpb,alq,alq,xhq,zfq (k7q s)];rfl),show afq [] 3 2=5 from rfl];refine⟨_,krq (n:=3) (xNq (l:=[2,1,0]) rfl Xg) Xi (λp hp=>by rw[qWq p hp];simp),kCq (y8q (l:=[2,1,0]) rfl Xg) (show [2,1,0].Nodup by decide),?_⟩)
     refine yyq rfl ((show _=some (ptO 5 o) from by cases o<;>rfl)) ?_;refine jbq Y Y ?_
     (refine jiq (λ_=>owq (b:=7) (k:=5) (fr2:=[(1,.int .i64 cap),(4,.ptr 0 0),(7,.ptr 1 0),(8,.ptr 2 0),(48,.ptr 6 0)]) (hp2:=sbH 7 s x o) Xg Xg Xg Xg (λp hp=>.inl (tiq Xg p hp)) ⟨⟨rfl,rfl⟩,⟨rfl,rfl⟩,⟨rfl,rfl⟩,⟨rfl,rfl⟩,⟨rfl,rfl⟩,trivial⟩ ⟨⟨by decide,by rw[xhq];rfl,xKq Xg⟩,⟨by decide,rfl,rfl⟩,⟨by decide,by rw[zfq (qGq x)];rfl,zaq (qGq x)⟩,⟨by decide,by rw[zfq (k7q s)];rfl,zaq (k7q s)⟩,peq Xg hpb (z2q Xg (xiq (y8q (l:=[2,1,0]) rfl Xg)))⟩ tjq) ?_;refine yyq Y Y ?_)
     refine zhq 6 Y (gC 0 Y (bIq x) ?_)
     (refine qmq rfl (dDq (Qxq Y Y Y Y (.cons (kHq rfl ho eXq) (.cons (.pur (qhq _)) .nil)) (t0q s (atq x.pub) Xd) hpa) (y0q (zGq (ext:=[6,7]) (ws:=[.ptr 0 0,dW (atq x.pub)]) (hp0:=ptH 1 o) Y Y Y Y (by rw[ySq,ySq,zfq (qhq _)];rfl) (t1q s (atq x.pub) o ho Xd) Xg Xl (by cases o<;>simp[ptH,oH]) (jmq ⟨⟨by decide,xKq Xg,6,rfl,by rw[xhq];rfl⟩,B0q rfl hpb eXq⟩) (by show(true&&(agq 2 (dW _)&&true))=true;rw[zaq (qhq _)];rfl) ?_)));rintro w hp1 nw1 ⟨rfl,rfl,rfl⟩;rw[zfq (qXq _),show alq (afq [6,7] 8) ((3,133,lnW (kEq s (atq x.pub)))::ptH 1 o)=(9,133,lnW (kEq s (atq x.pub)))::(6,358,ptO 7 o)::oH 7 133 33 o from(by rw[alq,ptH,alq,Ziq _ _ _ _ hpb,xhq,zfq (qXq _)];rfl)];refine⟨sbH 7 s x o,mzq (a:=6) (b:=7) rfl AFq (y3q (tiq Xg)) Xg,tjq,by kernel_rfl,?_⟩)
     refine Bhq Y Y ?_;skip
     skip
     cases hpl:pJq (kEq s (atq x.pub)) x with
     |none=>
      have hput:=lUq hlx hx hlm hox hpl;exact mWq (hput) (yhq 14 Y (gT 0 Y (Ze not (eqI_not.2 Xg)) (gT 2 Y (Ze not (eqI_not.2 Xg)) (zcq 15 Y (z1q (w':=.tup [.agg 1 [.nils],.nils,.int .i64 190]) Jm rfl (.pur rfl) rfl (hno 190 Xg))))))
     |some l'=>
      obtain⟨old,hold,hput⟩:=gIq hlx hx hlm hox Xd hpl;obtain⟨w1,w2,w3⟩:=pIq hgl hox hx hpl;have hwl:=w1.len;rcases hold with rfl|⟨y,rfl⟩
      .skip
       refine mWq (hput) (yhq 14 Y (gF 0 Y (Ze not (eqI_iff.2 (rfl))) (gF 13 Y (eqI_not.2 Xg) (gL 9 Y (gT 0 Y (eqI_iff.2 (rfl)) (zcq 2 Y ?_))))))
       (refine zsq rfl (qIq Y Y Y Y Y (pnq s Xd (λl hl=>by have:=hlen l hl;omega)) Yc ?_);rintro w hw ⟨n,rfl⟩)
       refine yyq Y Y ?_;refine AWq Y Y (λh1=>?_) (λh1=>?_)
       .refine zhq 8 Y ?_;skip
        refine gSo 0 Y (a5q Y Y Y Y (.cons (kHq rfl ho (z2q Xg eXq)) (.cons (.pur (qGq x)) .nil)) (oRq s x Xd (λl hl=>⟨(hs.line l hl).2,by have:=hlen l hl;omega⟩)) Qv ?_);rintro w _ _ ⟨_,hq⟩;skip
        skip
        rcases hq with rfl|⟨j,hj,rfl⟩
        .refine⟨rfl,?_⟩;exact zhq 7 Y (gT 0 Y (ltI_iff.2 Xg) (zcq 14 Y (z1q (w':=.tup [.agg 1 [.nils],.nils,.int .i64 9]) Jm rfl (.pur rfl) rfl (hno 9 Xg))))
        .refine⟨rfl,?_⟩;obtain⟨l,hl⟩:∃l,s[j]? =some l:=⟨_,Za hj⟩
         have el:(l.txs.map txW).length=l.txs.length:=Zd _;have hlm2:=Zf hl;have hl0:l.txs.length≠0:=λq=>(hs.line l hlm2).2 (Z4.1 q)
         have hlb:=hlen l hlm2;have hat:=wmq hs hl;obtain⟨z,hz⟩:∃z,l.txs[l.txs.length-1]? =some z:=⟨_,Za Xd⟩
         have hcl:(rYq l).txs.length<=m:=(bYq (hs.line l hlm2).1).len;have hg2:=u9q hs (bYq (hs.line l hlm2).1);have hg2l:=hg2.len
         obtain rfl:o=some (s.map lnW):=by
          cases o with
          |none=>exact absurd (ho.symm▸e:([]:List W).length=_) Yu
          |some L=>exact Ze some ho
         refine zhq 7 Y (gF 0 Y (ltI_not.2 Xd) (gP 13 Y (qbq (i:=j) Y Y Y Y Y Y Y (by rw[e];exact hj)) ?_))
         (refine zsq rfl (Z7q (n:=(s.map lnW).length) (e:=33) Y Y Y Y Y Y Y (zgq lnW hl) Y Y Xg ?_))
         refine zhq 8 Y (gZ 0 Y el (gA 0 Y (l.txs.length-1) (gP 8 Y (zyq (i:=l.txs.length-1) Y Y Y Y Y Y Y (zgq txW hz)) (gP 6 Y (icq (ys:=(rYq l).txs.map txW) (l:=0) (h:=l.txs.length-1) (m:=l.txs.length-1) (g:=true) Y Y Y Y Y Y Y Y (Zi _) (Zc _) (by rw[el];omega) (by rw[el];omega) (by rw[ZV,Y8,<-List.map_take];rfl) (YY _)) (zcq 6 Y (jiq (λ_=>jXq (b:=11) (w':=lnW (rYq l)) rfl (.agg (.cons (.pur (qhq _)) (.cons (.fzw (qTq _)) .nil)))) (yyq Y Y ?_)))))))
         refine jbq Y Y ?_
         (refine zsq rfl (ZGq (p:=6) (c:=7) (ou:=some (s.map lnW)) (S:=s) (l:=rYq l) Y Y Y Y (z2q Xg (z2q Xg (z2q Xg eXq))) rfl Xg Xg Xg (λ_=>hat) Xd Xd [(12,72,txW z),(10,133,lnW l'),(2,131,.agg 1 [.nils])] (aTq (Quq ⟨by simp,by simp,rfl⟩ (Quq ⟨by simp,by simp,rfl⟩ (aSq ⟨by simp,by simp,rfl⟩)))) (Quq ⟨by simp,by simp,by simp⟩ (Quq ⟨by simp,by simp,by simp⟩ (aSq ⟨by simp,by simp,by simp⟩))) Xi ?_);intro cN o2 hcN ho2;have hcN:cN=7\/cN=13:=hcN)
         refine zhq 6 Y ?_
         (refine zsq rfl (ZGq (p:=6) (c:=cN) (ou:=o2) (S:=i2q s (rYq l)) (l:=l') Y Y Y Y (z2q Xd (xiq (y8q (l:=[12,10,2]) rfl Xo))) ho2 Xd Xg (show cN<14 by omega) (λq=>absurd q w2) Xd Xd [(12,72,txW z),(2,131,.agg 1 [.nils])] (aTq (Quq ⟨by simp,by show 12≠cN;omega,rfl⟩ (aSq ⟨by simp,by show 2≠cN;omega,rfl⟩))) (Quq ⟨by simp,by simp,by show 12≠cN;omega⟩ (aSq ⟨by simp,by simp,by show 2≠cN;omega⟩)) Xi ?_);intro cM o3 hcM ho3;have hcM:cM=cN\/cM=14:=hcM)
         refine zhq 7 Y (gM 0 Y (z7q Y Y Y pNq) (gM 1 Y (qrq Y Y Y Y Y gOq rfl) (zcq 5 Y ?_)));have hv:=aXq (e:=33) Xg (show acq (o3.getD [])=true from ho3▸y7q _) (show oIn ([(6,358,ptO cM o3),(12,72,txW z),(2,131,ptO cM o3)]++oH cM 133 33 o3) cM 133 33 o3 from xiq (y8q (l:=[6,12,2]) rfl Xo));rw[ho3] at hv;exact z1q (w':=.tup [shdW (i2q (i2q s (rYq l)) l'),.fz [txW z] 99 false,.int .i64 0]) Jm rfl (.tup (.cons (.agg (.cons hv .nil)) (.cons (.sl (full:=false) (c:=txW z) rfl (qGq z) rfl Xk) (.cons (.pur (w:=.int .i64 0) rfl) .nil)))) Qb (.inl ⟨_,_,rfl,u9q hg2 w1,by simp[abq,acq]⟩)
       .refine zhq 10 Y ?_
        (refine zsq rfl (ZGq (p:=6) (c:=7) (ou:=o) (S:=s) (l:=l') Y Y Y Y (z2q Xg eXq) ho Xg Xg Xg (λq=>absurd q w2) Xd Xd [(2,131,.agg 1 [.nils])] (aTq (aSq ⟨by decide,by decide,rfl⟩)) (aSq ⟨by decide,by decide,by decide⟩) Xi ?_);intro cM o3 hcM ho3;have hcM:cM=7\/cM=11:=hcM)
        refine zhq 7 Y (gM 0 Y (z7q Y Y Y pNq) (gM 1 Y (qrq Y Y Y Y Y gOq rfl) (zcq 5 Y ?_)));have hv:=aXq (e:=33) Xg (show acq (o3.getD [])=true from ho3▸y7q _) (show oIn ([(6,358,ptO cM o3),(2,131,ptO cM o3)]++oH cM 133 33 o3) cM 133 33 o3 from xiq (y8q (l:=[6,2]) rfl Xo));rw[ho3] at hv;exact z1q (w':=.tup [shdW (i2q s l'),.nils,.int .i64 0]) Jm rfl (.tup (.cons (.agg (.cons hv .nil)) (.cons (.pur rfl) (.cons (.pur (w:=.int .i64 0) rfl) .nil)))) Qb (.inl ⟨_,_,rfl,u9q hs.up w1,rfl⟩)
      .skip
       refine mWq (hput) (yhq 14 Y (gF 0 Y (Ze not (eqI_iff.2 (rfl))) (gF 13 Y (eqI_not.2 Xg) (gL 9 Y (gF 0 Y (eqI_not.2 (by show¬((1:Nat):Int)=0;decide)) (zcq 15 Y ?_))))))
       (refine zsq rfl (ZGq (p:=6) (c:=7) (ou:=o) (S:=s) (l:=l') Y Y Y Y (z2q Xg eXq) ho Xg Xg Xg (λq=>absurd q w2) Xd Xd [(2,131,.agg 1 [.nils])] (aTq (aSq ⟨by decide,by decide,rfl⟩)) (aSq ⟨by decide,by decide,by decide⟩) Xi ?_);intro cM o3 hcM ho3;have hcM:cM=7\/cM=11:=hcM)
       refine zhq 7 Y (gM 0 Y (z7q Y Y Y pNq) (gM 1 Y (qrq Y Y Y Y Y gOq rfl) (zcq 5 Y ?_)));have hv:=aXq (e:=33) Xg (show acq (o3.getD [])=true from ho3▸y7q _) (show oIn ([(6,358,ptO cM o3),(2,131,ptO cM o3)]++oH cM 133 33 o3) cM 133 33 o3 from xiq (y8q (l:=[6,2]) rfl Xo));rw[ho3] at hv;exact z1q (w':=.tup [shdW (i2q s l'),.fz [txW y] 99 false,.int .i64 0]) Jm rfl (.tup (.cons (.agg (.cons hv .nil)) (.cons (.pur Qb) (.cons (.pur (w:=.int .i64 0) rfl) .nil)))) Qb (.inl ⟨_,_,rfl,u9q hs.up w1,by simp[abq,acq]⟩)
   .skip
    exact gIe 14 Y (λR k0=>gC 0 Y (hch) (gF 0 Y (Ze not (eqI_iff.2 (rfl))) (gC 7 Y (htx) (gF 0 Y (Ze not (eqI_iff.2 (rfl))) (gF 9 Y (ltI_not.2 Xd) (gA 9 Y (x.nonce-nonce) (gT 0 Y (Ze not (ltI_not.2 Xd)) (zcq 20 Y (z1q (w':=.tup [.agg 1 [.nils],.nils,.int .i64 201]) Jm rfl (.pur rfl) rfl (hno 201 Xg))))))))))
 .skip
  exact gIe 14 Y (λR k0=>gC 0 Y (hch) (gF 0 Y (Ze not (eqI_iff.2 (rfl))) (gC 7 Y (zoq (w':=.int .i64 110) (qBq x hx) (by rw[Zg c1])) (gT 0 Y (Ze not (eqI_not.2 Xg)) (zcq 15 Y (z1q (w':=.tup [.agg 1 [.nils],.nils,.int .i64 110]) Jm rfl (.pur rfl) rfl (hno 110 Xg)))))))
def PlR(ps:List Shd)(i N j m:Nat):W->Prop:=λw=>(∃s' old,w= .tup [plW (ps.set i s'),old,.int .i64 0]/\GoodS N j (m+2) s'/\abq old=true)\/(∃e:Int,e≠0/\w= .tup [.nils,.nils,.int .i64 e])
theorem gVq(ps:List Shd)(i:Nat)(s:Shd)(hi:ps[i]? =some s)(F:FuncId)(cs:List W)(hcs:acq cs=true){N j m:Nat}(hF:PE cfg glK F (shdW s::cs) (Avq N j m))(hF0:cfg.ext F=none)(hl:ps.length<=1000000)(hx:∀s∈ps,s.length<=1000000000/\∀y∈s,y.txs.length<=1000000000):PE cfg glK 152 [plW ps,.int .i64 (i:Int),.fn F [] cs] (PlR ps i N j m):=by
 have e:(ps.map shdW).length=ps.length:=Zd _;have hlt:=y2q hi;have hpp:=JGq ps;have hps:acq (ps.map shdW)=true:=jzq ps;have hpf:abq (.fn F [] cs)=true:=by show(true&&acq cs)=true;rw[hcs];rfl
 have hpc:acq (shdW s::cs)=true:=by simp[acq,hcs]
 have hne:ps.map shdW≠[]:=λq=>by rw[q] at e;simp only[YD] at e;omega
 refine gIe 16 Y (λR k0=>gF 0 Y (ltI_not.2 Xd) (gZ 3 Y e (gF 0 Y (Ze not (ltI_iff.2 Xd)) (gP 11 Y (zyq (i:=i) Y Y Y Y Y Y Y (zgq shdW hi)) (zcq 1 Y ?_)))));skip
 refine gSo 0 Y (qIq Y Y hF0 Y Y hF hpc ?_);rintro w hw hq;skip
 skip
 rcases hq with ⟨s',rest,rfl,hg,hr⟩|⟨er,he,rfl⟩
 .have e2:(ps.set i s').map shdW=(ps.map shdW).set i (shdW s'):=List.map_set;have hps2:acq ((ps.map shdW).set i (shdW s'))=true:=e2▸jzq _
  refine gF 14 Y (Ze not (eqI_iff.2 (rfl))) (zcq 8 Y ?_)
  (refine zsq rfl (f1q Y Y Y Y Y Yc (pVq ps hl hx) hps ?_);rw[YDq hne,YEq hne])
  refine zhq 8 Y (gP 0 Y (qbq (i:=i) Y Y Y Y Y Y Y (by rw[e];exact hlt)) ?_)
  (refine zsq rfl (u1q (n:=(ps.map shdW).length) (e:=1) Y Y Y Y Y Y Y (zgq shdW hi) Y Y Y Y Xg ?_))
  refine zhq 12 Y ?_;refine z1q (w':=.tup [plW (ps.set i s'),rest,.int .i64 0]) Jm rfl (.tup (.cons ?_ (.cons (.pur hr) (.cons (.pur (w:=.int .i64 0) rfl) .nil)))) (by simp[abq,acq,hr]) (.inl ⟨s',rest,rfl,hg,hr⟩);show View _ _ (.fz ((ps.set i s').map shdW) 1 false);rw[e2];exact .sl (full:=false) (c:=.arr ((ps.map shdW).length*1) 1 ((ps.map shdW).set i (shdW s'))) rfl hps2 (zvq Xg (by rw[YL]) rfl) Xk
 .exact gT 14 Y (Ze not (eqI_not.2 (he))) (zcq 14 Y (z1q (w':=.tup [.nils,.nils,.int .i64 er]) Jm rfl (.pur rfl) rfl (.inr ⟨er,he,rfl⟩)))
theorem l2q{N i m:Nat}{s:Shd}(hs:GoodS N i m s)(hm:m<=100)(cap:Int)(a:Acct)(x:Tx)(hx:x.ok)(hk:atE (atq x.pub) N=i):PE cfg glK 153 [shdW s,.fel (.int .i64 cap),.fel (aW a),.fel (txW x)] (Avq N i m):=by
 refine gIe 15 Y (λR k0=>?_);skip
 refine gSo 0 Y (qIq Y Y Y Y Y (pmq hs hm cap a.nonce x hx hk) Qv ?_);rintro w hw hq;skip
 skip
 rcases hq with ⟨s',rest,rfl,hg,hr⟩|⟨er,he,rfl⟩
 .exact zcq 9 Y (z1q Jm rfl (.pur hw) hw (.inl ⟨s',rest,rfl,hg,hr⟩))
 .exact zcq 9 Y (z1q (w':=.tup [.agg 1 [.nils],.nils,.int .i64 er]) Jm rfl (.pur rfl) rfl (.inr ⟨er,he,rfl⟩))
theorem tHq(k:Dig)(n:Nat)(h:1<=n/\n<=8){G:Nat->Option W}:PS cfg G 78 [dW k,.int .i64 (n:Int)] (.tup [.int .i64 (atE k n:Nat),.int .i64 0]):=by
 obtain⟨m,rfl⟩:∃m,n=m+1:=⟨n-1,by omega⟩
 exact gXq k m Xd
theorem pWq(ps:List Shd)(hok:∀s∈ps,s.length<=1000000000/\∀l∈s,OkL l)(hsm:∀s∈ps,s.length<=1000000000/\∀y∈s,y.txs.length<=1000000000)(hp:PlM ps){m:Nat}(hg:∀(i:Nat) s,ps[i]? =some s->GoodS ps.length i m s)(hm:m<=100)(t:Tree)(nt:Nat)(t0:T)(hA:IsA t nt t0)(cap:Int)(x:Tx)(hx:x.ok):PE cfg glK 90 [plW ps,.int .i64 cap,tW t,txW x] (PlR ps (atE (atq x.pub) ps.length) ps.length (atE (atq x.pub) ps.length) m):=by
 have ep:(ps.map shdW).length=ps.length:=Zd _;have hpp:=JGq ps;have h8:=hp.1;have hlt:atE (atq x.pub) ps.length<ps.length:=Nat.mod_lt _ h8.1;obtain⟨s,hs⟩:∃s,ps[atE (atq x.pub) ps.length]? =some s:=⟨_,Za hlt⟩
 have hcs:acq [.fel (.int .i64 cap),.fel (aW (usq t0 (atq x.pub))),.fel (txW x)]=true:=by simp[acq,abq]
 have hturn:=gVq ps _ s hs 153 _ hcs (l2q (hg _ s hs) hm cap (usq t0 (atq x.pub)) x hx rfl) rfl Xd hsm;refine gIe 15 Y (λR k0=>gC 0 Y (pXq ps hok hp t nt t0 hA) (gF 6 Y (Ze not (eqI_iff.2 (rfl))) (gC 8 Y (bIq x) (gZ 8 Y ep (gC 0 Y (tHq (atq x.pub) ps.length h8) (gC 11 Y (oMq t nt t0 hA (atq x.pub)) (zcq 13 Y ?_)))))));skip
 refine jiq (λ_=>enq (fr2:=[(38,plW ps),(39,.int .i64 (atE (atq x.pub) ps.length:Nat)),(40,.fn 153 [] [.fel (.int .i64 cap),.fel (aW (usq t0 (atq x.pub))),.fel (txW x)])]) ⟨⟨_,rfl,.pur hpp⟩,⟨_,rfl,.pur rfl⟩,⟨_,rfl,.fn .nil (.cons (yYq Y Y Y) (.cons (yYq rfl (ziq _) rfl) (.cons (yYq rfl (qGq x) rfl) .nil)))⟩,trivial⟩) ?_;refine zsq rfl (qIq Y Y Y Y Y hturn Qv ?_);rintro w hw hq;skip
 skip
 rcases hq with ⟨s',rest,rfl,hg2,hr⟩|⟨er,he,rfl⟩
 .exact zhq 9 Y (z1q Jm rfl (.pur hw) hw (.inl ⟨s',rest,rfl,hg2,hr⟩))
 .exact zhq 9 Y (z1q (w':=.tup [.nils,.nils,.int .i64 er]) Jm rfl (.pur rfl) rfl (.inr ⟨er,he,rfl⟩))
theorem fTq(x:Itm)(l:List Itm)(b:Bool)(hm:TpM ⟨x::l,b⟩):PS cfg glT 157 [tpW ⟨x::l,b⟩] (.tup [tpW ⟨l,b⟩,ahq x,.int .i64 0]):=by
 have e:((x::l).map ahq).length=l.length+1:=by simp
 have hl:(x::l).length<=64:=hm.1;have hl2:l.length+1<=64:=by simpa using hl
 exact gI 13 Y (λR k0=>gC 0 Y (zoq (w':=.int .i64 0) (Z4q ⟨x::l,b⟩ (by show(x::l).length<=_;omega)) Xv) (gF 0 Y (Ze not (eqI_iff.2 (rfl))) (gZ 8 Y e (gT 0 Y (ltI_iff.2 Xd) (gC 7 Y (fSq ⟨x::l,b⟩ (by show(x::l).length<=_;omega)) (gP 7 Y (zyq (i:=0) Y Y Y Y Y Y Y Y) (gP 3 Y (YVq (ys:=l.map ahq) (l:=1) (h:=((x::l).map ahq).length) (g:=false) Y Y Y Y Y Y Y Yp (Zc _) (by rw[ZC,List.drop_one,List.tail_cons,Zm Xi]) rfl) (gQa 17 Y))))))))
theorem fUq(hm:TpM ⟨[],true⟩):PS cfg glT 157 [tpW ⟨[],true⟩] (.tup [tpW ⟨[],false⟩,ahq itG,.int .i64 0]):=by
 refine gIv 13 Y (λR k0=>?_);refine gC 0 Y (zoq (w':=.int .i64 0) (Z4q ⟨[],true⟩ Xi) Xv) ?_;refine gF 0 Y (Ze not (eqI_iff.2 (rfl))) ?_;refine gL 8 Y ?_;refine gF 0 Y (ltI_not.2 Xg) ?_;refine zcq 24 Y ?_;exact yTq Jm rfl (.tup (.cons ZCq (.cons (.pur (ydq _)) (.cons (.pur rfl) .nil))))
theorem eSq(hm:TpM ⟨[],false⟩):PS cfg glT 157 [tpW ⟨[],false⟩] (.tup [tpW ⟨[],false⟩,ahq itZ,.int .i64 6]):=by
 refine gIv 13 Y (λR k0=>?_);refine gC 0 Y (zoq (w':=.int .i64 0) (Z4q ⟨[],false⟩ Xi) Xv) ?_;refine gF 0 Y (Ze not (eqI_iff.2 (rfl))) ?_;refine gL 8 Y ?_;refine gF 0 Y (ltI_not.2 Xg) ?_;refine zcq 25 Y ?_;exact yTq Jm rfl (.tup (.cons ZCq (.cons JWq (.cons (.pur rfl) .nil))))
theorem o8q(t:Tp)(hm:TpM t):∃(t':Tp) (x:Itm) (e:Int),TpM t'/\PS cfg glT 157 [tpW t] (.tup [tpW t',ahq x,.int .i64 e]):=by
 obtain⟨l,b⟩:=t;cases l with
 |cons x l=>exact⟨⟨l,b⟩,x,0,fXq hm,fTq x l b hm⟩
 |nil=>
  cases b with
  |true=>exact⟨_,_,_,coq _,fUq hm⟩
  |false=>exact⟨_,_,_,coq _,eSq hm⟩
section
variable {G:Nat->Option W}
noncomputable def hbO(n:Int)(b:Nat)(o:Option (List W)):W:=.agg 2 [.int .i64 n,oW b 4 o]
theorem xQq(τ:Nat->Nat)(n:Int)(b:Nat)(o:Option (List W)):adq τ (hbO n b o)=hbO n (τ b) o:=by
 show W.agg 2 [.int .i64 n,adq τ (oW b 4 o)]=_;rw[lOq];rfl
theorem cWq{m b:Nat}{n:Int}{o:Option (List W)}(h:b<m):agq m (hbO n b o)=true:=by
 show(true&&(agq m (oW b 4 o)&&true))=true;rw[pCq h];rfl
theorem bGq{n:Int}{b:Nat}{o:Option (List W)}:zYq 50 (hbO n b o) 1 1 false=some (oW b 4 o):=by cases o<;>rfl
theorem Bbq{n:Int}{b c:Nat}{o o2:Option (List W)}:yoq 50 (hbO n b o) 1 (oW c 4 o2)=some (hbO n c o2):=by cases o<;>cases o2<;>rfl
theorem rsq{n:Int}{b:Nat}{o:Option (List W)}:yoq 50 (.agg 2 [.int .i64 0,.nils]) 0 (hbO n b o)=some (hbO n b o):=by cases o<;>rfl
theorem cVq(h:Hb)(hl:h.subs.length<=1000000000)(hx:∀s∈h.subs,s.tap.items.length<=1000000000):yxq cfg G 85 0 [hbW h] [] λw hp nw=>(∃o:Option (List W),o.getD []=h.subs.map sbW/\w=hbO h.next 2 o/\hp=(1,41,hbO h.next 2 o)::oH 2 175 4 o)/\nw=3:=by
 obtain⟨n,l⟩:=h;simp only at hl hx;have hpp:=jlq l;have hps:=xHq l;have e:(l.map sbW).length=l.length:=Zd _;intro R;refine gIs 10 Y (λk0=>?_);skip
 refine gSo 0 Y (yMq Y Y Y Y Y Yc (nZq l false hl) ?_);rintro w hp1 nw1 (⟨rfl,rfl,rfl,rfl⟩|⟨rfl,rfl,rfl⟩)
 .skip
  skip
  refine gL 9 Y ?_;refine gLo (α:=Nat) 4 (λi=>i=0) (λi=>[(11,.int .i64 (i:Int))]) [1,2,10] (λi=>0) (0) rfl (rfl) (λi hI=>?_);subst hI;exact gO 9 Y (zcq 9 Y (fin Jm (owq (b:=2) (k:=0) (fr2:=[(2,.ptr 1 0)]) (hp2:=[(1,41,hbO n 2 none)]) Xg (Zc _) Xg (by show 0<2;decide) Xi ⟨⟨rfl,rfl⟩,trivial⟩ ⟨⟨by decide,rfl,rfl⟩,trivial⟩ Xi) rfl ⟨rfl,⟨none,rfl,rfl,rfl⟩,rfl⟩))
 .rw[z3q hpp];refine gL 9 Y ?_;refine gLo (α:=Nat) 4 (λi=>i<=l.length) (λi=>[(11,.int .i64 (i:Int))]) [1,2,10] (λi=>l.length-i) (0) rfl (Zi _) (λi hI=>?_);refine gS 6 Y (λh1=>?_) (λh1=>?_)
  .have hi:i<l.length:=by omega
   obtain⟨x,hxi⟩:∃x,l[i]? =some x:=⟨_,Za hi⟩
   exact gP 17 Y (qbq (i:=i) Y Y Y Y Y Y Y hi) (gM 1 Y (z7q Y Y Y (cBq hxi)) (gC 0 Y (fSq x.tap (hx x (Zf hxi))) (gP 0 Y (qbq (i:=i) Y Y Y Y Y Y Y hi) (gM 1 Y (Jpq Y Y Y Y Y (gqq hxi)) (gA 4 Y (i+1) (gAg 2 Y (i+1) (hi) Xd))))))
  .exact gO 2 Y (zcq 9 Y (fin Jm (zDq (nw2:=3) (fr2:=[(2,.ptr 1 0)]) (hp2:=[(1,41,hbO n 2 (some (l.map sbW))),(2,175,.arr ((l.map sbW).length*4) 4 (l.map sbW))]) Xg Xg ⟨rfl,trivial⟩ rfl (ztq ⟨⟨by decide,by show some (_,W.agg 2 [_,W.sl 2 0 0 l.length 4 none])=some (_,W.agg 2 [_,W.sl 2 0 0 (l.map sbW).length 4 none]);rw[e],rfl⟩,⟨by decide,by rw[e];rfl,zaq (show abq (.arr _ 4 (l.map sbW))=true from hps)⟩,trivial⟩) Xi) rfl ⟨rfl,⟨some (l.map sbW),rfl,rfl,rfl⟩,rfl⟩))
end
def JoR(h:Hb)(beg:Int):W->Prop:=λw=>(∃id:Int,w= .tup [hbW (JUq h beg),.int .i64 id,.int .i64 0]/\HbM (JUq h beg))\/(∃e:Int,e≠0/\w= .tup [.agg 2 [.int .i64 0,.nils],.int .i64 0,.int .i64 e])
noncomputable def hb0:W:=.agg 2 [.int .i64 0,.nils]
theorem BTq{b n o:Nat}(h:b<n):agq n (.ptr b o)=true:=by simp[agq,h]
theorem mMq(h:Hb)(hM:HbM h)(hx:∀s∈h.subs,s.tap.items.length<=1000000000)(most beg:Int)(h1:1<=most)(h2:most<=16):PE cfg glT 91 [hbW h,.int .i64 most,.int .i64 beg] (JoR h beg):=by
 have e:(h.subs.map sbW).length=h.subs.length:=Zd _;have hl:=hM.1.2;have hn:=hM.1.1;have hch:=zoq (w':=.int .i64 0) (JZq h Xd (λs hs=>by have:=hx s hs;omega)) (by rw[Zt hM]);have hno:∀e:Int,e≠0->JoR h beg (.tup [hb0,.int .i64 0,.int .i64 e]):=λe he=>.inr ⟨e,he,rfl⟩
 by_cases c1:0<=beg/\beg<1073741824
 .by_cases c2:(h.subs.length:Int)<most
  .by_cases c3:0<=h.next+1/\h.next+1<1073741824
   .skip
    refine gIe 13 Y (λR k0=>?_);refine gC 0 Y (hch) ?_;refine gF 0 Y (Ze not (eqI_iff.2 (rfl))) ?_;refine gF 7 Y (ltI_not.2 Xd) ?_;refine gF 2 Y (ltI_not.2 Xd) ?_;refine gC 3 Y (zoq (w':=.bool true) (xzq beg) (by rw[Zn (c1)])) ?_;refine gZ 10 Y e ?_;refine gF 1 Y (Ze not (ltI_iff.2 Xd)) ?_;refine gWr 3 Y ?_;refine gC 0 Y (zoq (w':=.bool true) (xzq (h.next+1)) (by rw[Zn (c3)])) ?_;refine zcq 12 Y ?_
    (refine zsq rfl (y0q (yMq Y Y Y Y Y Yc (cVq h Xd hx) ?_));rintro w hp1 nw1 ⟨⟨o,ho,rfl,rfl⟩,rfl⟩;have hpb:acq (o.getD [])=true:=(by rw[ho];exact xHq _);rw[xQq,show alq (afq [] 2) ((1,41,hbO h.next 2 o)::oH 2 175 4 o)=[(3,41,hbO h.next 4 o)]++oH 4 175 4 o from Jl,show afq [] 2 2=4 from rfl];refine⟨_,krq (n:=2) (xNq (l:=[1,0]) rfl Xg) Xi (λp hp=>by rw[qWq p hp];simp),kCq (y8q (l:=[1,0]) rfl Xg) (show [1,0].Nodup by decide),?_⟩)
    refine jbq rfl (qrq Y Y Y Y Y rsq rfl) ?_;refine zhq 5 Y ?_;refine gM 0 Y (z7q Y Y Y bGq) ?_;refine zcq 5 Y ?_
    (refine jiq (λ_=>jXq (b:=5) (w':=sbW ⟨h.next,beg,⟨[],false⟩⟩) rfl (.agg (.cons (.pur rfl) (.cons (.pur rfl) (.cons ZCq .nil))))) ?_;have hlo:(o.getD []).length<=16:=(by rw[ho,e];exact hl);refine zsq rfl (f6q (b:=4) (news:=[sbW ⟨h.next,beg,⟨[],false⟩⟩]) (k:=paq) (e:=4) Y Y Y Y Y Y Y Y (umq Y Y Y Y) (by show((o.getD []).length+1)*48<=_;omega) (by show(o.getD []).length+1<=_;omega) (z2q Xg (z2q Xg (z2q Xg kqq))) Xg ?_);intro c hp3 nw3 q)
    (obtain rfl:c=6:=(by rcases q.num with ⟨h,_⟩|⟨_,h⟩;cases h;exact h);have hq:=q.lt;have hpl:acq ((oA o [sbW ⟨h.next,beg,⟨[],false⟩⟩]).getD [])=true:=(by rw[n8q,jBq,hpb];simp[acq]);refine jiq (λ_=>zDq (nw2:=nw3) (fr2:=[(3,.ptr 0 0),(6,.ptr 1 0),(50,oW 6 4 (oA o [sbW ⟨h.next,beg,⟨[],false⟩⟩]))]) (hp2:=(1,41,hbO h.next 4 o)::(0,41,hbW h)::oH 6 175 4 (oA o [sbW ⟨h.next,beg,⟨[],false⟩⟩])) (Zi _) (Zc _) ⟨rfl,rfl,rfl,trivial⟩ (jTq ⟨BTq Xd,BTq Xd,pCq hq,trivial⟩) (ztq ⟨⟨by omega,q.old 1 _ Xg Xg rfl,cWq Xd⟩,⟨by omega,q.old 0 _ Xg Xg rfl,zaq (kcq h)⟩,nUq hq hpl q.is⟩) (kCq (P:=[(1,41,hbO h.next 4 o),(0,41,hbW h)]) (y8q (l:=[1,0]) rfl Xg) (show [1,0].Nodup by decide))) ?_;refine yyq Y Y ?_)
    refine jbq rfl (qrq Y Y Y Y Y Bbq rfl) ?_;refine zhq 6 Y ?_;refine gWr 0 Y ?_;refine zcq 15 Y ?_;have hv:=aXq (e:=4) Xg hpl (show oIn ([(1,41,hbO (h.next+1) 6 (oA o [sbW ⟨h.next,beg,⟨[],false⟩⟩])),(0,41,hbW h)]++oH 6 175 4 (oA o [sbW ⟨h.next,beg,⟨[],false⟩⟩])) 6 175 4 (oA o [sbW ⟨h.next,beg,⟨[],false⟩⟩]) from xiq (y8q (l:=[1,0]) rfl Xg));rw[n8q,ho,show h.subs.map sbW++[sbW ⟨h.next,beg,⟨[],false⟩⟩]=(JUq h beg).subs.map sbW from by rw[JUq,Z5];rfl] at hv;exact z1q (w':=.tup [hbW (JUq h beg),.int .i64 h.next,.int .i64 0]) Jm rfl (.tup (.cons (.agg (.cons (.pur rfl) (.cons hv .nil))) (.cons (.pur rfl) (.cons (.pur rfl) .nil)))) Qb (.inl ⟨h.next,rfl,huq hM c1 c3 Xd⟩)
   .skip
    refine gIe 13 Y (λR k0=>?_);refine gC 0 Y (hch) ?_;refine gF 0 Y (Ze not (eqI_iff.2 (rfl))) ?_;refine gF 7 Y (ltI_not.2 Xd) ?_;refine gF 2 Y (ltI_not.2 Xd) ?_;refine gC 3 Y (zoq (w':=.bool true) (xzq beg) (by rw[Zn (c1)])) ?_;refine gZ 10 Y e ?_;refine gF 1 Y (Ze not (ltI_iff.2 Xd)) ?_;refine gWr 3 Y ?_;refine gC 0 Y (zoq (w':=.bool false) (xzq (h.next+1)) (by rw[Zo (c3)])) ?_;refine zcq 17 Y ?_;exact z1q (w':=.tup [hb0,.int .i64 0,.int .i64 9]) Jm rfl (.pur rfl) rfl (hno 9 Xg)
  .skip
   refine gIe 13 Y (λR k0=>?_);refine gC 0 Y (hch) ?_;refine gF 0 Y (Ze not (eqI_iff.2 (rfl))) ?_;refine gF 7 Y (ltI_not.2 Xd) ?_;refine gF 2 Y (ltI_not.2 Xd) ?_;refine gC 3 Y (zoq (w':=.bool true) (xzq beg) (by rw[Zn (c1)])) ?_;refine gZ 10 Y e ?_;refine gT 1 Y (Ze not (ltI_not.2 Xd)) ?_;refine zcq 22 Y ?_;exact z1q (w':=.tup [hb0,.int .i64 0,.int .i64 9]) Jm rfl (.pur rfl) rfl (hno 9 Xg)
 .skip
  refine gIe 13 Y (λR k0=>?_);refine gC 0 Y (hch) ?_;refine gF 0 Y (Ze not (eqI_iff.2 (rfl))) ?_;refine gF 7 Y (ltI_not.2 Xd) ?_;refine gF 2 Y (ltI_not.2 Xd) ?_;refine gC 3 Y (zoq (w':=.bool false) (xzq beg) (by rw[Zo (c1)])) ?_;refine zcq 17 Y ?_;exact z1q (w':=.tup [hb0,.int .i64 0,.int .i64 2]) Jm rfl (.pur rfl) rfl (hno 2 Xg)
def HbR:W->Int->Prop:=λw e=>(e=0/\∃h,w=hbW h/\HbM h)\/(e≠0/\w=hb0)
theorem HbR.pur{w:W}{e:Int}(h:HbR w e):abq w=true:=by
 rcases h with ⟨_,h,rfl,_⟩|⟨_,rfl⟩
 .exact kcq h
 .rfl
theorem wBq{G:Nat->Option W}:cfg.known 159=some (dfq 175 4):=by kernel_rfl
theorem mtq{G:Nat->Option W}(n:Int)(L:List W)(hp:acq L=true)(i:Nat)(hi:i<L.length)(hb:L.length<=1000):yxq cfg G 158 2 [.ptr 0 0,.int .i64 (i:Int)] [(0,41,hbO n 1 (some L)),(1,175,.arr (L.length*4) 4 L)] λw hp nw=>w= .int .i64 0/\hp=[(0,41,hbO n 2 (some (L.take i++L.drop (i+1)))),(2,175,.arr ((L.take i++L.drop (i+1)).length*4) 4 (L.take i++L.drop (i+1)))]/\nw=3:=by
 intro R;refine gIs 14 Y (λk0=>?_);refine gA 0 Y (i+1) ?_
 (refine zsq rfl (a6q (L:=L) (i:=i) (b:=1) (wBq (G:=G)) Y Y Y Y Y Y hp Xg hi Xd [(0,41,hbO n 1 (some L))] (λc u hc=>by rw[zeq] at hc;split at hc;(rename_i q;subst q;cases hc;exact⟨by decide,rfl⟩);simp[hget] at hc) Xi Xi ?_);rintro _ rfl)
 refine zhq 2 Y (gM 0 Y (qrq Y Y Y Y Y (show _=some (hbO n 2 (some (L.take i++L.drop (i+1)))) from rfl) rfl) (zcq 8 Y ?_));have hpl:abq (.arr ((L.take i++L.drop (i+1)).length*4) 4 (L.take i++L.drop (i+1)))=true:=Kcq hp;exact fin Jm (zDq (nw2:=3) (fr2:=[(4,.int .i64 0)]) (hp2:=[(0,41,hbO n 2 (some (L.take i++L.drop (i+1)))),(2,175,.arr ((L.take i++L.drop (i+1)).length*4) 4 (L.take i++L.drop (i+1)))]) Xg Xg ⟨rfl,trivial⟩ rfl (ztq ⟨⟨by decide,rfl,cWq Xg⟩,⟨by decide,rfl,zaq hpl⟩,trivial⟩) Xi) rfl ⟨rfl,rfl,rfl,rfl⟩
theorem pqq{l:List Sb}{i:Nat}{x:Sb}(h:l[i]? =some x)(t:Tp):yoq 50 (sbA l) (0+i*4+2) (tpW t)=some (sbA (l.set i ⟨x.id,x.beg,t⟩)):=by
 have hx:=zgq sbW h;rw[sbA,QFq (x':=sbW ⟨x.id,x.beg,t⟩) hx Xd Xd grq rfl,sbA,List.map_set,YL]
noncomputable def hsW(n:Int)(b:Nat)(l:List Sb):W:=.agg 2 [.int .i64 n,.sl b 0 0 l.length 4 none]
theorem pTq(n:Int)(l:List Sb)(i:Nat)(x:Sb)(hi:l[i]? =some x)(x0 x1:Itm)(t':Tp)(e:Int)(hp:PS cfg glT 157 [tpW x.tap] (.tup [tpW t',ahq x1,.int .i64 e])):yxq cfg glT 156 3 [.ptr 0 0,.int .i64 (i:Int),.ptr 2 0] [(0,41,hsW n 1 l),(1,175,sbA l),(2,61,ahq x0)] λw hp nw=>w= .int .i64 e/\hp=[(0,41,hsW n 1 (l.set i ⟨x.id,x.beg,t'⟩)),(1,175,sbA (l.set i ⟨x.id,x.beg,t'⟩)),(2,61,ahq x1)]/\nw=3:=by
 have hlt:=y2q hi;have hpt:abq (.tup [tpW t',ahq x1,.int .i64 e])=true:=by simp[abq,acq]
 intro R;refine gIs 17 Y (λk0=>?_);exact gP 0 Y (qbq (i:=i) Y Y Y Y Y Y Y hlt) (gM 1 Y (z7q Y Y Y (cBq hi)) (gC 0 Y (hp) (gP 4 Y (qbq (i:=i) Y Y Y Y Y Y Y hlt) (gM 1 Y (qrq Y Y Y Y Y (pqq hi t') rfl) (zcq 11 Y (fin Jm (zDq (nw2:=3) (fr2:=[(5,.int .i64 e)]) (hp2:=[(0,41,hsW n 1 (l.set i ⟨x.id,x.beg,t'⟩)),(1,175,sbA (l.set i ⟨x.id,x.beg,t'⟩)),(2,61,ahq x1)]) Xg Xg ⟨rfl,trivial⟩ rfl (ztq ⟨⟨by decide,by unfold hsW;rw[YL];rfl,rfl⟩,⟨by decide,rfl,zaq (jlq _)⟩,⟨by decide,rfl,zaq (ydq _)⟩,trivial⟩) Xi) rfl ⟨rfl,rfl,rfl,rfl⟩))))))
theorem gpq{h:Hb}{o:Option (List W)}(ho:o.getD []=h.subs.map sbW):(o.getD []).length=h.subs.length:=by rw[ho];exact Zd _
theorem iFq{L:List W}{i:Nat}{s:Sb}(h:L[i]? =some (sbW s)):zYq 50 (.arr (L.length*4) 4 L) (0+i*4+0) 1 false=some (.int .i64 s.id):=xRq h Xd Xd Xi rfl
section
variable (h:Hb) (hM:HbM h) (hx:∀s∈h.subs,s.tap.items.length<=1000000000) (id:Int)
include hM hx
theorem o6q:PE cfg glT 155 [hbW h,.int .i64 id,.fn 158 [] []] (λw=>∃hw e,w= .tup [hw,.int .i64 e]/\HbR hw e):=by
 have e:(h.subs.map sbW).length=h.subs.length:=Zd _;have hl:=hM.1.2;have hch:=zoq (w':=.int .i64 0) (JZq h Xd (λs hs=>by have:=hx s hs;omega)) (by rw[Zt hM]);refine gIe 7 Y (λR k0=>ZXq 3 (zEq 4 Y (gC 0 Y (hch) (gF 6 Y (Ze not (eqI_iff.2 (rfl))) (zcq 8 Y ?_)))))
 (refine zsq rfl (y0q (yMq Y Y Y Y Y Yc (cVq h Xd hx) ?_));rintro w hp1 nw1 ⟨⟨o,ho,rfl,rfl⟩,rfl⟩;have hpb:acq (o.getD [])=true:=(by rw[ho];exact xHq _);rw[xQq,show alq (afq [] 2) ((1,41,hbO h.next 2 o)::oH 2 175 4 o)=[(3,41,hbO h.next 4 o)]++oH 4 175 4 o from Jl,show afq [] 2 2=4 from rfl];refine⟨_,krq (n:=2) (xNq (l:=[1,0]) rfl Xg) Xi (λp hp=>by rw[qWq p hp];simp),kCq (y8q (l:=[1,0]) rfl Xg) (show [1,0].Nodup by decide),?_⟩;have hol:=gpq ho)
 refine jbq Y Y (jbq rfl (qrq Y Y Y Y Y rsq rfl) ?_);refine zhq 10 Y (gM 0 Y (z7q Y Y Y bGq) ?_);refine gP 0 Y ((show _=some (W.int .i64 (((o.getD []).length:Nat):Int)) from by cases o<;>rfl)) ?_;refine gLo (α:=Nat) 4 (λi=>i<=(o.getD []).length) (λi=>[(24,.int .i64 (i:Int))]) [1,2,6,7,9,10,23] (λi=>(o.getD []).length-i) (0) rfl (Zi _) (λi hI=>?_);refine gS 6 Y (λh1=>?_) (λh1=>?_)
 .have hi:i<(o.getD []).length:=by omega
  obtain⟨L,rfl⟩:∃L,o=some L:=by
   cases o with
   |none=>exact absurd hi Xi
   |some L=>exact⟨L,rfl⟩
  have ho:L=h.subs.map sbW:=ho;have hi:i<L.length:=hi;obtain⟨s,hs⟩:∃s,h.subs[i]? =some s:=⟨_,Za (by rw[ho,e] at hi;exact hi)⟩
  have hLs:L[i]? =some (sbW s):=by rw[ho];exact zgq sbW hs
  have hpl:acq L=true:=hpb;skip
  by_cases hid:s.id=id
  .refine gM 13 Y (z7q Y Y Y bGq) (gP 1 Y (qbq (i:=i) Y Y Y Y Y Y Y hi) (gM 1 Y (z7q Y Y Y (iFq hLs)) (gT 1 Y (eqI_iff.2 (hid)) (gO 12 Y (gF 6 Y (ltI_not.2 Xd) (zcq 10 Y ?_))))))
   (refine zsq rfl (zGq (ext:=[5,4]) (ws:=[.ptr 0 0,.int .i64 (i:Int)]) (hp0:=[(0,41,hbO h.next 1 (some L)),(1,175,.arr (L.length*4) 4 L)]) Y Y Y Y Y (mtq h.next L hpl i hi (by rw[ho,e];omega)) Xg Xl Xi (jmq ⟨⟨by decide,cWq Xg,5,rfl,by rw[xQq];rfl⟩,⟨by decide,zaq (show abq (.arr _ 4 L)=true from hpl),4,rfl,by rw[zfq (show abq (.arr _ 4 L)=true from hpl)];rfl⟩,trivial⟩) Y ?_);rintro w hp1 nw1 ⟨rfl,rfl,rfl⟩;have hd2:abq (.arr ((L.take i++L.drop (i+1)).length*4) 4 (L.take i++L.drop (i+1)))=true:=Kcq hpl;rw[show alq (afq [5,4] 6) [(0,41,hbO h.next 2 (some (L.take i++L.drop (i+1)))),(2,175,.arr ((L.take i++L.drop (i+1)).length*4) 4 (L.take i++L.drop (i+1)))]=[(5,41,hbO h.next 6 (some (L.take i++L.drop (i+1)))),(6,175,.arr ((L.take i++L.drop (i+1)).length*4) 4 (L.take i++L.drop (i+1)))] from(by rw[alq,alq,xQq,zfq hd2];rfl)])
   refine zhq 6 Y (gF 0 Y (Ze not (eqI_iff.2 (rfl))) (zcq 13 Y (xdq Yq ?_)));refine z1q (w':=.tup [hbW (d5q h i),.int .i64 0]) Jm rfl (.tup (.cons (.agg (.cons (.pur rfl) (.cons ?_ .nil))) (.cons (.pur (w:=.int .i64 0) rfl) .nil))) Qb ⟨_,_,rfl,.inl ⟨rfl,_,rfl,faq hM⟩⟩;rw[show(d5q h i).subs.map sbW=L.take i++L.drop (i+1) from by rw[d5q,Z5,List.map_take,List.map_drop,ho]];exact .sl (full:=false) (c:=.arr ((L.take i++L.drop (i+1)).length*4) 4 (L.take i++L.drop (i+1))) rfl hd2 (zvq Xg Y Y) Xk
  .exact gM 13 Y (z7q Y Y Y bGq) (gP 1 Y (qbq (i:=i) Y Y Y Y Y Y Y hi) (gM 1 Y (z7q Y Y Y (iFq hLs)) (gF 1 Y (eqI_not.2 (hid)) (gA 7 Y (i+1) (gAg 2 Y (i+1) (hi) Xd)))))
 .exact gO 2 Y (gT 6 Y (ltI_iff.2 Xg) (zcq 12 Y (xdq Yq (z1q (w':=.tup [hb0,.int .i64 2]) Jm rfl (.pur rfl) rfl ⟨_,_,rfl,.inr ⟨by decide,rfl⟩⟩))))
theorem mHq:PE cfg glT 94 [hbW h,.int .i64 id] (λw=>∃hw e,w= .tup [hw,.int .i64 e]/\HbR hw e):=by
 have hH:=o6q h hM hx id;refine gIe 11 Y (λR k0=>?_);skip
 refine gSo 0 Y (qIq Y Y Y Y Y hH Qv ?_);rintro w hw ⟨hw',e',rfl,hr⟩;skip
 have hs:∃a b,hw'= .agg 2 [a,b]:=by
  rcases hr with ⟨_,h,rfl,_⟩|⟨_,rfl⟩
  .exact⟨_,_,rfl⟩
  .exact⟨_,_,rfl⟩
 obtain⟨a,b,rfl⟩:=hs;exact zcq 7 Y (z1q Jm rfl (.pur hw) hw ⟨_,_,rfl,hr⟩)
end
theorem HbR.agg{w:W}{e:Int}(h:HbR w e):∃a b,w= .agg 2 [a,b]:=by
 rcases h with ⟨_,h,rfl,_⟩|⟨_,rfl⟩
 .exact⟨_,_,rfl⟩
 .exact⟨_,_,rfl⟩
section
variable (h:Hb) (hM:HbM h) (hx:∀s∈h.subs,s.tap.items.length<=1000000000) (id:Int)
include hM hx
theorem o5q(x0:Itm):yxq cfg glT 155 1 [hbW h,.int .i64 id,.fn 156 [] [.ptr 0 0]] [(0,61,ahq x0)] (λw hp nw=>(∃hw x e,w= .tup [hw,.int .i64 e]/\HbR hw e/\hp=[(2,41,hw),(0,61,ahq x)])/\nw=3):=by
 have e:(h.subs.map sbW).length=h.subs.length:=Zd _;have hl:=hM.1.2;have hch:=zoq (w':=.int .i64 0) (JZq h Xd (λs hs=>by have:=hx s hs;omega)) (by rw[Zt hM]);intro R;refine gIs 7 Y (λk0=>?_);refine ZXq 3 (zEq 4 Y (gC 0 Y (hch) (gF 6 Y (Ze not (eqI_iff.2 (rfl))) (zcq 8 Y ?_))))
 (refine zsq rfl (y0q (yMq Y Y Y Y Y Yc (cVq h Xd hx) ?_));rintro w hp1 nw1 ⟨⟨o,ho,rfl,rfl⟩,rfl⟩;have hpb:acq (o.getD [])=true:=(by rw[ho];exact xHq _);rw[xQq,show alq (afq [] 3) ((1,41,hbO h.next 2 o)::oH 2 175 4 o)=[(4,41,hbO h.next 5 o)]++oH 5 175 4 o from Jl,show afq [] 3 2=5 from rfl];refine⟨_,krq (n:=3) (xNq (l:=[2,1,0]) rfl Xg) Xi (λp hp=>by rw[qWq p hp];simp),kCq (y8q (l:=[2,1,0]) rfl Xg) (show [2,1,0].Nodup by decide),?_⟩;have hol:=gpq ho)
 refine jbq Y Y (jbq rfl (qrq Y Y Y Y Y rsq rfl) ?_);refine zhq 10 Y (gM 0 Y (z7q Y Y Y bGq) ?_);refine gP 0 Y ((show _=some (W.int .i64 (((o.getD []).length:Nat):Int)) from by cases o<;>rfl)) ?_;refine gLo (α:=Nat) 4 (λi=>i<=(o.getD []).length) (λi=>[(24,.int .i64 (i:Int))]) [1,2,6,7,9,10,23] (λi=>(o.getD []).length-i) (0) rfl (Zi _) (λi hI=>?_);refine gS 6 Y (λh1=>?_) (λh1=>?_)
 .have hi:i<(o.getD []).length:=by omega
  obtain rfl:o=some (h.subs.map sbW):=by
   cases o with
   |none=>exact absurd hi Xi
   |some L=>exact Ze some ho
  have hi:i<(h.subs.map sbW).length:=hi;obtain⟨s,hs⟩:∃s,h.subs[i]? =some s:=⟨_,Za (by rw[e] at hi;exact hi)⟩
  have hLs:=zgq sbW hs;skip
  by_cases hid:s.id=id
  .obtain⟨t',x1,er,ht,hpo⟩:=o8q s.tap (hM.p.each s (Zf hs)).2.2;have hp1:=pTq h.next h.subs i s hs x0 x1 t' er hpo;by_cases he:er=0
   .subst he;refine gM 13 Y (z7q Y Y Y bGq) (gP 1 Y (qbq (i:=i) Y Y Y Y Y Y Y hi) (gM 1 Y (z7q Y Y Y (iFq hLs)) (gT 1 Y (eqI_iff.2 (hid)) (gO 12 Y (gF 6 Y (ltI_not.2 Xd) (zcq 10 Y ?_))))))
    (refine zsq rfl (zGq (ext:=[6,5,0]) (ws:=[.ptr 0 0,.int .i64 (i:Int),.ptr 2 0]) (hp0:=[(0,41,hsW h.next 1 h.subs),(1,175,sbA h.subs),(2,61,ahq x0)]) Y Y Y Y Y hp1 Xg Xl Xi (jmq ⟨⟨by decide,rfl,6,rfl,by show some (_,W.agg 2 [_,W.sl 5 0 0 (h.subs.map sbW).length 4 none])=some (_,W.agg 2 [_,W.sl 5 0 0 h.subs.length 4 none]);rw[e];rfl⟩,⟨by decide,zaq (jlq _),5,rfl,by rw[zfq (jlq _),sbA,<-e];rfl⟩,⟨by decide,zaq (ydq _),0,rfl,by rw[zfq (ydq _)];rfl⟩,trivial⟩) Y ?_);rintro w hp1 nw1 ⟨rfl,rfl,rfl⟩;rw[show alq (afq [6,5,0] 7) [(0,41,hsW h.next 1 (h.subs.set i ⟨s.id,s.beg,t'⟩)),(1,175,sbA (h.subs.set i ⟨s.id,s.beg,t'⟩)),(2,61,ahq x1)]=[(6,41,hsW h.next 5 (h.subs.set i ⟨s.id,s.beg,t'⟩)),(5,175,sbA (h.subs.set i ⟨s.id,s.beg,t'⟩)),(0,61,ahq x1)] from(by rw[alq,kNq (jlq _) (ydq _)];rfl)])
    exact zhq 6 Y (gF 0 Y (Ze not (eqI_iff.2 (rfl))) (zcq 13 Y (xdq Yq (fin Jm ((J9q 5 [(6,.ptr 2 0),(7,.int .i64 0)] [(2,41,hbW (pSq h i s t')),(0,61,ahq x1)] rfl (jlq (h.subs.set i ⟨s.id,s.beg,t'⟩)) Xg ⟨⟨_,rfl,.ptrK rfl⟩,⟨_,rfl,.pur rfl⟩,trivial⟩ ⟨⟨by decide,_,rfl,.agg (.cons (.pur rfl) (.cons (.sl (full:=false) (c:=sbA (h.subs.set i ⟨s.id,s.beg,t'⟩)) rfl (jlq _) (zvq Xg Xi rfl) Xk) .nil))⟩,⟨by decide,_,rfl,.pur (ydq x1)⟩,trivial⟩ Xi).trans (zDq (nw2:=3) (fr2:=[(6,.ptr 2 0),(7,.int .i64 0)]) (hp2:=[(2,41,hbW (pSq h i s t')),(0,61,ahq x1)]) Xg Xg ⟨rfl,rfl,trivial⟩ rfl (ztq ⟨⟨by decide,rfl,zaq (kcq _)⟩,⟨by decide,rfl,zaq (ydq _)⟩,trivial⟩) Xi)) rfl ⟨rfl,⟨_,_,_,rfl,.inl ⟨rfl,_,rfl,gUq hM hs ht⟩,rfl⟩,rfl⟩))))
   .refine gM 13 Y (z7q Y Y Y bGq) (gP 1 Y (qbq (i:=i) Y Y Y Y Y Y Y hi) (gM 1 Y (z7q Y Y Y (iFq hLs)) (gT 1 Y (eqI_iff.2 (hid)) (gO 12 Y (gF 6 Y (ltI_not.2 Xd) (zcq 10 Y ?_))))))
    (refine zsq rfl (zGq (ext:=[6,5,0]) (ws:=[.ptr 0 0,.int .i64 (i:Int),.ptr 2 0]) (hp0:=[(0,41,hsW h.next 1 h.subs),(1,175,sbA h.subs),(2,61,ahq x0)]) Y Y Y Y Y hp1 Xg Xl Xi (jmq ⟨⟨by decide,rfl,6,rfl,by show some (_,W.agg 2 [_,W.sl 5 0 0 (h.subs.map sbW).length 4 none])=some (_,W.agg 2 [_,W.sl 5 0 0 h.subs.length 4 none]);rw[e];rfl⟩,⟨by decide,zaq (jlq _),5,rfl,by rw[zfq (jlq _),sbA,<-e];rfl⟩,⟨by decide,zaq (ydq _),0,rfl,by rw[zfq (ydq _)];rfl⟩,trivial⟩) Y ?_);rintro w hp1 nw1 ⟨rfl,rfl,rfl⟩;rw[show alq (afq [6,5,0] 7) [(0,41,hsW h.next 1 (h.subs.set i ⟨s.id,s.beg,t'⟩)),(1,175,sbA (h.subs.set i ⟨s.id,s.beg,t'⟩)),(2,61,ahq x1)]=[(6,41,hsW h.next 5 (h.subs.set i ⟨s.id,s.beg,t'⟩)),(5,175,sbA (h.subs.set i ⟨s.id,s.beg,t'⟩)),(0,61,ahq x1)] from(by rw[alq,kNq (jlq _) (ydq _)];rfl)])
    exact zhq 6 Y (gT 0 Y (Ze not (eqI_not.2 (he))) (zcq 13 Y (xdq Yq (fin Jm (zDq (nw2:=3) (fr2:=[(6,.ptr 2 0),(7,.int .i64 er)]) (hp2:=[(2,41,hb0),(0,61,ahq x1)]) Xg Xg ⟨rfl,rfl,trivial⟩ rfl (ztq ⟨⟨by decide,rfl,rfl⟩,⟨by decide,rfl,zaq (ydq _)⟩,trivial⟩) Xi) rfl ⟨rfl,⟨_,_,_,rfl,.inr ⟨he,rfl⟩,rfl⟩,rfl⟩))))
  .exact gM 13 Y (z7q Y Y Y bGq) (gP 1 Y (qbq (i:=i) Y Y Y Y Y Y Y hi) (gM 1 Y (z7q Y Y Y (iFq hLs)) (gF 1 Y (eqI_not.2 (hid)) (gA 7 Y (i+1) (gAg 2 Y (i+1) (hi) Xd)))))
 .exact gO 2 Y (gT 6 Y (ltI_iff.2 Xg) (zcq 12 Y (xdq Yq (fin Jm (zDq (nw2:=3) (fr2:=[(6,.ptr 2 0),(7,.int .i64 2)]) (hp2:=[(2,41,hb0),(0,61,ahq x0)]) Xg Xg ⟨rfl,rfl,trivial⟩ rfl (ztq ⟨⟨by decide,rfl,rfl⟩,⟨by decide,rfl,zaq (ydq _)⟩,trivial⟩) Xi) rfl ⟨rfl,⟨_,_,_,rfl,.inr ⟨by decide,rfl⟩,rfl⟩,rfl⟩))))
theorem roq:PE cfg glT 93 [hbW h,.int .i64 id] (λw=>∃hw x e,w= .tup [hw,ahq x,.int .i64 e]/\HbR hw e):=by
 have hT:=o5q h hM hx id itZ;refine gIe 10 Y (λR k0=>?_)
 (refine jiq (λ_=>jXq (b:=2) (w':=ahq itZ) rfl JWq) ?_;refine jbq Y Y ?_)
 refine zhq 2 Y ?_;skip
 refine gSo 0 Y (zGq (ext:=[2]) (ws:=[hbW h,.int .i64 id,.fn 156 [] [.ptr 0 0]]) (hp0:=[(0,61,ahq itZ)]) Y Y Y Y (by rw[ySq,ySq,ySq,zfq (kcq h)];rfl) hT Xg Xl Xi (yCq (by rw[zfq (ydq _)];rfl) (zaq (ydq _))) (by show(agq 1 (hbW h)&&(true&&(_&&true)))=true;rw[zaq (kcq h)];rfl) ?_);rintro w hp1 nw1 ⟨⟨hw,x,er,rfl,hr,rfl⟩,rfl⟩;have hpw:=hr.pur;rw[kNq hpw (ydq x),zfq (show abq (.tup [hw,.int .i64 er])=true by simp[abq,acq,hpw])];skip
 obtain⟨a,b,rfl⟩:=hr.agg;exact zcq 18 Y (z1q Jm rfl (.pur (show abq (.tup [.agg 2 [a,b],ahq x,.int .i64 er])=true by show(abq (.agg 2 [a,b])&&(abq (ahq x)&&(true&&true)))=true;rw[hpw,ydq];rfl)) (by show(abq (.agg 2 [a,b])&&(abq (ahq x)&&(true&&true)))=true;rw[hpw,ydq];rfl) ⟨_,_,_,rfl,hr⟩)
end
end
noncomputable def Zpq:Code->Option (Tmp×FuncId×List Operand)
 |.region _ ops false=>match ops.toList with
  |[⟨some t,.makeFunc (.func g) first caps,_,_,_,none⟩,⟨none,.defer ⟨.value (.tmp u),args,_⟩,_,_,_,none⟩]=>match Nat.beq t u,first.toList,args.toList with
   |true,[],[]=>some (t,g,caps.toList)
   |_,_,_=>none
  |_=>none
 |_=>none
theorem deq{c:Code}{t:Tmp}{g:FuncId}{caps:List Operand}(h:Zpq c=some (t,g,caps)):∃id ty1 p1 a1 ats ty2 p2 a2,c= .region id #[⟨some t,.makeFunc (.func g) #[] caps.toArray,ty1,p1,a1,none⟩,⟨none,.defer ⟨.value (.tmp t), #[],ats⟩,ty2,p2,a2,none⟩] false:=by
 unfold Zpq at h;split at h
 .rename_i id ops;split at h
  .rename_i t' g' first caps' ty1 p1 a1 u args ats ty2 p2 a2 hops;split at h
   .rename_i htu hf ha;cases h;have htu:=Zh htu;subst htu;have hf:first= #[]:=by apply YA.1;simpa using hf
    have ha:args= #[]:=by apply YA.1;simpa using ha
    subst hf;subst ha
    refine⟨id,ty1,p1,a1,ats,ty2,p2,a2,?_⟩
    have:ops= #[⟨some t,.makeFunc (.func g) #[] caps',ty1,p1,a1,none⟩,⟨none,.defer ⟨.value (.tmp t), #[],ats⟩,ty2,p2,a2,none⟩]:=by
     apply YA.1;simpa using hops
    rw[this]
   .cases h
  .cases h
 .cases h
noncomputable def e5q(S:Self)(F:Flow)(C:Cfg):Code->St->Option ((Exit×St)×Option (FuncId×List V))
 |.seq x y,st=>match Zpq x with
  |some (t,g,caps)=>match st.ds,evL C st.fr caps with
   |[],some vs=>match zdq S F C y ⟨aBq st.fr (some t) (.fn g [] vs),st.h,[],st.rd⟩ with
    |some r=>some (r,some (g,vs))
    |none=>none
   |_,_=>none
  |none=>match zdq S F C x st with
   |some (.normal,st')=>e5q S F C y st'
   |some r=>some (r,none)
   |none=>none
 |c,st=>match zdq S F C c st with
  |some r=>some (r,none)
  |none=>none
noncomputable def Keq(N:Nat):Code->Bool
 |.seq x y=>match Zpq x with
  |some (t,_,_)=>Nat.blt t N&&yAq N y
  |none=>yAq N x&&Keq N y
 |c=>yAq N c
noncomputable def dTl(ρ:Env):Option (FuncId×List V) ->List Deferred
 |none=>[]
 |some (g,vs)=>[{target:=.fn (.func g) (zMq ρ vs).toArray,args:= #[]}]
noncomputable def dIn(D:Nat->Nat->Prop):Option (FuncId×List V) ->Prop
 |none=>True
 |some (_,vs)=>InDL D vs
noncomputable def pBq(C:Cfg)(fn:Func)(fr:Tr V)(h:Heap):Option (V×Heap):=match n3q C fr h fn.results.toList with
 |some [v]=>some (v,h)
 |some vs=>some (.tup vs,h)
 |none=>none
noncomputable def djq(C:Cfg)(n:Nat)(g:FuncId)(ws:List V)(h:Heap):Option Heap:=match C.fn g with
 |some fg=>match fg.body,fg.results.toList,Nat.ble ws.length fg.ntmps with
  |some cg,[],true=>match zdq ⟨yPq C n,zNq C n⟩ ⟨ybq C n,zRq C n⟩ C cg ⟨x0q 0 ws .nil,h,[],false⟩ with
   |some (.normal,s2)=>match s2.ds with
    |[]=>some s2.h
    |_=>none
   |some (.ret,s2)=>match s2.ds with
    |[]=>some s2.h
    |_=>none
   |_=>none
  |_,_,_=>none
 |none=>none
noncomputable def i6q(C:Cfg)(n:Nat)(fn:Func)(st:St):Option (FuncId×List V) ->Option (V×Heap)
 |none=>c4q C fn st
 |some (g,ws)=>match qHq st.ds st.h with
  |some h1=>match djq C n g ws h1 with
   |some h2=>pBq C fn st.fr h2
   |none=>none
  |none=>none
noncomputable def eYq(C:Cfg)(n:Nat)(fn:Func)(c:Code)(vs:List V)(h:Heap):Option (V×Heap):=match Nat.ble vs.length fn.ntmps,e5q ⟨yPq C n,zNq C n⟩ ⟨ybq C n,zRq C n⟩ C c ⟨x0q 0 vs .nil,h,[],false⟩ with
 |true,some ((.normal,st),d)=>i6q C n fn st d
 |true,some ((.ret,st),d)=>i6q C n fn st d
 |_,_=>none
section
variable {P:Program} {C:Cfg} {s0:World} {U:Nat} {D:Nat->Prop} {ρ:Env} {fr:Tr V} {a:Act} {w:World} {h:Heap}
theorem Zkq{fn:Func}{tmps:Array Value}{R:Ending->World->Prop}{tl:List Deferred}:∀(ds:List Nat) (h h1:Heap) (w:World),qHq ds h=some h1->h1.next<=U->Rel s0 U D ρ h w->(∀d∈ds,D d) ->
  (∀w',Rel s0 U D ρ h1 w'->Nxt D ρ h w D ρ h1 w'->LeavesInM Fence.wide 0 P fn tmps R tl .returning w') ->LeavesInM Fence.wide 0 P fn tmps R (ds.map (mkD ρ)++tl) .returning w
 |[],h,h1,w,e,_,rel,_,k=>by
  simp only[qHq,Zk] at e;subst e;exact k w rel (Nxt.refl _ _ _ _)
 |d::ds,h,h1,w,e,hU,rel,hd,k=>by
  simp only[qHq] at e;split at e
  .rename_i hg;have hD:=hd d Xi;obtain⟨o,q1,q2⟩:=rel.has d _ hD hg;have q2:o= .deferred (some []):=q2;subst q2;refine⟨by simp,.inl ⟨ρ.b d,_,rfl,run_takeDeferred q1,?_⟩⟩;have ht:=qkq (w:=w) (b:=ρ.b d) (.deferred none) (Zp.1 q1).1;obtain⟨r2,n2⟩:=rel.put (b':=.dfr true) hD hg Y Y ht rfl trivial;have hU2:=Zs (jDq ds _ _ e).nxt hU;exact Zkq ds _ h1 _ e hU r2 (λx hx=>hd x (by simp[hx])) λw' r3 n3=>k w' r3 (n2.trans rel.lt hU n3)
  .cases e
theorem bWq(hC:CfgOK P C)(g:FrE C D ρ fr a){id:Nat}{t:Tmp}{f:FuncId}{caps:Array Operand}{ty1 ty2:TypeId}{p1 p2:String}{a1 a2:Array Edge}{ats:Array TypeId}{vs:List V}(ht:t<a.tmps.size)(hv:evL C fr caps.toList=some vs){Q:Exit->Act->World->Prop}
  (k:Q .normal (({a.put (some t) (aaq ρ (.fn f [] vs)) with defers:={target:=.fn (.func f) (zMq ρ vs).toArray,args:= #[]}::a.defers}:Act).put none undef) w):
  (Code.region id #[⟨some t,.makeFunc (.func f) #[] caps,ty1,p1,a1,none⟩,⟨none,.defer ⟨.value (.tmp t), #[],ats⟩,ty2,p2,a2,none⟩] false).wpIn (FF none) 0 P Q a w:=by
 have hp:ygq C fr ty1 (.makeFunc (.func f) #[] caps)=some (.fn f [] vs):=by simp[ygq,zHq,evL,hv]
 obtain⟨h1,h2⟩:=QIq hC g (o:=⟨some t,.makeFunc (.func f) #[] caps,ty1,p1,a1,none⟩) hp w;have g1:FrE C D ρ (aBq fr (some t) (.fn f [] vs)) (a.put (some t) (aaq ρ (.fn f [] vs))):=g.put (by simpa[YUq] using ht) h2;have hev:=(g1.ev (x:=.tmp t) (v:=.fn f [] vs) (by simp[evV,aBq,Tr.get_set])).1;refine wpIn_region_list ?_;show wpListIn _ _ _ _ _ [_,_] a w;unfold wpListIn;rw[show Region.wanted _ _=true from rfl,Zt rfl];refine ZQq rfl (.inl h1) ?_;unfold wpListIn;rw[show Region.wanted _ _=true from rfl,Zt rfl];refine⟨λf _=>Qtq none f,?_⟩
 have hr:((⟨none,.defer ⟨.value (.tmp t), #[],ats⟩,ty2,p2,a2,none⟩:Oper).semAt (FF none).round (a.put (some t) (aaq ρ (.fn f [] vs))).eval).run P w= .ok (.defer {target:=.fn (.func f) (zMq ρ vs).toArray,args:= #[]}) w:=by
  show(Oper.semAt none _ _).run P w=_;rw[Oper.semAt_none];simp only[execOp,resolve,hev];simp[aaq,zMq,Deferred.ofValue]
 rw[hr,Oper.uponIn_defer];unfold wpListIn;exact k
theorem e4q(hmx:P.follows .mixedOrders=true)(hC:CfgOK P C){n:Nat}(ih:RunOK P C n){N:Nat}:∀c:Code,Keq N c=true->∀st r d,e5q ⟨yPq C n,zNq C n⟩ ⟨ybq C n,zRq C n⟩ C c st=some (r,d) ->
  Mono st.h r.2.h/\∀s0 U D ρ a w Q,r.2.h.next<=U->StR C s0 U N none [] D ρ st a w->
   (∀D' ρ' a' w',StR C s0 U N none (dTl ρ' d) D' ρ' r.2 a' w'->Nxt D ρ st.h w D' ρ' r.2.h w'->dIn (DD D' ρ') d->Q r.1 a' w') ->c.wpIn (FF none) 0 P Q a w:=by
 have l5q:∀c:Code,yAq N c=true->∀st r d,(match zdq ⟨yPq C n,zNq C n⟩ ⟨ybq C n,zRq C n⟩ C c st with
   |some r=>some (r,none)
   |none=>none)=some (r,d) ->Mono st.h r.2.h/\∀s0 U D ρ a w Q,r.2.h.next<=U->StR C s0 U N none [] D ρ st a w->
   (∀D' ρ' a' w',StR C s0 U N none (dTl ρ' d) D' ρ' r.2 a' w'->Nxt D ρ st.h w D' ρ' r.2.h w'->dIn (DD D' ρ') d->Q r.1 a' w') ->c.wpIn (FF none) 0 P Q a w:=λc hok st r d he=>by
  split at he
  .rename_i r' h1;cases he;obtain⟨x,st'⟩:=r;obtain⟨m1,k1⟩:=jAq hmx hC ih hok _ _ _ h1;exact⟨m1,λs0 U D ρ a w Q hU g k=>k1 s0 U none [] D ρ a w Q hU g λD' ρ' a' w' g' n'=>k D' ρ' a' w' g' n' trivial⟩
  .cases he
 intro c;induction c with
 |seq x y _ ihy=>
  intro hok st r d he;simp only[Keq] at hok;simp only[e5q] at he;cases hd:Zpq x with
  |some p=>
   obtain⟨t,f,caps⟩:=p;rw[hd] at he hok;simp only[Zb] at hok he;have htN:t<N:=by simpa using hok.1
   obtain⟨id,ty1,p1,a1,ats,ty2,p2,a2,rfl⟩:=deq hd;split at he
   .rename_i vs hds hv;split at he
    .rename_i r' h1;cases he;obtain⟨x,st'⟩:=r;obtain⟨m1,k1⟩:=jAq hmx hC ih hok.2 _ _ _ h1;refine⟨m1,λs0 U D ρ a w Q hU g k=>wpIn_seq (bWq hC g.fr (by rw[g.size];exact htN) (by simpa using hv) ?_)⟩;have hin:InDL (DD D ρ) vs:=(g.fr.evs hv).2;have hdst:YUq a.tmps.size (some t)=true:=by rw[g.size];simpa[YUq] using htN
     have gp:=g.fr.put (d:=some t) (v:=.fn f [] vs) hdst ⟨trivial,hin⟩;have hdf:a.defers=[]:=by have:=g.defs;rw[hds] at this;simpa using this
     refine k1 s0 U none (dTl ρ (some (f,vs))) D ρ _ w Q hU ⟨⟨⟨gp.at_,gp.in_,gp.gl⟩⟩,g.rel,?_,?_,(λd hd=>by cases hd),g.rd⟩ λD' ρ' a' w' g' n'=>?_
     .simp[Act.put,g.size]
     .simp[Act.put,dTl,hdf]
     .have hag:=n'.agree g.rel.lt hU;have e:dTl ρ' (some (f,vs))=dTl ρ (some (f,vs)):=by simp only[dTl,qoq hag hin]
      refine k D' ρ' a' w' (by rw[e];exact g') n' (hin.mono (n'.dd g.rel.lt hU))
    .cases he
   .cases he
  |none=>
   rw[hd] at he hok;simp only[Zb] at hok he;split at he
   .rename_i st1 h1;obtain⟨m1,k1⟩:=jAq hmx hC ih hok.1 _ _ _ h1;obtain⟨m2,k2⟩:=ihy hok.2 _ _ _ he;refine⟨m1.trans m2,λs0 U D ρ a w Q hU g k=>wpIn_seq (k1 s0 U none [] D ρ a w _ (Zs m2.nxt hU) g λD1 ρ1 a1 w1 g1 n1=>?_)⟩;exact k2 s0 U D1 ρ1 a1 w1 Q hU g1 λD2 ρ2 a2 w2 g2 n2 hi=>k D2 ρ2 a2 w2 g2 (n1.trans g.rel.lt hU n2) hi
   .rename_i r' hne h1;cases he;obtain⟨e,st'⟩:=r;obtain⟨m1,k1⟩:=jAq hmx hC ih hok.1 _ _ _ h1;refine⟨m1,λs0 U D ρ a w Q hU g k=>wpIn_seq (k1 s0 U none [] D ρ a w _ hU g λD1 ρ1 a1 w1 g1 n1=>?_)⟩;have:=k D1 ρ1 a1 w1 g1 n1 trivial;cases e<;>first|exact this|exact absurd rfl (hne _)
   .cases he
 |_=>exact λhok st r d he=>l5q _ hok st r d he
theorem gBq(hC:CfgOK P C){fn:Func}{v:V}{h h':Heap}(hr:pBq C fn fr h=some (v,h'))(g:FrE C D ρ fr a)(rel:Rel s0 U D ρ h w):h'=h/\∃x,(results fn a.tmps).run P w= .ok x w/\x=aaq ρ v/\InD (DD D ρ) v:=by
 unfold pBq at hr;split at hr
 .rename_i u hu;cases hr;obtain⟨q1,q2⟩:=xIq hC g rel _ _ hu
  have hrl:∃rv,fn.results.toList=[rv]:=by
   cases hl:fn.results.toList with
   |nil=>rw[hl] at q1;exact q1.elim
   |cons rv l=>cases l with
    |nil=>exact⟨rv,rfl⟩
    |cons _ _=>rw[hl] at q1;exact q1.2.elim
  obtain⟨rv,hrv⟩:=hrl;rw[hrv] at q1;exact⟨rfl,_,dLq (by apply YA.1;simpa using hrv) q1.1,rfl,q2.1⟩
 .rename_i us hne hu;cases hr;obtain⟨q1,q2⟩:=xIq hC g rel _ _ hu;refine⟨rfl,_,dKq (rvs:=fn.results.toList) Xi (λe=>?_) q1,by simp[aaq],q2⟩;rw[qjq] at e;cases us with
  |nil=>cases e
  |cons u us=>cases us with
   |nil=>exact hne _ rfl
   |cons _ _=>cases e
 .cases hr
theorem Yxq(hmx:P.follows .mixedOrders=true)(hC:CfgOK P C)(hF:vJq P C)(hK:jhq P C){n:Nat}{f:FuncId}{fn:Func}{c:Code}(hf:P.funcs[f]? =some fn)(hb:fn.body=some c)(hent:∀args w,(callFunc f args).run P w= .ok (.enter f args) w)(hok:Keq fn.ntmps c=true):
  qyq P C f (eYq C n fn c):=λvs h v h' he=>by
 have ih:=bdq hmx hC hF hK n;unfold eYq at he
 have key :∀x st d,(x= .normal\/x= .ret) ->Nat.ble vs.length fn.ntmps=true->e5q ⟨yPq C n,zNq C n⟩ ⟨ybq C n,zRq C n⟩ C c ⟨x0q 0 vs .nil,h,[],false⟩=some ((x,st),d) ->i6q C n fn st d=some (v,h') ->
   Mono h h'/\∀s0 U D ρ w,h'.next<=U->GlobOK C (DD D ρ) ρ->InDL (DD D ρ) vs->Rel s0 U D ρ h w->Calls P f (zMq ρ vs).toArray w (k0q s0 U D ρ h w v h'):=λx st d hx hle h1 h2=>by
  have hle:=Yb hle;obtain⟨m1,k1⟩:=e4q hmx hC ih c hok _ _ _ h1
  have harg:∀(vs:List V) (m:Nat) (D:Nat->Prop) (ρ:Env),InDL (DD D ρ) vs->vs.length<=m->∀t u,(x0q 0 vs .nil).get t=some u->((zMq ρ vs).toArray++Array.replicate (m-(zMq ρ vs).toArray.size) undef)[t]? =some (aaq ρ u)/\InD (DD D ρ) u:=λvs m D ρ hin hle t u hu=>by
   rw[vGq] at hu;split at hu
   .rename_i hlt;simp only[Y8,ZN] at hu hlt;refine⟨?_,InDL.at_ hin hu⟩;rw[Array.getElem?_append_left (by simp[qjq];exact hlt.2),kxq];simp[hu]
   .simp[Tr.get_nil] at hu
  have hsz:∀(vs:List V) (m:Nat) (ρ:Env),vs.length<=m->((zMq ρ vs).toArray++Array.replicate (m-(zMq ρ vs).toArray.size) undef).size=m:=λvs m ρ hle=>by
   simp only[Array.size_append,Array.size_replicate,ZR,qjq];omega
  cases d with
  |none=>
   have m2:=vsq h2;refine⟨m1.trans m2,λs0 U D ρ w hU gl hin rel=>?_⟩;refine callsIn_wide.1 (callsIn_of_wp_marks (F:=Fence.wide) (n:=0) hf hb trivial ?_);refine k1 s0 U D ρ _ w _ (Zs m2.nxt hU) ⟨⟨⟨λt u hu=>(harg vs _ D ρ hin hle t u hu).1,λt u hu=>(harg vs _ D ρ hin hle t u hu).2,gl⟩⟩,rel,hsz _ _ _ hle,rfl,(λd hd=>by cases hd),rfl⟩ λD1 ρ1 a1 w1 g1 n1 _=>?_
   have fin:=bNq (P:=P) hC h2 hU g1 (R:=k0q s0 U D ρ h w v h') λw' r' n' i'=>⟨D1,ρ1,rfl,r',n1.trans rel.lt hU n',i'⟩
   rcases hx with rfl|rfl<;>exact fin
  | some p=>
   obtain⟨g,ws⟩:=p;simp only[i6q] at h2;split at h2
   .rename_i hh1 htake;split at h2
    .rename_i hh2 hclos;have mt:=jDq _ _ _ htake;unfold djq at hclos;split at hclos
     .rename_i fg hfg;obtain⟨hgf,hge,hgok⟩:=hF g fg hfg;split at hclos
      .rename_i cg hgb hgr hgle;have hgle:=Yb hgle;have hgres:fg.results= #[]:=by apply YA.1;simpa using hgr
       have key2:∃x2 s2,(x2= .normal\/x2= .ret)/\zdq ⟨yPq C n,zNq C n⟩ ⟨ybq C n,zRq C n⟩ C cg ⟨x0q 0 ws .nil,hh1,[],false⟩=some (x2,s2)/\s2.ds=[]/\s2.h=hh2:=by
        split at hclos
        .rename_i s2 e2;split at hclos
         .rename_i hds;cases hclos;exact⟨_,_,.inl rfl,e2,hds,rfl⟩
         .cases hclos
        .rename_i s2 e2;split at hclos
         .rename_i hds;cases hclos;exact⟨_,_,.inr rfl,e2,hds,rfl⟩
         .cases hclos
        .cases hclos
       obtain⟨x2,s2,hx2,e2,hds2,rfl⟩:=key2;obtain⟨m3,k3⟩:=jAq hmx hC ih (hgok cg hgb) _ _ _ e2
       have hh':h'=s2.h:=by
        unfold pBq at h2;split at h2<;>first|(cases h2;rfl)|cases h2
       subst hh';refine⟨(m1.trans mt).trans m3,λs0 U D ρ w hU gl hin rel=>?_⟩;have hU1:hh1.next<=U:=Zs m3.nxt hU;refine callsIn_wide.1 (callsIn_of_wp_marks (F:=Fence.wide) (n:=0) hf hb trivial ?_);refine k1 s0 U D ρ _ w _ (Zs mt.nxt hU1) ⟨⟨⟨λt u hu=>(harg vs _ D ρ hin hle t u hu).1,λt u hu=>(harg vs _ D ρ hin hle t u hu).2,gl⟩⟩,rel,hsz _ _ _ hle,rfl,(λd hd=>by cases hd),rfl⟩ λD1 ρ1 a1 w1 g1 n1 hi1=>?_
       have leave:LeavesInM Fence.wide 0 P fn a1.tmps (k0q s0 U D ρ h w v s2.h) a1.defers .returning w1:=by
        rw[g1.defs];refine Zkq _ _ _ _ htake hU1 g1.rel g1.din λw2 r2 n2=>?_
        have hag2:=n2.agree g1.rel.lt hU1;have hws:InDL (DD D1 ρ1) ws:=hi1;have ginit:=GlobOK.next g1.fr.gl g1.rel.lt hU1 n2;show LeavesInM Fence.wide 0 P fn a1.tmps (k0q s0 U D ρ h w v s2.h) ({target:=.fn (.func g) (zMq ρ1 ws).toArray,args:= #[]}::[]) .returning w2;refine⟨by simp,.inr ⟨λh=>Qs,.func g,(zMq ρ1 ws).toArray,g,(zMq ρ1 ws).toArray,rfl,?_,λ_ _=>trivial,?_⟩⟩
        .show(invoke (.fn (.func g) (zMq ρ1 ws).toArray) #[]).run P w2=_;have:=hge (zMq ρ1 ws).toArray w2;simpa[invoke] using this
        .have cd:=callsDIn_of_wp (F:=Fence.wide) (n:=0-1) (P:=P) (args:=(zMq ρ1 ws).toArray) (u:=.returning) (w:=w2) (R:=λe w'=>(∃x,e= .returned x)/\∃D3 ρ3,Rel s0 U D3 ρ3 s2.h w'/\Nxt D1 ρ1 hh1 w2 D3 ρ3 s2.h w') hgf hgb trivial (by
          refine k3 s0 U none [] D1 ρ1 _ w2 _ hU ⟨⟨⟨λt u hu=>(harg ws _ D1 ρ1 hws hgle t u hu).1,λt u hu=>(harg ws _ D1 ρ1 hws hgle t u hu).2,ginit⟩⟩,r2,hsz _ _ _ hgle,rfl,(λd hd=>by cases hd),rfl⟩ λD3 ρ3 a3 w3 g3 n3=>?_
          have hd3:a3.defers=[]:=by have:=g3.defs;rw[hds2] at this;simpa using this
          have hres:∃x,(results fg a3.tmps).run P w3= .ok x w3:=⟨.tuple #[],by simp[results,hgres]⟩
          obtain⟨x,hx⟩:=hres;have:a3.defers=[]/\∃x,(results fg a3.tmps).run P w3= .ok x w3/\((∃y,Ending.returned x= .returned y)/\∃D3 ρ3,Rel s0 U D3 ρ3 s2.h w3/\Nxt D1 ρ1 hh1 w2 D3 ρ3 s2.h w3):=⟨hd3,x,hx,⟨x,rfl⟩,D3,ρ3,g3.rel,n3⟩
          rcases hx2 with rfl|rfl<;>exact this)
         refine cd.mono ?_;rintro e u' w3 ⟨rfl,⟨x,rfl⟩,D3,ρ3,r3,n3⟩;have n23:=n2.trans g1.rel.lt hU n3;have gfr:=g1.fr.next g1.rel.lt hU n23;obtain⟨_,y,y1,y2,y3⟩:=gBq hC h2 gfr r3;exact⟨y,y1,D3,ρ3,by rw[y2],r3,n1.trans rel.lt hU n23,y3⟩
       rcases hx with rfl|rfl<;>exact leave
      .cases hclos
     .cases hclos
    .cases h2
   .cases h2
 split at he
 .rename_i st d h1 h2;obtain⟨q1,q2⟩:=key _ _ _ (.inl rfl) h1 h2 he;exact⟨q1,hent,q2⟩
 .rename_i st d h1 h2;obtain⟨q1,q2⟩:=key _ _ _ Jm h1 h2 he;exact⟨q1,hent,q2⟩
 .cases he
end
noncomputable def xxq:Code->Bool
 |.seq x y=>xxq x&&xxq y
 |.cond _ x y=>xxq x&&xxq y
 |.block _ x=>xxq x
 |.region _ _ _=>true
 |.skip=>true
 |.ret=>true
 |.exit _=>true
 |.label _=>true
 |.goto _=>true
 |_=>false
theorem jtq{S:Self}{F:Flow}{C:Cfg}:∀{c:Code} {st st':St} {e:Exit},xxq c=true->zdq S F C c st=some (e,st') ->st'.ds=st.ds
 |.seq x y,st,st',e,hs,h=>by
  simp only[xxq,Zb] at hs;simp only[zdq] at h;split at h
  .rename_i s1 h1;rw[jtq hs.2 h,jtq hs.1 h1]
  .exact jtq hs.1 h
 |.cond c x y,st,st',e,hs,h=>by
  simp only[xxq,Zb] at hs;simp only[zdq] at h;split at h
  .exact jtq hs.1 h
  .exact jtq hs.2 h
  .cases h
 |.block id x,st,st',e,hs,h=>by
  simp only[xxq] at hs;simp only[zdq] at h;split at h
  .rename_i s1 h1;split at h<;>(cases h;exact jtq hs h1)
  .exact jtq hs h
 |.region id ops dr,st,st',e,hs,h=>by
  simp only[zdq] at h;split at h
  .cases h;rfl
  .cases h
 |.skip,st,st',e,hs,h=>by simp only[zdq] at h;cases h;rfl
 |.ret,st,st',e,hs,h=>by simp only[zdq] at h;cases h;rfl
 |.exit _,st,st',e,hs,h=>by simp only[zdq] at h;cases h;rfl
 |.label _,st,st',e,hs,h=>by simp only[zdq] at h;cases h;rfl
 |.goto _,st,st',e,hs,h=>by simp only[zdq] at h;cases h;rfl
 |.loop _,_,_,_,hs,_=>by cases hs
 |.rangeFunc _ _ _ _,_,_,_,hs,_=>by cases hs
 |.scope _,_,_,_,hs,_=>by cases hs
 |.refuse _,_,_,_,hs,_=>by cases hs
section
variable {S S':Self} {F F':Flow} {C:Cfg}
theorem qQq(le:SelfLe S S')(lf:FlowLe F F'){c:Code}{st:St}{r:(Exit×St)×Option (FuncId×List V)}(h:(match zdq S F C c st with|some r=>some (r,none)|none=>none)=some r):(match zdq S' F' C c st with|some r=>some (r,none)|none=>none)=some r:=by
 split at h
 .rename_i x hx;rw[zIq le lf c hx];exact h
 .cases h
theorem JFq(le:SelfLe S S')(lf:FlowLe F F'):∀(c:Code) {st:St} {r:(Exit×St)×Option (FuncId×List V)},e5q S F C c st=some r->e5q S' F' C c st=some r
 |.seq x y,st,r,h=>by
  cases hd:Zpq x with
  |some p=>
   obtain⟨t,g,caps⟩:=p;simp only[e5q,hd] at h⊢;split at h
   .rename_i vs hds hvs;split at h
    .rename_i r' hr;rw[zIq le lf y hr];exact h
    .cases h
   .cases h
  |none=>
   simp only[e5q,hd] at h⊢;split at h
   .rename_i st' hr;rw[zIq le lf x hr];exact JFq le lf y h
   .rename_i r' hne hr;rw[zIq le lf x hr];obtain⟨e,s⟩:=r';cases e<;>first|exact h|exact absurd rfl (hne _)
   .cases h
 |.cond a b c,st,r,h=>qQq (C:=C) (c:=.cond a b c) (st:=st) le lf h
 |.block a b,st,r,h=>qQq (C:=C) (c:=.block a b) (st:=st) le lf h
 |.region a b c,st,r,h=>qQq (C:=C) (c:=.region a b c) (st:=st) le lf h
 |.skip,st,r,h=>qQq (C:=C) (c:=.skip) (st:=st) le lf h
 |.ret,st,r,h=>qQq (C:=C) (c:=.ret) (st:=st) le lf h
 |.exit a,st,r,h=>qQq (C:=C) (c:=.exit a) (st:=st) le lf h
 |.label a,st,r,h=>qQq (C:=C) (c:=.label a) (st:=st) le lf h
 |.goto a,st,r,h=>qQq (C:=C) (c:=.goto a) (st:=st) le lf h
 |.loop a,st,r,h=>qQq (C:=C) (c:=.loop a) (st:=st) le lf h
 |.rangeFunc a b c d,st,r,h=>qQq (C:=C) (c:=.rangeFunc a b c d) (st:=st) le lf h
 |.scope a,st,r,h=>qQq (C:=C) (c:=.scope a) (st:=st) le lf h
 |.refuse a,st,r,h=>qQq (C:=C) (c:=.refuse a) (st:=st) le lf h
theorem nnq{n m:Nat}(hnm:n<=m){g:FuncId}{ws:List V}{h h2:Heap}(hc:djq C n g ws h=some h2):djq C m g ws h=some h2:=by
 have l:=qDq C hnm;unfold djq at hc⊢;split at hc
 .rename_i fg hfg;split at hc
  .rename_i cg hb hr hle;split at hc
   .rename_i s2 e2;have:=zIq l.1 l.2 cg e2;simp only[Sn,Fl] at this;rw[this];exact hc
   .rename_i s2 e2;have:=zIq l.1 l.2 cg e2;simp only[Sn,Fl] at this;rw[this];exact hc
   .cases hc
  .cases hc
 .cases hc
theorem dcq{n m:Nat}(hnm:n<=m){fn:Func}{st:St}{d:Option (FuncId×List V)}{r:V×Heap}(h:i6q C n fn st d=some r):i6q C m fn st d=some r:=by
 cases d with
 |none=>exact h
 |some p=>
  obtain⟨g,ws⟩:=p;simp only[i6q] at h⊢;split at h
  .rename_i h1 ht;split at h
   .rename_i h2 hc;rw[nnq hnm hc];exact h
   .cases h
  .cases h
theorem gvq{n m:Nat}(hnm:n<=m){fn:Func}{c:Code}{vs:List V}{h:Heap}{r:V×Heap}(hr:eYq C n fn c vs h=some r):eYq C m fn c vs h=some r:=by
 have l:=qDq C hnm;unfold eYq at hr⊢;split at hr
 .rename_i st d hle hp;have:=JFq l.1 l.2 c hp;simp only[Sn,Fl] at this;rw[this,hle];exact dcq hnm hr
 .rename_i st d hle hp;have:=JFq l.1 l.2 c hp;simp only[Sn,Fl] at this;rw[this,hle];exact dcq hnm hr
 .cases hr
open Classical in
/-- such a function's answer, whatever the run's fuel -/
noncomputable def oIq(C:Cfg)(fn:Func)(c:Code)(vs:List V)(h:Heap):Option (V×Heap):=if q:∃r n,eYq C n fn c vs h=some r then some (Classical.choose q) else none
theorem srq{n:Nat}{fn:Func}{c:Code}{vs:List V}{h:Heap}{r:V×Heap}(hr:eYq C n fn c vs h=some r):oIq C fn c vs h=some r:=by
 have q:∃r n,eYq C n fn c vs h=some r:=⟨r,n,hr⟩
 unfold oIq;rw[dif_pos q];obtain⟨m,hm⟩:=Classical.choose_spec q;have h1:=gvq (Nat.le_max_left n m) hr;have h2:=gvq (Nat.le_max_right n m) hm;rw[h1] at h2;exact h2.symm
theorem iLq{fn:Func}{c:Code}{vs:List V}{h:Heap}{r:V×Heap}(hr:oIq C fn c vs h=some r):∃n,eYq C n fn c vs h=some r:=by
 unfold oIq at hr;split at hr
 .rename_i q;obtain⟨m,hm⟩:=Classical.choose_spec q;cases hr;exact⟨m,hm⟩
 .cases hr
end
theorem hqq{P:Program}{C:Cfg}{f:FuncId}{fn:Func}{c:Code}(h:∀n,qyq P C f (eYq C n fn c)):qyq P C f (oIq C fn c):=λvs h0 v h' he=>by
 obtain⟨n,hn⟩:=iLq he;exact h n vs h0 v h' hn
section
variable {C:Cfg} {G:Nat->Option W} {m k0:Nat} {fn:Func} {fr:FrW} {hp hp':HpW} {nw:Nat} {R:Res} {Q:W->HpW->Nat->Res->Prop} {Γ Γ':Ctx} {X X':Nat->Prop}
theorem onq(s:SatH C G Γ hp X R)(f:Frm Γ.nw Γ hp X Γ' hp' X'):Γ.Le Γ':=⟨f.mle (Zc _),f.sig,f.dsub,λb hb=>yRq (f.keep b (s.dlt b hb) (λ⟨k,x,h1,h2⟩=>(s.own k x.1 x.2 h1).2.1 (by rw[h2];exact hb)) (s.dX b hb))⟩
theorem g0q(s:SatH C G Γ hp X R){frv:Tr V}(hf:FRel Γ fr frv){w:W}(hw:e6q C fr hp fn.results.toList=some w):∃v,pBq C fn frv Γ.h=some (v,Γ.h)/\RV Γ w v:=by
 unfold e6q at hw;unfold pBq;split at hw
 .rename_i w0 hr;cases hw;obtain⟨vs',e1,e2⟩:=u7q s hf hr;simp only[RVL] at e2;obtain⟨v,vs2,rfl,e3,rfl⟩:=e2;exact⟨v,by rw[e1],e3⟩
 .rename_i ws' hne hr;cases hw;obtain⟨vs',e1,e2⟩:=u7q s hf hr;refine⟨.tup vs',?_,RV_tup.2 ⟨vs',rfl,e2⟩⟩;rw[e1];have hl:=x3q e2;cases vs' with
  |nil=>rfl
  |cons v vs2=>cases vs2 with
   |nil=>
    cases ws' with
    |nil=>simp at hl
    |cons a l=>cases l with
     |nil=>exact absurd rfl (hne a)
     |cons _ _=>simp at hl
   |cons _ _=>rfl
 .cases hw
noncomputable def DoW(C:Cfg)(G:Nat->Option W)(m k0:Nat)(fn:Func)(c:Code)(fr:FrW)(hp:HpW)(nw:Nat)(R:Res)(Q:W->HpW->Nat->Res->Prop):Prop:=
 ∀Γ X st,Γ.nw=nw->m<=nw->k0<=Γ.h.next->st.rd=false->st.ds=[] ->SatS C G k0 Γ hp X R fr st->∃n x st' d v Γ' X' w hp' R',(x=Exit.normal\/x=Exit.ret)/\e5q (Sn C n) (Fl C n) C c st=some ((x,st'),d)/\i6q C n fn st' d=some (v,Γ'.h)/\
  SatH C G Γ' hp' X' R'/\Frm m Γ hp X Γ' hp' X'/\RV Γ' w v/\Q w hp' Γ'.nw R'
theorem h5q{x y:Code}(hx:Zpq x=none)(hs:xxq x=true)(h:CoW C G m k0 false x fr hp nw R λe fr' hp' nw' R'=>(e= .normal/\DoW C G m k0 fn y fr' hp' nw' R' Q)\/(e= .ret/\∃w,e6q C fr' hp' fn.results.toList=some w/\Q w hp' nw' R')):DoW C G m k0 fn (.seq x y) fr hp nw R Q:=λΓ X st h1 h2 h3 h4 h5 h6=>by
 obtain⟨n,e,st',Γ',X',fr',hp',R',g1,g2,g3,g4,g5⟩:=h Γ X st h1 h2 h3 h4 h6;have hds:st'.ds=[]:=(jtq hs g1).trans h5;rcases g5 with ⟨rfl,g5⟩|⟨rfl,w,hw,hq⟩
 .obtain⟨n2,e2,st2,d,v,Γ2,X2,w,hp2,R2,k1,k2,k3,k4,k5,k6,k7⟩:=g5 Γ' X' st' rfl (g3.mle (h1▸h2)|>λq=>q) (Zs h3 g3.next) g4 hds g2;have l1:=qDq C (Nat.le_max_left n n2);have l2:=qDq C (Nat.le_max_right n n2);refine⟨max n n2,e2,st2,d,v,Γ2,X2,w,hp2,R2,k1,?_,dcq (Nat.le_max_right n n2) k3,k4,g3.trans k5,k6,k7⟩;simp only[e5q,hx,zIq l1.1 l1.2 x g1];exact JFq l2.1 l2.2 y k2
 .obtain⟨v,hv,hrv⟩:=g0q g2.sat g2.fr hw;refine⟨n,.ret,st',none,v,Γ',X',w,hp',R',.inr rfl,?_,?_,g2.sat,g3,hrv,hq⟩
  .simp only[e5q,hx,g1]
  .simp only[i6q,c4q,hds,qHq];rw[<-g2.hh] at hv;unfold pBq at hv;rw[<-g2.hh];exact hv
theorem rRq{x y:Code}{t:Tmp}{g:FuncId}{caps:List Operand}{cs:List W}{fg:Func}{cg:Code}(hx:Zpq x=some (t,g,caps))(hv:ayq C G fr caps=some cs)(hy:xxq y=true)(hf:C.fn g=some fg)(hb:fg.body=some cg)(hr:fg.results.toList=[])(hn:cs.length<=fg.ntmps)(hs:xxq cg=true)
  (h:CoW C G nw k0 false y (aoq fr (some t) (.fn g [] cs)) hp nw R λe fr' hp' nw' R'=>(e= .normal\/e= .ret)/\CoW C G nw' k0 false cg (Zbq 0 cs) hp' nw' R' λe2 _ hp2 nw2 R2=>(e2= .normal\/e2= .ret)/\∃w,e6q C fr' hp2 fn.results.toList=some w/\Q w hp2 nw2 R2):DoW C G m k0 fn (.seq x y) fr hp nw R Q:=λΓ X st h1 h2 h3 h4 h5 h6=>by
 subst h1;obtain⟨vs,q1,q2⟩:=xoq h6.fr h6.sat.gl hv;have hfr:FRel Γ (aoq fr (some t) (.fn g [] cs)) (aBq st.fr (some t) (.fn g [] vs)):=h6.fr.put (RV_fn.2 ⟨[],vs,rfl,by simp[RVL],q2⟩);obtain⟨n,e,st1,Γ1,X1,fr1,hp1,R1,g1,g2,g3,g4,ge,gc⟩:=h Γ X ⟨aBq st.fr (some t) (.fn g [] vs),st.h,[],st.rd⟩ rfl (Zc _) h3 h4 ⟨h6.hh,hfr,h6.sat,(λd hd=>by cases hd),YJ⟩;have hds:st1.ds=[]:=jtq hy g1;have le1:=onq h6.sat g3;obtain⟨n2,e2,st2,Γ2,X2,fr2,hp2,R2,k1,k2,k3,k4,ke,w,hw,hq⟩:=gc Γ1 X1 ⟨x0q 0 vs .nil,Γ1.h,[],false⟩ rfl (Zc _) (Zs h3 g3.next) rfl ⟨rfl,Khq (RVL.mono le1 q2),g2.sat,(λd hd=>by cases hd),YJ⟩;have le2:=onq g2.sat k3;have hds2:st2.ds=[]:=jtq hs k1;obtain⟨v,hvv,hrv⟩:=g0q k2.sat (g2.fr.mono le2) hw;have l1:=qDq C (Nat.le_max_left n n2);have l2:=qDq C (Nat.le_max_right n n2);refine⟨max n n2,e,st1,some (g,vs),v,Γ2,X2,w,hp2,R2,ge,?_,?_,k2.sat,(g3.trans (k3.le (m':=Γ.nw) (g3.mle (Zc _)) (Zc _))).le (m':=m) h2 (Zc _),hrv,hq⟩
 .simp only[e5q,hx,h5,q1,zIq l1.1 l1.2 y g1]
 .have hcl:djq C (max n n2) g vs Γ1.h=some Γ2.h:=by
   have k1':=zIq l2.1 l2.2 cg k1;simp only[Sn,Fl] at k1';have hle:Nat.ble vs.length fg.ntmps=true:=Zl (by rw[x3q q2];exact hn);unfold djq;simp only[hf,hb,hr,hle,k1'];rcases ke with rfl|rfl<;>simp only[hds2,k2.hh]
  simp only[i6q,hds,qHq,g2.hh,hcl];exact hvv
theorem ZHq{C':Cfg}(hg:C'.glob=C.glob)(s:SatH C G Γ hp X R):SatH C' G Γ hp X R:=⟨s.wf,s.own,s.inj,s.nd,s.dX,s.xlt,s.dlt,s.res,λi w a b=>s.gl i w (by rw[<-hg];exact a) b⟩
theorem lZq{C':Cfg}(e:C'={C with known:=C'.known})(k1:∀f k,C.known f=some k->C'.known f=some k)(k2:∀f,C.known f=none->C'.known f=none\/C.fn f=none){f:FuncId}{ws:List W}{Q:W->HpW->Nat->Prop}(h:yxq C G f m ws hp Q):yxq C' G f m ws hp Q:=λR Γ X vs h1 s hv=>by
 have hg:C'.glob=C.glob:=by rw[e]
 obtain⟨n,v,Γ',X',w,hp',R',g1,g2,g3,g4,g5⟩:=h R Γ X vs h1 (ZHq hg.symm s) hv;exact⟨n+1,v,Γ',X',w,hp',R',(cCq e k1 k2 n).1.fn _ _ _ _ g1,ZHq hg g2,g3,g4,g5⟩
theorem lEq{C':Cfg}{f:FuncId}{c:Code}{ws:List W}(hk:C'.known f=some (oIq C fn c))(hg:C'.glob=C.glob)(hn:ws.length<=fn.ntmps)(h:∀k0,DoW C G m k0 fn c (Zbq 0 ws) hp m R Q):aiq C' G f m ws hp R Q:=λΓ X vs h1 s hv=>by
 obtain⟨n,x,st',d,v,Γ',X',w,hp',R',g0,g1,g2,g3,g4,g5,g6⟩:=h Γ.h.next Γ X ⟨x0q 0 vs .nil,Γ.h,[],false⟩ h1 (Zc _) (Zc _) Y Y ⟨rfl,Khq hv,ZHq hg.symm s,by simp,YJ⟩;have hle:Nat.ble vs.length fn.ntmps=true:=Zl (by rw[x3q hv];exact hn)
 have hrun:eYq C n fn c vs Γ.h=some (v,Γ'.h):=by
  simp only[Sn,Fl] at g1;unfold eYq;rw[hle,g1];rcases g0 with rfl|rfl<;>exact g2
 refine⟨1,v,Γ',X',w,hp',R',?_,ZHq hg g3,g4,g5,g6⟩;simp only[yPq,hk];exact srq hrun
end
section
noncomputable def ewq(fn:Func):Code:=match fn.body with
 |some c=>c
 |none=>.skip
theorem gdq{C C':Cfg}{G:Nat->Option W}{m:Nat}{hp:HpW}{R:Res}{Q:W->HpW->Nat->Res->Prop}{fn:Func}{f:FuncId}{c:Code}{ws:List W}(hk:C'.known f=some (oIq C fn (ewq fn)))(hb:fn.body=some c)(hg:C'.glob=C.glob)(hn:ws.length<=fn.ntmps)(h:∀k0,DoW C G m k0 fn c (Zbq 0 ws) hp m R Q):aiq C' G f m ws hp R Q:=by
 have e:ewq fn=c:=by unfold ewq;rw[hb]
 subst e;exact lEq hk hg hn h
noncomputable def w7q:List V->Heap->Option (V×Heap):=oIq cfg Tryz.f35 (ewq Tryz.f35)
noncomputable def cfgA:Cfg:={cfg with known:=λf=>match Nat.beq f 35 with
 |true=>some w7q
 |false=>cfg.known f}
theorem kA_1(f:FuncId)(k:List V->Heap->Option (V×Heap))(h:cfg.known f=some k):cfgA.known f=some k:=by
 show(match Nat.beq f 35 with|true=>some w7q|false=>cfg.known f)=some k;cases e:Nat.beq f 35 with
 |false=>exact h
 |true=>
  have:=Zh e;subst this;rw[show cfg.known 35=none from rfl] at h;cases h
theorem kA_2(f:FuncId)(h:cfg.known f=none):cfgA.known f=none\/cfg.fn f=none:=by
 show(match Nat.beq f 35 with|true=>some w7q|false=>cfg.known f)=none\/_;cases e:Nat.beq f 35 with
 |false=>exact .inl h
 |true=>
  have:=Zh e;subst this;exact .inr rfl
theorem upA{G:Nat->Option W}{f:FuncId}{m:Nat}{ws:List W}{hp:HpW}{Q:W->HpW->Nat->Prop}(h:yxq cfg G f m ws hp Q):yxq cfgA G f m ws hp Q:=lZq rfl kA_1 kA_2 h
theorem b3q{a:Au}(h:Few25 a):SmallC a.vw.ch:=by
 obtain⟨h1,h2,h3⟩:=bHq h.ch;refine⟨by omega,λx hx=>?_,by omega,λx hx=>?_⟩
 .obtain⟨j,hj⟩:=List.getElem?_of_mem hx;have:=y2q hj;have:x.val.length<=100:=Nat.le_of_not_lt λq=>h.ch (.inl (.inr ⟨j,x,by omega,hj,q⟩))
  omega
 .obtain⟨k1,k2⟩:=h3 x hx;unfold yLq at k1;omega
theorem nzq{a:Au}(h:Few25 a):∀x∈a.vw.ch.tree.nodes,x.val.length<=1000000000:=λx hx=>by
 obtain⟨h1,_⟩:=bHq h.ch;obtain⟨j,hj⟩:=List.getElem?_of_mem hx;have:=y2q hj;have:x.val.length<=100:=Nat.le_of_not_lt λq=>h.ch (.inl (.inr ⟨j,x,by omega,hj,q⟩))
 omega
theorem n5q{l:List UInt8}(h:(rdQ l).2=0):(1<=(rdQ l).1.kind/\(rdQ l).1.kind<=8)/\(rdQ l).1.tx.ok:=by
 cases l with
 |nil=>exact absurd (show(220:Int)=0 from h) Xg
 |cons k r=>
  by_cases hb:k.toNat=1/\r.length=120/\(aEq r).2≠0
  .have e:rdQ (k::r)=(aq0,(aEq r).2):=Zt hb;rw[e] at h;exact absurd h hb.2.2
  .have e:rdQ (k::r)=sLq (fFq (k.toNat:Int)) (aQq (b4q (k.toNat:Int)) (aqK (k.toNat:Int),r,false)):=Zg hb;rw[e] at h⊢;unfold sLq at h⊢;split at h
   .rename_i q;rw[Zt q];obtain⟨h1,h2⟩:=iNq (b4q (k.toNat:Int)) (aqK (k.toNat:Int),r,false) nQq;have hk:=YN q.1;refine⟨?_,h1⟩;show 1<=(aQq (b4q (k.toNat:Int)) (aqK (k.toNat:Int),r,false)).1.kind/\_;rw[h2];exact hk
   .exact absurd h Xg
theorem pEq{l:List UInt8}(h:(rdQ l).2≠0):(rdQ l).1=aq0:=by
 cases l with
 |nil=>rfl
 |cons k r=>
  by_cases hb:k.toNat=1/\r.length=120/\(aEq r).2≠0
  .have e:rdQ (k::r)=(aq0,(aEq r).2):=Zt hb;rw[e]
  .have e:rdQ (k::r)=sLq (fFq (k.toNat:Int)) (aQq (b4q (k.toNat:Int)) (aqK (k.toNat:Int),r,false)):=Zg hb;rw[e] at h⊢;unfold sLq at h⊢;split at h
   .exact absurd rfl h
   .rename_i q;rw[Zg q]
def zFq(l:List UInt8)(a:Au)(k e:Int)(a':Au):Prop:=((rdQ l).2≠0/\k=0/\e=(rdQ l).2/\a'=a)\/((rdQ l).2=0/\k=(rdQ l).1.kind/\(a'=a\/(e=0/\¬(2<=(rdQ l).1.kind/\(rdQ l).1.kind<=5)/\AuM (aNq a.vw) a'/\OkAu a'/\a'.vw=a.vw)))
def Cdq(l:List UInt8)(a:Au):W->HpW->Nat->Prop:=λw hp nw=>∃(k e:Int) (L:List W) (a':Au),w= .agg 240 (.int .u8 k:: .int .i64 e::L)/\acq L=true/\hp=[(2,78,aqW (rdQ l).1),(1,63,w),(0,119,amW a')]/\nw=3/\zFq l a k e a'
attribute [local irreducible] CoW OpW FlW aeq aiq DoW
section
variable {G:Nat->Option W}
theorem hhq(a:Au)(h:Hb):yxq cfg G 92 1 [.ptr 0 0,hbW h,.int .i64 0] [(0,119,amW a)] λw hp nw=>hp=[(0,119,amW (oiq a h))]/\nw=1:=by
 have h1:=qiq (oiq a h);intro R;refine gIs 8 Y (λk0=>?_);exact gT 0 Y (eqI_iff.2 (rfl)) (zcq 11 Y (fin (.inl rfl) (zDq (nw2:=1) (fr2:=[]) (hp2:=[(0,119,amW (oiq a h))]) Xg Xg trivial rfl (ztq ⟨⟨by decide,rfl,zaq h1⟩,trivial⟩) Xi) rfl ⟨rfl,rfl,rfl⟩))
theorem hiq(a:Au)(e:Int)(he:e≠0):yxq cfg G 92 1 [.ptr 0 0,.agg 2 [.int .i64 0,.nils],.int .i64 e] [(0,119,amW a)] λw hp nw=>hp=[(0,119,amW a)]/\nw=1:=by
 have h1:=qiq a;intro R;refine gIs 8 Y (λk0=>?_);exact gF 0 Y (eqI_not.2 (he)) (zcq 4 Y (fin (.inl rfl) (zDq (nw2:=1) (fr2:=[]) (hp2:=[(0,119,amW a)]) Xg Xg trivial rfl (ztq ⟨⟨by decide,rfl,zaq h1⟩,trivial⟩) Xi) rfl ⟨rfl,rfl,rfl⟩))
end
theorem lQq(r:Ru)(v:Vw)(q:Aq)(hc:OkC v.ch)(sc:SmallC v.ch)(hm:aNq v):∃x:Rp,x.kind=q.kind/\PS cfg glK 95 [ruG r,vwG v,aqW q] (rpW x):=by
 obtain⟨y,hy,_,_⟩:=hm.1.last;obtain⟨n,t0,hA,hver⟩:=hm.1.head hy;by_cases k2:q.kind=2
 .exact⟨_,rfl,tsq r v q k2 _ _ (s2q v hc hm q.key hy hA)⟩
 by_cases k3:q.kind=3
 .have q2:=s0q v hc hm q.key;obtain⟨i,c,e,er⟩:∃i r g,BUq (ehq v.ch q.key)= .tup [.int .i64 i,rcW r,.int .i64 g]:=by cases ehq v.ch q.key<;>exact⟨_,_,_,rfl⟩
  rw[er] at q2;exact⟨_,rfl,trq r v q k3 _ _ _ q2⟩
 by_cases k4:q.kind=4
 .by_cases hT:Auq v r.window q.height
  .obtain⟨j,hj⟩:=Int.eq_ofNat_of_zero_le hT.1;obtain⟨x,hx⟩:∃x,v.ch.links[j]? =some x:=⟨_,Za (by have:=hT.2.1;omega)⟩
   obtain⟨n2,t2,hB⟩:=(hm.1.link j x hx).tree;obtain⟨p,hp⟩:=pOq hB.toIsT q.key;have p3:=lfq v hc sc hm r.window j q.key (hj▸hT) hx n2 t2 hB.toIsT;rw[hp,<-hj] at p3;exact⟨_,rfl,n4q r v q k4 _ _ _ p3⟩
  .have p3:=ciq v hc hm r.window q.height q.key hT;rw[ARq] at p3;exact⟨_,rfl,n4q r v q k4 _ _ _ p3⟩
 by_cases k5:q.kind=5
 .exact⟨_,rfl,pDq r v q k5 _ _ _ (lgq v hc hm hy)⟩
 exact⟨_,rfl,AKq r v q ⟨k2,k3,k4,k5⟩⟩
end
section
attribute [local irreducible] CoW OpW FlW aeq aiq DoW
theorem HbR.two{w:W}{e:Int}(h:HbR w e):(e=0/\∃h,w=hbW h/\HbM h)\/(e≠0/\w= .agg 2 [.int .i64 0,.nils]):=h
theorem sQq{l:List UInt8}{a:Au}{k e:Int}(he:(rdQ l).2=0)(hk:k=(rdQ l).1.kind):zFq l a k e a:=.inr ⟨he,hk,.inl rfl⟩
theorem Atq{l:List UInt8}{a a':Au}{k:Int}(he:(rdQ l).2=0)(hk:k=(rdQ l).1.kind)(hr:¬(2<=(rdQ l).1.kind/\(rdQ l).1.kind<=5))(hm:AuM (aNq a.vw) a')(ok:OkAu a')(hv:a'.vw=a.vw):zFq l a k 0 a':=.inr ⟨he,hk,.inr ⟨rfl,hr,hm,ok,hv⟩⟩
theorem tXq(a:Au)(hf:Fit25 a)(fw:Few25 a)(ok:OkAu a)(sm:SmAu a)(hm:AuM (aNq a.vw) a)(l:List UInt8)(f:Bool)(hl:l.length<=400):yxq cfgA glT 35 1 [.ptr 0 0,.fz (zbq l) 1 f] [(0,119,amW a)] (Cdq l a):=by
 have hM:=qiq a;have hrd:=Ymq xAq (gGq l f Xd);have hh3:∀s∈a.hub.subs,s.tap.items.length<=1000000000:=sm.taps
 intro R;refine gdq (fn:=Tryz.f35) (rfl) Y Y (Yb rfl) (λk0=>?_);refine h5q Y Y (zEq 3 Y ?_);refine Or.inl ⟨rfl,?_⟩;refine h5q Y Y (zEq 2 Y (gC 0 Y (hrd) (zcq 7 Y ?_)));refine Or.inl ⟨rfl,?_⟩;refine h5q Y Y ?_;skip
 by_cases he:(rdQ l).2=0
 .refine zEq 3 Y (gF 0 Y (Ze not (eqI_iff.2 (he))) (zcq 4 Y ?_));refine Or.inl ⟨rfl,?_⟩;obtain⟨hk8,hx⟩:=n5q he;have hrest:∀(k e:Int) (L:List W) (a':Au),k=(rdQ l).1.kind->acq L=true->zFq l a k e a'->Cdq l a (.agg 240 (.int .u8 k:: .int .i64 e::L)) [(2,78,aqW (rdQ l).1),(1,63,.agg 240 (.int .u8 k:: .int .i64 e::L)),(0,119,amW a')] 3:=λk e L a' _ hp hA=>⟨k,e,L,a',rfl,hp,rfl,rfl,hA⟩
  refine rRq Y Y Y Y Y Y (Yb rfl) Y ?_;skip
  cases hd:a.vw.down with
  |true=>
   have hdn:zYq 50 (amW a) 39 1 false=some (.bool true):=by show some (W.bool a.vw.down)=_;rw[hd]
   refine zEq 8 Y (gM 0 Y (z7q Y Y Y hdn) (zcq 11 Y ?_));refine⟨.inr rfl,?_⟩;exact zEq 6 Y (⟨.inl rfl,_,rfl,rfl,hrest _ _ _ a Y Y (sQq he rfl)⟩)
  |false=>
   have hdn:zYq 50 (amW a) 39 1 false=some (.bool false):=by show some (W.bool a.vw.down)=_;rw[hd]
   obtain⟨y0,hy0,_⟩:=hm.vw.1.last;obtain⟨nt,t0,hA,_⟩:=hm.vw.1.head hy0;have hru:=hm.ru;have hsub:=dTq xAq (pWq a.pool ok.pool sm.shards hm.pool (λi s hs=>Bcq hm.pool (λs hs=>(ok.pool s hs).2) fw hs) Xg a.vw.ch.tree nt t0 hA a.ru.cap (rdQ l).1.tx hx);have hjn:=mMq a.hub hm.hub hh3 a.ru.subs a.vw.number hru.2.2.2.2.2.1 hru.2.2.2.2.2.2;have hpl:=roq a.hub hm.hub hh3 (rdQ l).1.sub;have hlv:=mHq a.hub hm.hub hh3 (rdQ l).1.sub;obtain⟨x,hxk,hread⟩:=lQq a.ru a.vw (rdQ l).1 hf.ch (b3q fw) hm.vw;have hread:=Ymq xAq hread;have hxp:=gxq x;refine zEq 8 Y (gM 0 Y (z7q Y Y Y hdn) (zcq 13 Y ?_));skip
   by_cases k1:(rdQ l).1.kind=1
   .refine gT 2 Y (eqI_iff.2 (k1)) (zcq 26 Y ?_);skip
    refine gSf 0 Y (qIq Y Y Y Y Y hsub Yc ?_);skip
    skip
    rintro w hw (⟨s',old,rfl,hg,ho⟩|⟨e,hne,rfl⟩)
    .refine⟨by first|rfl|kernel_rfl,?_⟩;refine gT 19 Y (eqI_iff.2 (rfl)) (zcq 20 Y ?_);refine⟨.inr rfl,?_⟩;exact zEq 6 Y (⟨.inl rfl,_,rfl,rfl,hrest _ _ _ (Abq a _ s') Y Y (Atq he rfl Xd (luq hm hg Xg) (pfq ok hg Xg) rfl)⟩)
    .refine⟨by first|rfl|kernel_rfl,?_⟩;refine gF 19 Y (eqI_not.2 (hne)) (zcq 13 Y ?_);refine⟨.inr rfl,?_⟩;exact zEq 6 Y (⟨.inl rfl,_,rfl,rfl,hrest _ _ _ a Y Y (sQq he rfl)⟩)
   by_cases k6:(rdQ l).1.kind=6
   .refine gF 2 Y (eqI_not.2 (k1)) (gT 6 Y (eqI_iff.2 (k6)) (zcq 23 Y ?_));skip
    refine gSf 0 Y (qIq Y Y Y Y Y hjn Yc ?_);skip
    skip
    rintro w hw (⟨id,rfl,hM2⟩|⟨e,hne,rfl⟩)
    .refine⟨by first|rfl|kernel_rfl,?_⟩;refine zcq 15 Y ?_
     (refine zsq rfl (zGq (ext:=[0]) (ws:=[.ptr 0 0,hbW (JUq a.hub a.vw.number),.int .i64 0]) Y Y Y Y Qc (hhq a (JUq a.hub a.vw.number)) Xg Xg Xi (yCq Qn (zaq hM)) Yw ?_);rintro w hp1 nw1 ⟨rfl,rfl⟩;rw[z3q (qiq _)])
     refine zhq 14 Y ?_
     (refine jiq (λ_=>zDq (nw2:=3) (fr2:=[(4,.ptr 1 0)]) (hp2:=[(2,78,aqW (rdQ l).1),(1,63,_),(0,119,_)]) Xg Xg ⟨rfl,trivial⟩ rfl (ztq ⟨⟨by decide,rfl,zaq (zOq _)⟩,⟨by decide,rfl,zaq (show acq _=true by simp only[acq,Zb];exact⟨rfl,rfl,rfl,rfl,rfl,rfl,rfl,rfl,rfl,trivial⟩)⟩,⟨by decide,rfl,zaq (qiq _)⟩,trivial⟩) Xi) ?_;refine jbq Y Y ?_)
     refine zhq 4 Y ?_;refine⟨.inr rfl,?_⟩;exact zEq 6 Y (⟨.inl rfl,_,rfl,rfl,hrest _ _ _ (oiq a (JUq a.hub a.vw.number)) rfl (show acq _=true by simp only[acq,Zb];exact⟨rfl,rfl,rfl,rfl,rfl,rfl,rfl,trivial⟩) (Atq he rfl Xd (JXq hm hM2) (cTq ok hM2) rfl)⟩)
    .refine⟨by first|rfl|kernel_rfl,?_⟩;refine zcq 15 Y ?_
     (refine zsq rfl (zGq (ext:=[0]) (ws:=[.ptr 0 0,.agg 2 [.int .i64 0,.nils],.int .i64 e]) Y Y Y Y Y (hiq a e hne) Xg Xg Xi (yCq Qn (zaq hM)) Y ?_);rintro w hp1 nw1 ⟨rfl,rfl⟩;rw[z3q (qiq _)])
     refine zhq 14 Y ?_
     (refine jiq (λ_=>zDq (nw2:=3) (fr2:=[(4,.ptr 1 0)]) (hp2:=[(2,78,aqW (rdQ l).1),(1,63,_),(0,119,_)]) Xg Xg ⟨rfl,trivial⟩ rfl (ztq ⟨⟨by decide,rfl,zaq (zOq _)⟩,⟨by decide,rfl,zaq (show acq _=true by simp only[acq,Zb];exact⟨rfl,rfl,rfl,rfl,rfl,rfl,rfl,rfl,rfl,trivial⟩)⟩,⟨by decide,rfl,zaq (qiq _)⟩,trivial⟩) Xi) ?_;refine jbq Y Y ?_)
     refine zhq 4 Y ?_;refine⟨.inr rfl,?_⟩;exact zEq 6 Y (⟨.inl rfl,_,rfl,rfl,hrest _ _ _ a rfl (show acq _=true by simp only[acq,Zb];exact⟨rfl,rfl,rfl,rfl,rfl,rfl,rfl,trivial⟩) (sQq he rfl)⟩)
   by_cases k7:(rdQ l).1.kind=7
   .refine gF 2 Y (eqI_not.2 (k1)) (gF 6 Y (eqI_not.2 (k6)) (gT 6 Y (eqI_iff.2 (k7)) (zcq 13 Y ?_)));skip
    refine gSf 0 Y (qIq Y Y Y Y Y hpl Yc ?_);skip
    skip
    rintro w hw ⟨hw',x,e,rfl,hR⟩;rcases hR.two with ⟨rfl,h',rfl,hM2⟩|⟨hne,rfl⟩
    .refine⟨by first|rfl|kernel_rfl,?_⟩;refine zcq 16 Y ?_
     (refine zsq rfl (zGq (ext:=[0]) (ws:=[.ptr 0 0,hbW h',.int .i64 0]) Y Y Y Y Qc (hhq a h') Xg Xg Xi (yCq Qn (zaq hM)) Yw ?_);rintro w hp1 nw1 ⟨rfl,rfl⟩;rw[z3q (qiq _)])
     refine zhq 14 Y ?_
     (refine jiq (λ_=>zDq (nw2:=3) (fr2:=[(4,.ptr 1 0)]) (hp2:=[(2,78,aqW (rdQ l).1),(1,63,_),(0,119,_)]) Xg Xg ⟨rfl,trivial⟩ rfl (ztq ⟨⟨by decide,rfl,zaq (zOq _)⟩,⟨by decide,rfl,zaq (show acq _=true by simp only[acq,Zb];exact⟨rfl,rfl,rfl,rfl,rfl,rfl,rfl,rfl,ydq x,trivial⟩)⟩,⟨by decide,rfl,zaq (qiq _)⟩,trivial⟩) Xi) ?_;refine jbq Y Y ?_)
     refine zhq 4 Y ?_;refine⟨.inr rfl,?_⟩;exact zEq 6 Y (⟨.inl rfl,_,rfl,rfl,hrest _ _ _ (oiq a h') rfl (show acq _=true by simp only[acq,Zb];exact⟨rfl,rfl,rfl,rfl,rfl,rfl,ydq x,trivial⟩) (Atq he rfl Xd (JXq hm hM2) (cTq ok hM2) rfl)⟩)
    .refine⟨by first|rfl|kernel_rfl,?_⟩;refine zcq 16 Y ?_
     (refine zsq rfl (zGq (ext:=[0]) (ws:=[.ptr 0 0,.agg 2 [.int .i64 0,.nils],.int .i64 e]) Y Y Y Y Y (hiq a e hne) Xg Xg Xi (yCq Qn (zaq hM)) Y ?_);rintro w hp1 nw1 ⟨rfl,rfl⟩;rw[z3q (qiq _)])
     refine zhq 14 Y ?_
     (refine jiq (λ_=>zDq (nw2:=3) (fr2:=[(4,.ptr 1 0)]) (hp2:=[(2,78,aqW (rdQ l).1),(1,63,_),(0,119,_)]) Xg Xg ⟨rfl,trivial⟩ rfl (ztq ⟨⟨by decide,rfl,zaq (zOq _)⟩,⟨by decide,rfl,zaq (show acq _=true by simp only[acq,Zb];exact⟨rfl,rfl,rfl,rfl,rfl,rfl,rfl,rfl,ydq x,trivial⟩)⟩,⟨by decide,rfl,zaq (qiq _)⟩,trivial⟩) Xi) ?_;refine jbq Y Y ?_)
     refine zhq 4 Y ?_;refine⟨.inr rfl,?_⟩;exact zEq 6 Y (⟨.inl rfl,_,rfl,rfl,hrest _ _ _ a rfl (show acq _=true by simp only[acq,Zb];exact⟨rfl,rfl,rfl,rfl,rfl,rfl,ydq x,trivial⟩) (sQq he rfl)⟩)
   by_cases k8:(rdQ l).1.kind=8
   .refine gF 2 Y (eqI_not.2 (k1)) (gF 6 Y (eqI_not.2 (k6)) (gF 6 Y (eqI_not.2 (k7)) (gT 6 Y (eqI_iff.2 (k8)) (zcq 13 Y ?_))));skip
    refine gSf 0 Y (qIq Y Y Y Y Y hlv Yc ?_);skip
    skip
    rintro w hw ⟨hw',e,rfl,hR⟩;rcases hR.two with ⟨rfl,h',rfl,hM2⟩|⟨hne,rfl⟩
    .refine⟨by first|rfl|kernel_rfl,?_⟩;refine zcq 13 Y ?_
     (refine zsq rfl (zGq (ext:=[0]) (ws:=[.ptr 0 0,hbW h',.int .i64 0]) Y Y Y Y Qc (hhq a h') Xg Xg Xi (yCq Qn (zaq hM)) Yw ?_);rintro w hp1 nw1 ⟨rfl,rfl⟩;rw[z3q (qiq _)])
     refine zhq 11 Y ?_
     (refine jiq (λ_=>zDq (nw2:=3) (fr2:=[(4,.ptr 1 0)]) (hp2:=[(2,78,aqW (rdQ l).1),(1,63,_),(0,119,_)]) Xg Xg ⟨rfl,trivial⟩ rfl (ztq ⟨⟨by decide,rfl,zaq (zOq _)⟩,⟨by decide,rfl,zaq (show acq _=true by simp only[acq,Zb];exact⟨rfl,rfl,rfl,rfl,rfl,rfl,rfl,rfl,rfl,trivial⟩)⟩,⟨by decide,rfl,zaq (qiq _)⟩,trivial⟩) Xi) ?_;refine jbq Y Y ?_)
     refine zhq 4 Y ?_;refine⟨.inr rfl,?_⟩;exact zEq 6 Y (⟨.inl rfl,_,rfl,rfl,hrest _ _ _ (oiq a h') rfl (show acq _=true by simp only[acq,Zb];exact⟨rfl,rfl,rfl,rfl,rfl,rfl,rfl,trivial⟩) (Atq he rfl Xd (JXq hm hM2) (cTq ok hM2) rfl)⟩)
    .refine⟨by first|rfl|kernel_rfl,?_⟩;refine zcq 13 Y ?_
     (refine zsq rfl (zGq (ext:=[0]) (ws:=[.ptr 0 0,.agg 2 [.int .i64 0,.nils],.int .i64 e]) Y Y Y Y Y (hiq a e hne) Xg Xg Xi (yCq Qn (zaq hM)) Y ?_);rintro w hp1 nw1 ⟨rfl,rfl⟩;rw[z3q (qiq _)])
     refine zhq 11 Y ?_
     (refine jiq (λ_=>zDq (nw2:=3) (fr2:=[(4,.ptr 1 0)]) (hp2:=[(2,78,aqW (rdQ l).1),(1,63,_),(0,119,_)]) Xg Xg ⟨rfl,trivial⟩ rfl (ztq ⟨⟨by decide,rfl,zaq (zOq _)⟩,⟨by decide,rfl,zaq (show acq _=true by simp only[acq,Zb];exact⟨rfl,rfl,rfl,rfl,rfl,rfl,rfl,rfl,rfl,trivial⟩)⟩,⟨by decide,rfl,zaq (qiq _)⟩,trivial⟩) Xi) ?_;refine jbq Y Y ?_)
     refine zhq 4 Y ?_;refine⟨.inr rfl,?_⟩;exact zEq 6 Y (⟨.inl rfl,_,rfl,rfl,hrest _ _ _ a rfl (show acq _=true by simp only[acq,Zb];exact⟨rfl,rfl,rfl,rfl,rfl,rfl,rfl,trivial⟩) (sQq he rfl)⟩)
   refine gF 2 Y (eqI_not.2 (k1)) (gF 6 Y (eqI_not.2 (k6)) (gF 6 Y (eqI_not.2 (k7)) (gF 6 Y (eqI_not.2 (k8)) (gC 16 Y (hread) (zcq 11 Y ?_)))));refine⟨.inr rfl,?_⟩;exact zEq 6 Y (⟨.inl rfl,_,rfl,rfl,hrest _ _ _ a rfl (by have:=hxp;simp only[rpW,abq,acq,Zb] at this⊢;exact this.2.2) (sQq he rfl)⟩)
 .exact zEq 3 Y (gT 0 Y (Ze not (eqI_not.2 (he))) (zcq 11 Y (Or.inr ⟨rfl,_,rfl,rfl,0,_,_,a,rfl,rfl,rfl,rfl,.inl ⟨he,rfl,rfl,rfl⟩⟩)))
end
section
attribute [local irreducible] CoW OpW FlW aeq aiq
noncomputable def mvK(l:List UInt8)(f:Bool):W:=.agg 38 [.int .u8 1,.fz (zbq l) 1 f,.agg 35 [.int .u8 0,.arr 32 1 (List.replicate 32 (.int .u8 0)),.int .u64 0,.int .i64 0],.int .i64 0]
@[simp] theorem rbq(l:List UInt8)(f:Bool):abq (mvK l f)=true:=by
 show(true&&(abq (.fz (zbq l) 1 f)&&_))=true;rw[show abq (.fz (zbq l) 1 f)=true by simp[abq]];kernel_rfl
theorem upS{G:Nat->Option W}{f:FuncId}{ws:List W}{w:W}(h:PS cfg G f ws w):PS cfgA G f ws w:=upA h
theorem upE{G:Nat->Option W}{f:FuncId}{ws:List W}{A:W->Prop}(h:PE cfg G f ws A):PE cfgA G f ws A:=upA h
section
variable {G:Nat->Option W}
theorem w5q(a:Au)(hp:0<a.pool.length)(l:List UInt8)(f:Bool):PS cfg G 33 [amW a,mvK l f] (.bool true):=by
 have e:(a.pool.map shdW).length=a.pool.length:=Zd _;exact gI 11 Y (λR k0=>gT 0 Y (Ze not (ltI_not.2 Xg)) (gZ 5 Y e (gT 0 Y (ltI_iff.2 Xd) (gF 14 Y (eqI_not.2 Xg) (gF 7 Y (eqI_not.2 Xg) (gF 5 Y (eqI_not.2 Xg) (gT 11 Y (Ze not (ltI_not.2 Xg)) (gT 3 Y (Ze not (ltI_not.2 Xg)) (gQa 5 Y)))))))))
end
def DoR(l:List UInt8)(a:Au):W->Prop:=λw=>∃(k e:Int) (L:List W) (a':Au),w= .tup [amW a',.agg 240 (.int .u8 k:: .int .i64 e::L),.int .i64 0]/\acq L=true/\zFq l a k e a'
theorem Boq(a:Au)(hf:Fit25 a)(fw:Few25 a)(ok:OkAu a)(sm:SmAu a)(hm:AuM (aNq a.vw) a)(ht:PS cfg glT 83 [vwG a.vw] (vwG a.vw))(l:List UInt8)(f:Bool)(hl:l.length<=400):PE cfgA glT 9 [amW a,mvK l f] (DoR l a):=by
 have hv:=Ymq xAq (jrq a.vw hf.ch);have hck:=upS (zoq (w':=.int .i64 0) (vFq a ok (aNq a.vw) hv) Xv);have hak:=upS (w5q (G:=glT) a hm.pool.1.1 l f);have htw:=upS (nxq a sm ht);have hbk:=tXq a hf fw ok sm hm l f hl;have hM:=qiq a;have hF:abq (.fz (zbq l) 1 f)=true:=by simp[abq]
 refine gIe 14 Y (λR k0=>gC 0 Y (hck) (gF 0 Y (Ze not (eqI_iff.2 (rfl))) (gC 8 Y hak (gC 11 Y (htw) (gT 11 Y (eqI_iff.2 (rfl)) (zcq 8 Y ?_))))));skip
 refine gSo 0 Y (zGq (ext:=[4]) (ws:=[.ptr 0 0,.fz (zbq l) 1 f]) Y Y Y Y (by show [_,W.fz (zbq l) 1 f]=[_,adq _ (W.fz (zbq l) 1 f)];rw[zfq hF];rfl) hbk Xg Xg Xi (yCq Qn (zaq hM)) (by show(true&&(agq 1 (.fz (zbq l) 1 f)&&true))=true;rw[zaq hF];rfl) ?_);rintro w hp1 nw1 ⟨k,e,L,a',rfl,hL,rfl,rfl,hA⟩;have hw:abq (.agg 240 (.int .u8 k:: .int .i64 e::L))=true:=hL;have hM2:=qiq a';rw[alq,alq,z3q hM2,zfq (zOq _),zfq hw];skip
 exact zcq 17 Y (z1q (w':=.tup [amW a',.agg 240 (.int .u8 k:: .int .i64 e::L),.int .i64 0]) Jm rfl (.tup (.cons (.pur hM2) (.cons (.pur hw) (.cons (.pur rfl) .nil)))) (by show(abq (amW a')&&(abq (.agg 240 (.int .u8 k:: .int .i64 e::L))&&(true&&true)))=true;rw[hM2,hw];rfl) ⟨k,e,L,a',rfl,hL,hA⟩)
theorem wAq(a:Au)(ok:OkAu a)(hf:Fit25 a)(hm:¬AuM (aNq a.vw) a)(l:List UInt8)(f:Bool):PE cfgA glT 9 [amW a,mvK l f] (λw=>∃A B,w= .tup [.agg 52 A,.agg 240 B,.int .i64 8]):=by
 have hv:=Ymq xAq (jrq a.vw hf.ch);have hck:=upS (zoq (w':=.int .i64 8) (vFq a ok (aNq a.vw) hv) (by rw[Zg hm]));exact gIe 14 Y (λR k0=>gC 0 Y (hck) (gT 0 Y (Ze not (eqI_not.2 Xg)) (zcq 16 Y (z1q Jm rfl (.pur Xp) Xp ⟨_,_,rfl⟩))))
end
theorem tlq{Γ:Ctx}:∀{l:List Nat} {s:List V},RSL Γ (l.map λn=>W.int .u32 (.ofNat n)) s->s=l.map aGq
 |[],s,h=>by simpa[RSL] using h
 |c::p,s,h=>by
  have h:RS Γ (.int .u32 (.ofNat c)) (s.take 1)/\RSL Γ (p.map λn=>W.int .u32 (.ofNat n)) (s.drop 1):=h;have h1:s.take 1=[.int .u32 (.ofNat c)]:=by simpa[RS] using h.1
  rw[<-ZJ 1 s,h1,tlq h.2];rfl
theorem stq{C:Cfg}{G:Nat->Option W}{F:FuncId}{g:Nat}{ns:List Nat}(hk:C.known F=some (ptq (brq g ns)))(hg:C.glob g=true)(hG:G g=some (.arr ns.length 1 (ns.map λn=>W.int .u32 (.ofNat n)))):PS C G F [] (.bool true):=λR Γ X vs hnw s hv=>by
 obtain rfl:=RVL_nil.1 hv;obtain⟨b,off,bv,e,hD,hv,hs,ha,hl,hrs⟩:=kzq (s.gl g _ hg hG 0 λi=>i);cases e;have hz:(W.arr ns.length 1 (ns.map λn=>W.int .u32 (.ofNat n))).size=ns.length:=rfl;rw[hz] at hs hrs;rw[ZV] at hrs;have hrs:((zlq bv).take ns.length).length=ns.length/\(∀x∈(ns.map λn=>W.int .u32 (.ofNat n)),x.size=1)/\RSL ⟨0,λi=>i,Γ.D,Γ.h⟩ (ns.map λn=>W.int .u32 (.ofNat n)) ((zlq bv).take ns.length):=hrs;have hv:Γ.h.val g=some bv:=hv
 have hok:brq g ns Γ.h=true:=by
  unfold brq;rw[hv];show(Nat.ble ns.length bv.size&&bRq ((zlq bv).take ns.length) ns)=true;rw[tlq hrs.2.2,Q1q,Zl Xd];rfl
 refine⟨1,.bool true,Γ,X,.bool true,[],R,?_,s,by rw[<-hnw];exact Frm.refl _ _ _ _,RV_bool.2 rfl,rfl,rfl⟩;simp only[yPq,hk,ptq,hok]
section
attribute [local irreducible] CoW OpW FlW aeq aiq
theorem iOq:PS cfg glT 6 [] (.bool true):=stq (g:=1) (ns:=kA) Y Y Y
variable {G:Nat->Option W}
end
section
attribute [local irreducible] CoW OpW FlW aeq aiq
variable {G:Nat->Option W}
theorem A3q(k:IntKind)(n:Nat):W.int k (match ltI 100 (n:Int) with|true=>100|false=>(n:Int))=W.int k ((min n 100:Nat):Int):=by
 rcases ZM 100 n with q|q
 .rw[ltI_iff.2 Xd,Nat.min_eq_right Xd];rfl
 .rw[ltI_not.2 Xd,YH q]
theorem hMq(s:Shd)(hl:s.length<=4611686018427387903)(hx:∀l∈s,l.txs.length<=4611686018427387903):PE cfg G 68 [shdW s] (λw=>∃b:Bool,w= .bool b/\(b=false->s.length<=6/\∀l∈s,l.txs.length<=20)):=by
 have e:(s.map lnW).length=s.length:=Zd _;have hp:=y7q s;refine gIe 18 Y (λR k0=>?_);refine gLo (α:=Nat×Nat) 0 (λp=>p.1<=s.length/\p.1<=20/\p.2<=100*p.1/\∀(j:Nat) x,j<p.1->s[j]? =some x->min x.txs.length 100<=p.2) (λp=>[(3,.int .i64 (p.2:Int)),(4,.int .i64 (p.1:Int))]) [1,2] (λp=>s.length-p.1) ((0,0)) rfl (⟨Zi _,Zi _,Zi _,λj x h=>by simp at h⟩) (λp hI=>?_);obtain⟨i,n⟩:=p;obtain⟨i1,i2,i3,i4⟩:=hI;simp only at i1 i2 i3 i4;refine gZ 6 Y e ?_;refine gD 0 Y (λh1=>?_) (λh1=>?_)
 .refine gU 2 Y ?_;refine gS 3 Y (λh2=>?_) (λh2=>?_)
  .have hi:i<s.length:=by omega
   obtain⟨x,hxi⟩:∃x,s[i]? =some x:=⟨_,Za hi⟩
   have hxm:=hx x (Zf hxi);have ex:(x.txs.map txW).length=x.txs.length:=Zd _;have hmn:min x.txs.length 100<=100:=Nat.min_le_right _ _;exact gP 9 Y (zyq (i:=i) Y Y Y Y Y Y Y (zgq lnW hxi)) (gZ 2 Y ex (gV (w':=.int .i64 ((min x.txs.length 100:Nat):Int)) 0 Y (A3q _ _) (gA 0 Y (n+min x.txs.length 100) (gA 6 Y (i+1) (gAg 2 Y ((i+1,n+min x.txs.length 100)) (⟨by omega,by omega,by omega,λj z hj hz=>by rcases ZI.1 hj with q|rfl;exact Zs (i4 j z q hz) (Nat.le_add_right _ _);have:=ZB (hxi.symm.trans hz);subst this;exact Nat.le_add_left _ _⟩) Xd)))))
  .exact gO 2 Y (gZ 6 Y e (gT 0 Y (ltI_iff.2 Xd) (zcq 8 Y (z1q (w':=.bool true) Jm rfl (.pur rfl) rfl ⟨true,rfl,λq=>by cases q⟩))))
 .refine gO 9 Y (gZ 6 Y e ?_);refine gD 0 Y (λh2=>?_) (λh2=>?_)
  .exact zcq 8 Y (z1q (w':=.bool true) Jm rfl (.pur rfl) rfl ⟨true,rfl,λq=>by cases q⟩)
  .refine gD 2 Y (λh3=>?_) (λh3=>?_)
   .exact zcq 5 Y (z1q (w':=.bool true) Jm rfl (.pur rfl) rfl ⟨true,rfl,λq=>by cases q⟩)
   .refine zcq 5 Y ?_
    exact z1q (w':=.bool false) Jm rfl (.pur rfl) rfl ⟨false,rfl,λ_=>⟨by omega,λl hl=>by
     obtain⟨j,hj,hjl⟩:=List.mem_iff_getElem.1 hl;have:=i4 j l Xd (by rw[Za hj,hjl]);omega⟩⟩
theorem hLq(l:List Shd)(hl:l.length<=4611686018427387903)(hx:∀s∈l,s.length<=4611686018427387903/\∀y∈s,y.txs.length<=4611686018427387903):PE cfg G 23 [plW l] (λw=>∃b:Bool,w= .bool b/\(b=false->l.length<=10/\∀s∈l,s.length<=6/\∀y∈s,y.txs.length<=20)):=by
 have e:(l.map shdW).length=l.length:=Zd _;have hp:=jzq l;refine gIe 12 Y (λR k0=>?_);refine gLo (α:=Nat) 0 (λi=>i<=l.length/\i<=10/\∀(j:Nat) s,j<i->l[j]? =some s->s.length<=6/\∀y∈s,y.txs.length<=20) (λi=>[(3,.int .i64 (i:Int))]) [0,2] (λi=>l.length-i) (0) rfl (⟨Zi _,Zi _,λj x h=>by omega⟩) (λi hI=>?_);obtain⟨i1,i2,i4⟩:=hI;refine gZ 5 Y e ?_;refine gD 0 Y (λh1=>?_) (λh1=>?_)
 .refine gU 2 Y ?_;refine gS 3 Y (λh2=>?_) (λh2=>?_)
  .have hi:i<l.length:=by omega
   obtain⟨x,hxi⟩:∃x,l[i]? =some x:=⟨_,Za hi⟩
   have hxm:=hx x (Zf hxi);refine gP 8 Y (zyq (i:=i) Y Y Y Y Y Y Y (zgq shdW hxi)) (gE 1 Y (hMq x hxm.1 hxm.2) ?_);rintro w hw ⟨b,rfl,hb⟩;refine gS 2 Y (λh3=>?_) (λh3=>?_)
   .exact gO 8 Y (zcq 2 Y (z1q (w':=.bool true) Jm rfl (.pur rfl) rfl ⟨true,rfl,λq=>by cases q⟩))
   .exact gA 5 Y (i+1) (gAg 2 Y (i+1) (⟨by omega,by omega,λj z hj hz=>by rcases ZI.1 hj with q|rfl;exact i4 j z q hz;have:=ZB (hxi.symm.trans hz);subst this;exact hb (by first|assumption|simp_all)⟩) Xd)
  .refine gO 2 Y (gZ 5 Y e ?_);refine gD 0 Y (λh3=>?_) (λh3=>?_)
   .exact zcq 4 Y (z1q (w':=.bool true) Jm rfl (.pur rfl) rfl ⟨true,rfl,λq=>by cases q⟩)
   .refine zcq 4 Y ?_
    exact z1q (w':=.bool false) Jm rfl (.pur rfl) rfl ⟨false,rfl,λ_=>⟨by omega,λs hs=>by
     obtain⟨j,hj,hjl⟩:=List.mem_iff_getElem.1 hs;exact i4 j s Xd (by rw[Za hj,hjl])⟩⟩
 .refine gO 9 Y (gZ 5 Y e ?_);refine gD 0 Y (λh2=>?_) (λh2=>?_)
  .exact zcq 4 Y (z1q (w':=.bool true) Jm rfl (.pur rfl) rfl ⟨true,rfl,λq=>by cases q⟩)
  .refine zcq 4 Y ?_
   exact z1q (w':=.bool false) Jm rfl (.pur rfl) rfl ⟨false,rfl,λ_=>⟨by omega,λs hs=>by
    obtain⟨j,hj,hjl⟩:=List.mem_iff_getElem.1 hs;exact i4 j s Xd (by rw[Za hj,hjl])⟩⟩
theorem hKq(h:Hb)(hl:h.subs.length<=4611686018427387903)(hx:∀s∈h.subs,s.tap.items.length<=4611686018427387903):PE cfg G 24 [hbW h] (λw=>∃b:Bool,w= .bool b/\(b=false->h.subs.length<=18/\∀s∈h.subs,s.tap.items.length<=20)):=by
 have e:(h.subs.map sbW).length=h.subs.length:=Zd _;have hp:=xHq h.subs;refine gIe 13 Y (λR k0=>?_);refine gLo (α:=Nat) 0 (λi=>i<=h.subs.length/\i<=20/\∀(j:Nat) s,j<i->h.subs[j]? =some s->s.tap.items.length<=20) (λi=>[(3,.int .i64 (i:Int))]) [1,2] (λi=>h.subs.length-i) (0) rfl (⟨Zi _,Zi _,λj x h=>by omega⟩) (λi hI=>?_);obtain⟨i1,i2,i4⟩:=hI;refine gZ 6 Y e ?_;refine gD 0 Y (λh1=>?_) (λh1=>?_)
 .refine gU 2 Y ?_;refine gS 3 Y (λh2=>?_) (λh2=>?_)
  .have hi:i<h.subs.length:=by omega
   obtain⟨x,hxi⟩:∃x,h.subs[i]? =some x:=⟨_,Za hi⟩
   have hxm:=hx x (Zf hxi);have ex:(x.tap.items.map ahq).length=x.tap.items.length:=Zd _;refine gP 9 Y (zyq (i:=i) Y Y Y Y Y Y Y (zgq sbW hxi)) (gZ 3 Y ex ?_);refine gS 3 Y (λh3=>?_) (λh3=>?_)
   .exact gO 8 Y (zcq 2 Y (z1q (w':=.bool true) Jm rfl (.pur rfl) rfl ⟨true,rfl,λq=>by cases q⟩))
   .exact gA 5 Y (i+1) (gAg 2 Y (i+1) (⟨by omega,by omega,λj z hj hz=>by rcases ZI.1 hj with q|rfl;exact i4 j z q hz;have:=ZB (hxi.symm.trans hz);subst this;omega⟩) Xd)
  .exact gO 2 Y (gZ 6 Y e (gT 0 Y (ltI_iff.2 Xd) (zcq 4 Y (z1q (w':=.bool true) Jm rfl (.pur rfl) rfl ⟨true,rfl,λq=>by cases q⟩))))
 .refine gO 9 Y (gZ 6 Y e ?_);refine gD 0 Y (λh2=>?_) (λh2=>?_)
  .exact zcq 4 Y (z1q (w':=.bool true) Jm rfl (.pur rfl) rfl ⟨true,rfl,λq=>by cases q⟩)
  .refine zcq 4 Y ?_
   exact z1q (w':=.bool false) Jm rfl (.pur rfl) rfl ⟨false,rfl,λ_=>⟨by omega,λs hs=>by
    obtain⟨j,hj,hjl⟩:=List.mem_iff_getElem.1 hs;exact i4 j s Xd (by rw[Za hj,hjl])⟩⟩
theorem hJq(a:Au)(hf:Fit25 a):PE cfg G 7 [amW a] (λw=>∃b:Bool,w= .bool b/\(b=false->Few25 a)):=by
 have h1:=mOq (G:=G) a.vw 6 hf.ch.nodes hf.ch.len;have e1:(a.drawn.map txW).length=a.drawn.length:=Zd _;have e2:(a.back.map txW).length=a.back.length:=Zd _;have e3:(a.wait.map pdW).length=a.wait.length:=Zd _;have e4:(a.tells.map eveW).length=a.tells.length:=Zd _;have b1:=hf.drawl;have b2:=hf.backl;have b3:=hf.waitl;have b4:=hf.tells;by_cases hg:Qhq a.vw.ch 6
 .skip
  exact gIe 10 Y (λR k0=>gC 0 Y (zoq (w':=.bool true) (h1) (by rw[Zn (hg)])) (zcq 38 Y (z1q (w':=.bool true) Jm rfl (.pur rfl) rfl ⟨true,rfl,λq=>by cases q⟩)))
 .skip
  refine gIe 10 Y (λR k0=>gC 0 Y (zoq (w':=.bool false) (h1) (by rw[Zo (hg)])) (zcq 3 Y ?_));skip
  refine gSo 0 Y (qIq Y Y Y Y Y (hLq a.pool hf.pooll (λs hs=>⟨(hf.pool s hs).1,λy hy=>((hf.pool s hs).2 y hy).len⟩)) Yc ?_);rintro w hw ⟨c1,rfl,hc1⟩;skip
  skip
  cases c1 with
  |true=>
   skip
   exact zhq 34 Y (z1q (w':=.bool true) Jm rfl (.pur rfl) rfl ⟨true,rfl,λq=>by cases q⟩)
  |false=>
   skip
   refine zhq 4 Y ?_;skip
   refine gSo 0 Y (qIq Y Y Y Y Y (hKq a.hub hf.subs hf.taps) Yc ?_);rintro w hw ⟨c2,rfl,hc2⟩;skip
   skip
   cases c2 with
   |true=>
    skip
    exact zhq 29 Y (z1q (w':=.bool true) Jm rfl (.pur rfl) rfl ⟨true,rfl,λq=>by cases q⟩)
   |false=>
    skip
    refine zhq 4 Y (gZ 0 Y e1 ?_);refine gD 0 Y (λh1=>?_) (λh1=>?_)
    .exact zcq 23 Y (z1q (w':=.bool true) Jm rfl (.pur rfl) rfl ⟨true,rfl,λq=>by cases q⟩)
    .refine gZ 4 Y e2 ?_;refine gD 0 Y (λh2=>?_) (λh2=>?_)
     .exact zcq 17 Y (z1q (w':=.bool true) Jm rfl (.pur rfl) rfl ⟨true,rfl,λq=>by cases q⟩)
     .refine gZ 4 Y e3 ?_;refine gD 0 Y (λh3=>?_) (λh3=>?_)
      .exact zcq 11 Y (z1q (w':=.bool true) Jm rfl (.pur rfl) rfl ⟨true,rfl,λq=>by cases q⟩)
      .refine gZ 4 Y e4 ?_;refine gD 0 Y (λh4=>?_) (λh4=>?_)
       .exact zcq 5 Y (z1q (w':=.bool true) Jm rfl (.pur rfl) rfl ⟨true,rfl,λq=>by cases q⟩)
       .exact zcq 5 Y (z1q (w':=.bool false) Jm rfl (.pur rfl) rfl ⟨false,rfl,λ_=>⟨hg,hc1 rfl,hc2 rfl,by omega,by omega,by omega,by omega⟩⟩)
theorem nYq(a b:List UInt8)(f g:Bool)(hb:a.length<=1000000000):PS cfg G 230 [.fz (zbq a) 1 f,.fz (zbq b) 1 g] (.bool (decide (a=b))):=by
 have ea:=zqq a;have eb:=zqq b;refine gI 9 Y (λR k0=>gZ 0 Y ea (gZ 1 Y eb ?_));refine gS 3 Y (λh1=>?_) (λh1=>?_)
 .exact gQ 7 Y Yi
 .refine gZ 6 Y ea ?_;refine gLo (α:=Nat) 4 (λi=>i<=a.length/\a.take i=b.take i) (λi=>[(13,.int .i64 (i:Int))]) [0,1,4,12] (λi=>a.length-i) (0) rfl (⟨Zi _,rfl⟩) (λi hI=>?_);obtain⟨g1,g2⟩:=hI;refine gS 6 Y (λh2=>?_) (λh2=>?_)
  .obtain⟨x,hx⟩:∃x,a[i]? =some x:=⟨_,Za Xd⟩
   obtain⟨y,hy⟩:∃y,b[i]? =some y:=⟨_,Za Xd⟩
   refine gP 14 Y (zyq (i:=i) Y Y Y Y Y Y Y (xYq hx)) (gP 3 Y (zyq (i:=i) Y Y Y Y Y Y Y (xYq hy)) ?_);refine gS 4 Y (λh3=>?_) (λh3=>?_)
   .exact gO 8 Y (gQ 2 Y (by rw[Zo (mnq hx hy λq=>h3 (by rw[q]))]))
   .exact gA 4 Y (i+1) (gAg 2 Y (i+1) (⟨by omega,kIq g2 hx hy (UInt8.toNat_inj.1 (Int.ofNat.inj (Classical.not_not.1 h3)))⟩) Xd)
  .exact gO 2 Y (gQ 8 Y Yk)
end
section
theorem wxq{C:Cfg}{t e:TypeId}{i j:TyI}(ht:C.ty t=some i)(hi:i.d= .arr 2 e)(he:C.ty e=some j)(hj:j.d= .int .i64)(hs:j.size=1)(hg:j.agg=false)(a b c d:Int)(f:Nat):eqW C (f+50) t (.arr 2 1 [.int .i64 a,.int .i64 b]) (.arr 2 1 [.int .i64 c,.int .i64 d])=some (decide (a=c/\b=d)):=by
 have e0:eqW C (f+48) e (.int .i64 a) (.int .i64 c)=some (decide (a=c)):=qsq he hj;have e1:eqW C (f+47) e (.int .i64 b) (.int .i64 d)=some (decide (b=d)):=qsq he hj;have g0:∀x y:Int,zYq 50 (.arr 2 1 [.int .i64 x,.int .i64 y]) (0*1) 1 false=some (.int .i64 x):=λ_ _=>rfl
 have g1:∀x y:Int,zYq 50 (.arr 2 1 [.int .i64 x,.int .i64 y]) ((0+1)*1) 1 false=some (.int .i64 y):=λ_ _=>rfl
 rw[show f+50=(f+49)+1 from rfl];simp only[eqW,ht,hi,he];show YRq C (f+48+1) e j 2 0 _ _=_;simp only[YRq,hs,hg,g0,e0];by_cases q:a=c
 .rw[Zn q];simp only[g1,e1];by_cases r:b=d
  .rw[Zn r];simp[q,r]
  .rw[Zo r];simp[q,r]
 .rw[Zo q];simp[q]
attribute [local irreducible] CoW OpW FlW aeq aiq
variable {G:Nat->Option W}
theorem moq(l:List Node):acq (l.map nW)=true:=yfq (λx=>by simp) l
attribute [local simp] moq
theorem nd_eq{a b:Node}:(a.leaf=b.leaf/\a.key=b.key/\a.val=b.val/\a.left=b.left/\a.right=b.right)↔a=b:=by
 constructor
 .rintro⟨h1,h2,h3,h4,h5⟩;cases a;cases b
  simp only at h1 h2 h3 h4 h5;subst h1;subst h2;subst h3;subst h4;subst h5;rfl
 .rintro rfl;exact⟨rfl,rfl,rfl,rfl,rfl⟩
noncomputable instance(a b:Node):Decidable (a=b):=Classical.propDecidable _
theorem llq(a b:Node)(hl:a.val.length<=1000000000):PS cfg G 229 [nW a,nW b] (.bool (decide (a=b))):=by
 by_cases h1:a.leaf=b.leaf
 .by_cases h2:a.key=b.key
  .by_cases h3:a.val=b.val
   .skip
    refine gI 13 Y (λR k0=>?_);refine gV (w':=.bool true) 0 Y (by rw[h1];cases b.leaf<;>rfl) ?_;exact zcq 5 Y (jcq (w':=.bool true) rfl (yIq Y Y Y Y (yzq Y Y Y Y Y Y a.key b.key 250)) Jk (yhq 6 Y (gC 0 Y (zoq (w':=.bool true) (nYq a.val b.val false false hl) (by rw[Zn (h3)])) (gC 3 Y (j6q a) (gC 1 Y (j6q b) (jcq (w':=.bool (decide (a.left=b.left/\a.right=b.right))) rfl (yIq Y Y Y Y (wxq Y Y Y Y Y Y a.left a.right b.left b.right 250)) Y (yhq 5 Y (gQ 0 Y (h7q ⟨λq=>nd_eq.1 ⟨h1,h2,h3,q⟩,λq=>(nd_eq.2 q).2.2.2⟩)))))))))
   .skip
    refine gI 13 Y (λR k0=>?_);refine gV (w':=.bool true) 0 Y (by rw[h1];cases b.leaf<;>rfl) ?_;exact zcq 5 Y (jcq (w':=.bool true) rfl (yIq Y Y Y Y (yzq Y Y Y Y Y Y a.key b.key 250)) Jk (yhq 6 Y (gC 0 Y (zoq (w':=.bool false) (nYq a.val b.val false false hl) (by rw[Zo (h3)])) (gQ 12 Y (qtq λq=>h3 (by rw[q]))))))
  .skip
   refine gI 13 Y (λR k0=>?_);refine gV (w':=.bool true) 0 Y (by rw[h1];cases b.leaf<;>rfl) ?_;exact zcq 5 Y (jcq (w':=.bool false) rfl (yIq Y Y Y Y (yzq Y Y Y Y Y Y a.key b.key 250)) (by rw[Zo h2]) (yhq 19 Y (gQ 0 Y (qtq λq=>h2 (by rw[q])))))
 .skip
  refine gI 13 Y (λR k0=>?_);refine gV (w':=.bool false) 0 Y (by revert h1;cases a.leaf<;>cases b.leaf<;>intro h1<;>first|rfl|exact absurd rfl h1) ?_;exact gQ 25 Y (qtq λq=>h1 (by rw[q]))
theorem tgq(a b:List Node)(f g:Bool)(hb:a.length<=1000000000)(hl:∀x∈a,x.val.length<=1000000000):PS cfg G 228 [.fz (a.map nW) 36 f,.fz (b.map nW) 36 g,.fn 229 [] []] (.bool (decide (a=b))):=by
 have ea:(a.map nW).length=a.length:=Zd _;have eb:(b.map nW).length=b.length:=Zd _;refine gI 9 Y (λR k0=>gZ 0 Y ea (gZ 1 Y eb ?_));refine gS 3 Y (λh1=>?_) (λh1=>?_)
 .exact gQ 7 Y Yi
 .refine gZ 6 Y ea ?_;refine gLo (α:=Nat) 4 (λi=>i<=a.length/\a.take i=b.take i) (λi=>[(17,.int .i64 (i:Int))]) [1,2,6,15,16] (λi=>a.length-i) (0) rfl (⟨Zi _,rfl⟩) (λi hI=>?_);obtain⟨g1,g2⟩:=hI;refine gS 6 Y (λh2=>?_) (λh2=>?_)
  .obtain⟨x,hx⟩:∃x,a[i]? =some x:=⟨_,Za Xd⟩
   obtain⟨y,hy⟩:∃y,b[i]? =some y:=⟨_,Za Xd⟩
   refine gP 7 Y (zyq (i:=i) Y Y Y Y Y Y Y (zgq nW hx)) (gP 10 Y (zyq (i:=i) Y Y Y Y Y Y Y (zgq nW hy)) (gC 10 Y (llq x y (hl x (Zf hx))) ?_));refine gS 3 Y (λh3=>?_) (λh3=>?_)
   .exact gO 8 Y (gQ 2 Y (by rw[Zo (mnq hx hy (by simpa using h3))]))
   .exact gA 4 Y (i+1) (gAg 2 Y (i+1) (⟨by omega,kIq g2 hx hy (by simpa using h3)⟩) Xd)
  .exact gO 2 Y (gQ 8 Y Yk)
noncomputable instance instTreeEqT(a b:Tree):Decidable (a=b):=Classical.propDecidable _
theorem fQq(a b:Tree)(hb:a.nodes.length<=1000000000)(hl:∀x∈a.nodes,x.val.length<=1000000000):PS cfg G 185 [tW a,tW b] (.bool (decide (a=b))):=by
 by_cases h:a.root=b.root
 .skip
  exact gI 13 Y (λR k0=>gT 0 Y (eqI_iff.2 (h)) (gC 5 Y (tgq a.nodes b.nodes false false hb hl) (gQ 5 Y (h7q ⟨λq=>by cases a;cases b;simp only at h q;rw[h,q],λq=>by rw[q]⟩))))
 .skip
  exact gI 13 Y (λR k0=>gF 0 Y (eqI_not.2 (h)) (gQ 11 Y (qtq λq=>h (by rw[q]))))
end
section
attribute [local irreducible] CoW OpW FlW aeq aiq
variable {G:Nat->Option W}
def zrq(x y:Lk):Prop:=x.hdr=y.hdr/\(x.ds=y.ds/\x.xs=y.xs)/\x.rs=y.rs
noncomputable instance(x y:Lk):Decidable (zrq x y):=Classical.propDecidable _
theorem lk_same{x y:Lk}:zrq x y/\x.root=y.root↔x=y:=by
 constructor
 .rintro⟨⟨h1,⟨h2,h3⟩,h4⟩,h5⟩;cases x;cases y
  simp only at h1 h2 h3 h4 h5;subst h1;subst h2;subst h3;subst h4;subst h5;rfl
 .rintro rfl;exact⟨⟨rfl,⟨rfl,rfl⟩,rfl⟩,rfl⟩
noncomputable instance(a b:Ch):Decidable (a=b):=Classical.propDecidable _
end
section
attribute [local irreducible] CoW OpW FlW aeq aiq
attribute [local simp] Jvq
variable {G:Nat->Option W}
theorem lk_eq{a b:Lk}:(a.hdr=b.hdr/\a.root=b.root/\a.ds=b.ds/\a.xs=b.xs/\a.rs=b.rs)↔a=b:=by
 constructor
 .rintro⟨h1,h2,h3,h4,h5⟩;exact lk_same.1 ⟨⟨h1,⟨h3,h4⟩,h5⟩,h2⟩
 .rintro rfl;exact⟨rfl,rfl,rfl,rfl,rfl⟩
noncomputable instance(a b:Lk):Decidable (a=b):=Classical.propDecidable _
theorem niq(a b:Lk)(hl:a.ds.length<=1000000/\a.xs.length<=1000000/\a.rs.length<=1000000):PS cfg G 187 [lkG a,lkG b] (.bool (decide (a=b))):=by
 by_cases h1:a.hdr=b.hdr
 .by_cases h2:a.root=b.root
  .by_cases h3:a.ds=b.ds
   .by_cases h4:a.xs=b.xs
    .skip
     exact gI 13 Y (λR k0=>kpq (w':=.bool true) rfl (yIq Y Y Y Y (h0q a.hdr b.hdr)) Qp (zhq 5 Y (gT 0 Y (eqI_iff.2 (h2)) (gC 8 Y (zoq (w':=.bool true) (dIq a.ds b.ds false false Xd) (by rw[Zn (h3)])) (gC 8 Y (zoq (w':=.bool true) (baq a.xs b.xs false false Xd) (by rw[Zn (h4)])) (gC 6 Y (tfq a.rs b.rs false false Xd) (gQ 5 Y (h7q ⟨λq=>lk_eq.1 ⟨h1,h2,h3,h4,q⟩,λq=>(lk_eq.2 q).2.2.2.2⟩))))))))
    .skip
     exact gI 13 Y (λR k0=>kpq (w':=.bool true) rfl (yIq Y Y Y Y (h0q a.hdr b.hdr)) Qp (zhq 5 Y (gT 0 Y (eqI_iff.2 (h2)) (gC 8 Y (zoq (w':=.bool true) (dIq a.ds b.ds false false Xd) (by rw[Zn (h3)])) (gC 8 Y (zoq (w':=.bool false) (baq a.xs b.xs false false Xd) (by rw[Zo (h4)])) (gQ 12 Y (qtq λq=>h4 (by rw[q]))))))))
   .skip
    exact gI 13 Y (λR k0=>kpq (w':=.bool true) rfl (yIq Y Y Y Y (h0q a.hdr b.hdr)) Qp (zhq 5 Y (gT 0 Y (eqI_iff.2 (h2)) (gC 8 Y (zoq (w':=.bool false) (dIq a.ds b.ds false false Xd) (by rw[Zo (h3)])) (gQ 21 Y (qtq λq=>h3 (by rw[q])))))))
  .skip
   exact gI 13 Y (λR k0=>kpq (w':=.bool true) rfl (yIq Y Y Y Y (h0q a.hdr b.hdr)) Qp (zhq 5 Y (gF 0 Y (eqI_not.2 (h2)) (gQ 30 Y (qtq λq=>h2 (by rw[q]))))))
 .skip
  exact gI 13 Y (λR k0=>kpq (w':=.bool false) rfl (yIq Y Y Y Y (h0q a.hdr b.hdr)) (by rw[Zo h1]) (zhq 36 Y (gQ 0 Y (qtq λq=>h1 (by rw[q])))))
theorem thq(a b:List Lk)(f g:Bool)(hb:a.length<=1000000000)(hl:∀x∈a,x.ds.length<=1000000/\x.xs.length<=1000000/\x.rs.length<=1000000):PS cfg G 186 [.fz (a.map lkG) 102 f,.fz (b.map lkG) 102 g,.fn 187 [] []] (.bool (decide (a=b))):=by
 have ea:(a.map lkG).length=a.length:=Zd _;have eb:(b.map lkG).length=b.length:=Zd _;refine gI 9 Y (λR k0=>gZ 0 Y ea (gZ 1 Y eb ?_));refine gS 3 Y (λh1=>?_) (λh1=>?_)
 .exact gQ 7 Y Yi
 .refine gZ 6 Y ea ?_;refine gLo (α:=Nat) 4 (λi=>i<=a.length/\a.take i=b.take i) (λi=>[(17,.int .i64 (i:Int))]) [1,2,6,15,16] (λi=>a.length-i) (0) rfl (⟨Zi _,rfl⟩) (λi hI=>?_);obtain⟨g1,g2⟩:=hI;refine gS 6 Y (λh2=>?_) (λh2=>?_)
  .obtain⟨x,hx⟩:∃x,a[i]? =some x:=⟨_,Za Xd⟩
   obtain⟨y,hy⟩:∃y,b[i]? =some y:=⟨_,Za Xd⟩
   refine gP 7 Y (zyq (i:=i) Y Y Y Y Y Y Y (zgq lkG hx)) (gP 10 Y (zyq (i:=i) Y Y Y Y Y Y Y (zgq lkG hy)) (gC 10 Y (niq x y (hl x (Zf hx))) ?_));refine gS 3 Y (λh3=>?_) (λh3=>?_)
   .exact gO 8 Y (gQ 2 Y (by rw[Zo (mnq hx hy (by simpa using h3))]))
   .exact gA 4 Y (i+1) (gAg 2 Y (i+1) (⟨by omega,kIq g2 hx hy (by simpa using h3)⟩) Xd)
  .exact gO 2 Y (gQ 8 Y Yk)
theorem r1q(a b:Ch)(ha:SmallC a)(hv:∀x∈a.tree.nodes,x.val.length<=1000000000):PS cfg G 118 [chG a,chG b] (.bool (decide (a=b))):=by
 have h1:=ha.nodes;have h2:=ha.len;by_cases h:a.tree=b.tree
 .skip
  exact gI 13 Y (λR k0=>gC 0 Y (zoq (w':=.bool true) (fQq a.tree b.tree Xd hv) (by rw[Zn (h)])) (gC 5 Y (thq a.links b.links false false Xd ha.link) (gQ 5 Y (h7q ⟨λq=>by cases a;cases b;simp only at h q;rw[h,q],λq=>by rw[q]⟩))))
 .skip
  exact gI 13 Y (λR k0=>gC 0 Y (zoq (w':=.bool false) (fQq a.tree b.tree Xd hv) (by rw[Zo (h)])) (gQ 11 Y (qtq λq=>h (by rw[q]))))
noncomputable instance:DecidableEq Vw:=λa b=>Classical.propDecidable _
theorem lcq{a1 b1:Int}{a2 b2:Bool}{a3 b3:Int}{a4 b4:Ch}(h1:a1=b1)(h2:a2=b2)(h3:a3=b3):((⟨a1,a2,a3,a4⟩:Vw)=⟨b1,b2,b3,b4⟩)↔a4=b4:=⟨λq=>by injection q,λq=>by rw[h1,h2,h3,q]⟩
theorem oWq(a b:Vw)(ha:SmallC a.ch)(hv:∀x∈a.ch.tree.nodes,x.val.length<=1000000000):PS cfg glK 52 [vwG a,vwG b] (.bool (decide (a=b))):=by
 have hs:=r1q (G:=glK) a.ch b.ch ha hv;obtain⟨a1,a2,a3,a4⟩:=a;obtain⟨b1,b2,b3,b4⟩:=b;refine gI 13 Y (λR k0=>?_);refine gD 0 Y (λh1=>?_) (λh1=>?_)
 .refine gD 5 Y (λh2=>?_) (λh2=>?_)
  .refine gD 6 Y (λh3=>?_) (λh3=>?_)
   .refine gC 6 Y (hs) ?_;first|exact gQ 5 Y (Ze W.bool (Z9.2 (lcq h1 h2 h3).symm))|exact gQ 5 Y (qtq λq=>h3 (Ze Vw.final q))|exact gQ 5 Y (qtq λq=>h2 (Ze Vw.down q))|exact gQ 5 Y (qtq λq=>h1 (Ze Vw.number q))
   .first|exact gQ 12 Y (Ze W.bool (Z9.2 (lcq h1 h2 h3).symm))|exact gQ 12 Y (qtq λq=>h3 (Ze Vw.final q))|exact gQ 12 Y (qtq λq=>h2 (Ze Vw.down q))|exact gQ 12 Y (qtq λq=>h1 (Ze Vw.number q))
  .first|exact gQ 19 Y (Ze W.bool (Z9.2 (lcq h1 h2 h3).symm))|exact gQ 19 Y (qtq λq=>h3 (Ze Vw.final q))|exact gQ 19 Y (qtq λq=>h2 (Ze Vw.down q))|exact gQ 19 Y (qtq λq=>h1 (Ze Vw.number q))
 .first|exact gQ 25 Y (Ze W.bool (Z9.2 (lcq h1 h2 h3).symm))|exact gQ 25 Y (qtq λq=>h3 (Ze Vw.final q))|exact gQ 25 Y (qtq λq=>h2 (Ze Vw.down q))|exact gQ 25 Y (qtq λq=>h1 (Ze Vw.number q))
end
section
attribute [local irreducible] CoW OpW FlW aeq aiq
noncomputable instance(x y:Eve):Decidable (x=y):=Classical.propDecidable _
noncomputable instance(x y:Ru):Decidable (x=y):=Classical.propDecidable _
theorem Bnq(x y:Eve):eqW cfg 300 59 (eveW x) (eveW y)=some (decide (x=y)):=by
 rw[uPq (p:=x=y) (b:=decide (x.number=y.number)&&(decide (x.roll=y.roll)&&((decide (x.hdr.height=y.hdr.height)&&(decide (x.hdr.parent=y.hdr.parent)&&(decide (x.hdr.state=y.hdr.state)&&(decide (x.hdr.rows=y.hdr.rows)&&(decide (x.hdr.many=y.hdr.many)&&true)))))&&true))) (by
  obtain⟨b,c,d,e,f,g,h⟩:=x;obtain⟨b',c',d',e',f',g',h'⟩:=y;simp only[Eve.mk.injEq,Hdr.mk.injEq,Zb,Z7,and_true])]
 exact qEq Y Y Y Y (zuq Y Y Y (qsq Y Y) (zuq Y Y Y (c8q Y Y) (zuq Y Y Y (qEq Y Y Y Y (zuq Y Y Y (qsq Y Y) (zuq Y Y Y (yzq Y Y Y Y Y Y _ _ _) (zuq Y Y Y (yzq Y Y Y Y Y Y _ _ _) (zuq Y Y Y (yzq Y Y Y Y Y Y _ _ _) (zuq Y Y Y (qsq Y Y) jdq)))))) jdq)))
theorem Bkq(x y:Ru):eqW cfg 300 25 (ruG x) (ruG y)=some (decide (x=y)):=by
 rw[uPq (p:=x=y) (b:=decide (x.shards=y.shards)&&(decide (x.cap=y.cap)&&(decide (x.block=y.block)&&(decide (x.window=y.window)&&(decide (x.tap=y.tap)&&(decide (x.subs=y.subs)&&(decide (x.box=y.box)&&true))))))) (by
  obtain⟨b,c,d,e,f,g,h⟩:=x;obtain⟨b',c',d',e',f',g',h'⟩:=y;simp only[Ru.mk.injEq,Zb,Z7,and_true])]
 exact qEq Y Y Y Y (zuq Y Y Y (qsq Y Y) (zuq Y Y Y (qsq Y Y) (zuq Y Y Y (qsq Y Y) (zuq Y Y Y (qsq Y Y) (zuq Y Y Y (qsq Y Y) (zuq Y Y Y (qsq Y Y) (zuq Y Y Y (yzq Y Y Y Y Y Y _ _ _) jdq)))))))
section
variable {G:Nat->Option W}
theorem wwq(l:List Eve)(hl:l.length<=1000000000):PS cfg G 51 [.fz (l.map eveW) 100 false,.fz (l.map eveW) 100 false] (.bool true):=by
 have e:(l.map eveW).length=l.length:=Zd _;have ep:acq (l.map eveW)=true:=yfq J6q l;refine gI 9 Y (λR k0=>gZ 0 Y e (gZ 1 Y e (gF 0 Y (Ze not (eqI_iff.2 (rfl))) (gZ 9 Y e ?_))));refine gLo (α:=Nat) 4 (λi=>i<=l.length) (λi=>[(13,.int .i64 (i:Int))]) [0,1,4,12] (λi=>l.length-i) (0) rfl (Zi _) (λi hI=>?_);refine gS 6 Y (λh1=>?_) (λh1=>?_)
 .have hi:i<l.length:=by omega
  obtain⟨x,hx⟩:∃x,l[i]? =some x:=⟨_,Za hi⟩
  exact gP 14 Y (zyq (i:=i) Y Y Y Y Y Y Y (zgq eveW hx)) (gP 3 Y (zyq (i:=i) Y Y Y Y Y Y Y (zgq eveW hx)) (zcq 1 Y (jcq (w':=.bool false) rfl (qZq Y Y Y Y (Bnq x x)) (by rw[Zn rfl];rfl) (yhq 7 Y (gA 0 Y (i+1) (gAg 2 Y (i+1) (hi) Xd))))))
 .exact gO 2 Y (gQa 8 Y)
end
theorem iEq(a:Au)(sm:SmAu a)(hs:SmallC a.vw.ch)(hv:∀x∈a.vw.ch.tree.nodes,x.val.length<=1000000000):PS cfg glT 14 [amW a,amW a] (.bool true):=by
 have h1:=Ymq xAq (oWq a.vw a.vw hs hv);exact gI 13 Y (λR k0=>gC 0 Y (zoq (w':=.bool true) (baq a.drawn a.drawn false false sm.drawn) Qh) (gC 5 Y (zoq (w':=.bool true) (baq a.back a.back false false sm.back) Qh) (gC 6 Y (zoq (w':=.bool true) (dIq a.wait a.wait false false sm.wait) Qh) (gC 6 Y (wwq a.tells sm.tells) (zcq 12 Y (kpq (w':=.bool true) rfl (yIq Y Y Y Y (Bkq a.ru a.ru)) (by rw[Zn rfl]) (zhq 6 Y (gT 0 Y (eqI_iff.2 (rfl)) (gC 6 Y (zoq (w':=.bool true) (h1) Qh) (gC 6 Y (l3q a.pool (by have:=sm.pool;omega) sm.shards) (gC 6 Y (mLq a.hub sm.subs sm.taps) (gQa 5 Y))))))))))))
theorem refuses25_s(a:Au)(hf:Fit25 a)(l:List UInt8)(f:Bool):PS cfgA glT 4 [amW a,.fz (zbq l) 1 f] (.bool true):=by
 have e:(zbq l).length=l.length:=zqq l;have hM:=qiq a;have hF:abq (.fz (zbq l) 1 f)=true:=by simp[abq]
 have hK:=rbq l f;refine gI 8 Y (λR k0=>gC 0 Y (upS iOq) (zcq 7 Y ?_));skip
 refine gSo 0 Y (qIq Y Y Y Y Y (upE (hJq a hf)) Yc ?_);rintro w hw ⟨g,rfl,hg⟩;skip
 skip
 cases g with
 |true=>
  skip
  exact zhq 20 Y (gQa 0 Y)
 |false=>
  by_cases hl:400<l.length
  .skip
   exact zhq 2 Y (gZ 0 Y e (gT 0 Y (ltI_iff.2 Xd) (gQa 16 Y)))
  .have fw:=hg rfl;have ok:=wtq hf fw;have sm:=wsq fw;have hv:=Ymq xAq (jrq a.vw hf.ch);have hck:=vFq a ok (aNq a.vw) hv;have sc:=b3q fw;skip
   refine zhq 2 Y (gZ 0 Y e (gF 0 Y (ltI_not.2 Xd) (zcq 15 Y ?_)));skip
   skip
   by_cases hm:AuM (aNq a.vw) a
   .have hone:=hm.vw.1.one;have htn:PS cfg glT 83 [vwG a.vw] (vwG a.vw):=Ymq xAq (oVq a.vw sc (λq=>by rw[q] at hone;cases hone));have hdo:=Boq a hf fw ok sm hm htn l f Xd;have hrd:=upS (Ymq xAq (gGq l f Xd));have hsame:=upS (iEq a sm sc (nzq fw));refine gSo 0 Y (qIq Y Y Y Y Y hdo (by show(abq (amW a)&&(abq (mvK l f)&&true))=true;rw[hM,hK];rfl) ?_);rintro w hw ⟨k,c,L,a',rfl,hL,hA⟩;skip
    skip
    rcases hA with ⟨he,rfl,rfl,rfl⟩|⟨he,rfl,hA⟩
    .have hck2:=upS (zoq (w':=.int .i64 0) hck Xv);rw[pEq he] at hrd;exact gF 15 Y (Ze not (eqI_iff.2 (rfl))) (gC 8 Y (hrd) (gF 12 Y (Ze not (ltI_iff.2 Xg)) (gT 12 Y (Ze not (eqI_not.2 (he))) (gT 2 Y (eqI_iff.2 (rfl)) (gT 3 Y (Ze not (eqI_not.2 (he))) (gF 4 Y (Ze not (eqI_iff.2 (rfl))) (gF 4 Y (eqI_not.2 (he)) (gC 18 Y (hck2) (gT 0 Y (eqI_iff.2 (rfl)) (gF 4 Y (eqI_not.2 (he)) (gC 7 Y (hsame) (gQa 6 Y))))))))))))
    .obtain⟨hk8,_⟩:=n5q he
     have hck2:PS cfgA glT 8 [amW a'] (.int .i64 0):=by
      rcases hA with rfl|⟨_,_,hm',ok',hv'⟩
      .exact upS (zoq hck Xv)
      .exact upS (zoq (vFq a' ok' (aNq a.vw) (by rw[hv'];exact hv)) (by rw[Zt hm']))
     have hs:¬(c=0/\¬(2<=(rdQ l).1.kind/\(rdQ l).1.kind<=5)) ->PS cfgA glT 14 [amW a',amW a] (.bool true):=λq=>by
      rcases hA with rfl|⟨h1,h2,_⟩
      .exact hsame
      .exact absurd ⟨h1,h2⟩ q
     have hM2:=qiq a';refine gF 15 Y (Ze not (eqI_iff.2 (rfl))) (gC 8 Y (hrd) (zcq 8 Y ?_));refine Y1q (α:=Bool) (λrd=>rd=decide (2<=(rdQ l).1.kind/\(rdQ l).1.kind<=5)) (λrd=>[(5,.bool true),(10,.int .i64 (rdQ l).2),(11,.bool rd),(2,.ptr 0 0),(6,.ptr 1 0),(7,.ptr 2 0),(9,.ptr 3 0)]) (λ_=>[(3,78,aqW (rdQ l).1),(2,63,.agg 240 (.int .u8 (rdQ l).1.kind:: .int .i64 c::L)),(1,43,amW a'),(0,43,amW a)]) (λ_=>4) ?_ (λa ha=>?_)
     .skip
      by_cases r2:2<=(rdQ l).1.kind
      .by_cases r5:(rdQ l).1.kind<=5
       .exact zEq 3 Y (gT 0 Y (Ze not (ltI_not.2 Xd)) (gT 3 Y (Ze not (ltI_not.2 Xd)) (zcq 3 Y (⟨rfl,true,(Zn ⟨r2,r5⟩).symm,ynq ⟨rfl,rfl,rfl,rfl,rfl,rfl,rfl,trivial⟩ Y Y⟩))))
       .exact zEq 3 Y (gT 0 Y (Ze not (ltI_not.2 Xd)) (gF 3 Y (Ze not (ltI_iff.2 Xd)) (zcq 3 Y (⟨rfl,false,(Zo λq=>r5 q.2).symm,ynq ⟨rfl,rfl,rfl,rfl,rfl,rfl,rfl,trivial⟩ Y Y⟩))))
      .exact zEq 3 Y (gF 0 Y (Ze not (ltI_iff.2 Xd)) (zcq 7 Y (⟨rfl,false,(Zo λq=>r2 q.1).symm,ynq ⟨rfl,rfl,rfl,rfl,rfl,rfl,rfl,trivial⟩ Y Y⟩)))
     skip
     skip
     have hk0:(rdQ l).1.kind≠0:=by omega
     by_cases hc:c=0
     .cases a with
      |true=>
       have hsm:=hs λq=>q.2 (YN ha.symm)
       exact zEq 4 Y (gF 0 Y (Ze not (eqI_iff.2 (he))) (gF 2 Y (eqI_not.2 (hk0)) (gF 3 Y (Ze not (eqI_iff.2 (he))) (gT 9 Y (eqI_iff.2 (he)) (gF 5 Y (Ze not (eqI_iff.2 (rfl))) (gC 12 Y (hck2) (gT 0 Y (eqI_iff.2 (rfl)) (gT 4 Y (eqI_iff.2 (hc)) (gC 7 Y (hsm) (gQa 6 Y))))))))))
      |false=>
       exact zEq 4 Y (gF 0 Y (Ze not (eqI_iff.2 (he))) (gF 2 Y (eqI_not.2 (hk0)) (gF 3 Y (Ze not (eqI_iff.2 (he))) (gT 9 Y (eqI_iff.2 (he)) (gF 5 Y (Ze not (eqI_iff.2 (rfl))) (gC 12 Y (hck2) (gT 0 Y (eqI_iff.2 (rfl)) (gT 4 Y (eqI_iff.2 (hc)) (gQa 14 Y)))))))))
     .have hsm:=hs λq=>hc q.1
      exact zEq 4 Y (gF 0 Y (Ze not (eqI_iff.2 (he))) (gF 2 Y (eqI_not.2 (hk0)) (gF 3 Y (Ze not (eqI_iff.2 (he))) (gT 9 Y (eqI_iff.2 (he)) (gF 5 Y (Ze not (eqI_iff.2 (rfl))) (gC 12 Y (hck2) (gT 0 Y (eqI_iff.2 (rfl)) (gF 4 Y (eqI_not.2 (hc)) (gC 7 Y (hsm) (gQa 6 Y))))))))))
   .have hdo:=wAq a ok hf hm l f;refine gSo 0 Y (qIq Y Y Y Y Y hdo (by show(abq (amW a)&&(abq (mvK l f)&&true))=true;rw[hM,hK];rfl) ?_);rintro w hw ⟨A,B,rfl⟩;skip
    exact gT 15 Y (Ze not (eqI_not.2 Xg)) (gC 8 Y (upS (zoq (w':=.int .i64 8) hck (by rw[Zg hm]))) (gT 1 Y (eqI_iff.2 (rfl)) (gQa 6 Y)))
end
end
end Go.Proofs.YtpjfmknefefapaaGreatDoor

/-
  What the proof of ViewProves stands on, part 8. No condition.
-/
import Derived.Test.YtfliaigjcadegabGreatDoorZViewProvesG
set_option linter.unusedSimpArgs false
set_option linter.unusedVariables false
namespace Go.Proofs.YtfliaigjcadegabGreatDoor
section
open Go.RowKit
section
attribute [local irreducible] CoW OpW FlW Step Spec
def MayV(v:Vw):Prop:=MayC v.ch/\(0<=v.final/\v.final<(v.ch.links.length:Int)/\0<=v.number/\v.number<=1073741823)
noncomputable instance(v:Vw):Decidable (MayV v):=Classical.propDecidable _
theorem qBq(v:Vw)(hc:OkC v.ch):PS cfg glK 59 [vwG v] (.int .i64 (if MayV v then 0 else 8)):=by
 have e:(v.ch.links.map lkG).length=v.ch.links.length:=List.length_map _;by_cases hm:MayC v.ch
 ·skip
  refine gI 11 O (λR k0=>gC 0 O (zXq (w':=.int .i64 0) (j9q v.ch hc) Yk) (gFa 0 O ?_));refine gD 3 O (λh1=>?_) (λh1=>?_)
  ·exact gQ 30 O Xr
  ·refine gZ 7 O e ?_;refine gD 0 O (λh2=>?_) (λh2=>?_)
   ·exact gQ 21 O Xr
   ·refine gD 4 O (λh3=>?_) (λh3=>?_)
    ·exact gQ 16 O Xr
    ·refine gU 4 O ?_;refine gS 3 O (λh4=>?_) (λh4=>?_)
     ·exact gQ 7 O Xr
     ·exact gQ 8 O Xr
 ·skip
  exact gI 11 O (λR k0=>gC 0 O (zXq (w':=.int .i64 8) (j9q v.ch hc) Qk) (gTa 0 O (gQ 34 O (by rw[if_neg λq=>hm q.1]))))
theorem vtwin_s(v:Vw)(hs:SmallC v.ch)(hne:v.ch.links≠[]):PS cfg glK 95 [vwG v] (vwG v):=by
 exact gI 10 O (λR k0=>gC 0 O (ctwin_s v.ch hs hne) (gQa 11 O))
noncomputable def noVw:W:=.agg 6 [.int .i64 0,.bool false,.int .i64 0,noCh]
def TurnQ(P:Nat->Vw->Prop):W->HpW->Nat->Prop:=λw hp nw=>nw=1/\∃(k:Nat) (u:Vw) (n:Int) (b:Bool) (f:Int) (x:W),w= .int .i64 (k:Int)/\hp=[(0,29,.agg 6 [.int .i64 n,.bool b,.int .i64 f,x])]/\purW x=true/\(k=0->n=u.number/\b=u.down/\f=u.final/\x=chG u.ch/\n<=1073741823/\0<=n)/\P k u
def upV(u:Vw):Vw:={u with number:=u.number+1}
def OfA(v:Vw)(P:Nat->Vw->Prop):W->Prop:=λw=>(∃u,MayV v/\v.number≠1073741823/\P 0 u/\w= .tup [vwG (upV u),.int .i64 0])\/(∃k u,MayV v/\v.number≠1073741823/\k≠0/\P k u/\w= .tup [noVw,.int .i64 (k:Nat)])\/(¬MayV v/\w= .tup [noVw,.int .i64 8])\/(MayV v/\v.number=1073741823/\w= .tup [noVw,.int .i64 9])
theorem OfA.shape{v:Vw}{P:Nat->Vw->Prop}{w:W}(h:OfA v P w):∃a b c d n,w= .tup [.agg 6 [a,b,c,d],.int .i64 n]:=by
 rcases h with ⟨u,_,_,_,rfl⟩|⟨k,u,_,_,_,_,rfl⟩|⟨_,rfl⟩|⟨_,_,rfl⟩<;>exact⟨_,_,_,_,_,rfl⟩
theorem vof_s(F:FuncId)(cs:List W)(hcs:purL cs=true)(hF0:cfg.ext F=none)(v:Vw)(hc:OkC v.ch)(hs:SmallC v.ch)(P:Nat->Vw->Prop)(hF:MayV v->v.number≠1073741823->ydq cfg glK F 1 (.ptr 0 0::cs) [(0,29,vwG v)] (TurnQ P)):PE cfg glK 39 [.agg 1 [.fn F [] cs],vwG v] (OfA v P):=by
 by_cases hm:MayV v
 ·have hone:=hm.1.one;by_cases hn:v.number=1073741823
  ·skip
   refine gIe 13 O (λR k0=>?_);refine gC 0 O (zXq (w':=.int .i64 0) (qBq v hc) Yk) ?_;refine gFa 0 O ?_;refine gT 8 O (eqI_iff.2 (hn)) ?_;refine zcq 14 O ?_;exact yqq (w':=.tup [noVw,.int .i64 9]) Qt rfl (.pur rfl) rfl (.inr (.inr (.inr ⟨hm,hn,rfl⟩)))
  ·skip
   refine gIe 13 O (λR k0=>?_);refine gC 0 O (zXq (w':=.int .i64 0) (qBq v hc) Yk) ?_;refine gFa 0 O ?_;refine gF 8 O (eqI_not.2 (hn)) ?_;refine gC 10 O (vtwin_s v hs (λq=>by rw[q] at hone;cases hone)) ?_;refine zcq 9 O ?_;skip
   skip
   refine gSo 0 O (zSq (ext:=[3]) (ws:=.ptr 0 0::cs) O O hF0 rfl (by show W.ptr 3 0::cs=W.ptr 3 0::yIq _ cs;rw[jhq hcs]) (hF hm hn) Xn Xo Xg (kYq (by rw[zdq (zWq v)];rfl) (zbq (zWq v))) (zbq (w:=.tup cs) hcs) ?_);rintro w hp1 nw1 ⟨rfl,k,u,n,b,f,x,rfl,rfl,hx,hok,hp⟩
   have hpx:purW (.agg 6 [.int .i64 n,.bool b,.int .i64 f,x])=true:=by
    show(true&&(true&&(true&&(purW x&&true))))=true;rw[hx];rfl
   rw[xmq hpx];cases k with
   |zero=>
    obtain⟨rfl,rfl,rfl,rfl,h1,h2⟩:=hok rfl;skip
    refine zeq 6 O ?_;refine gFa 0 O ?_;refine gWr 9 O ?_;refine zcq 12 O ?_;exact yqq (w':=.tup [vwG (upV u),.int .i64 0]) Qt rfl (.pur (by show(purW (vwG (upV u))&&_)=true;rw[zWq];rfl)) (by show(purW (vwG (upV u))&&_)=true;rw[zWq];rfl) (.inl ⟨u,hm,hn,hp,rfl⟩)
   |succ k=>
    skip
    refine zeq 6 O ?_;refine gT 0 O (congrArg not (eqI_not.2 Xd)) ?_;refine zcq 13 O ?_;exact yqq (w':=.tup [noVw,.int .i64 ((k+1:Nat):Int)]) Qt rfl (.pur rfl) rfl (.inr (.inl ⟨k+1,u,hm,hn,by omega,hp,rfl⟩))
 ·skip
  refine gIe 13 O (λR k0=>?_);refine gC 0 O (zXq (w':=.int .i64 8) (qBq v hc) Qk) ?_;refine gTa 0 O ?_;refine zcq 14 O ?_;exact yqq (w':=.tup [noVw,.int .i64 8]) Qt rfl (.pur rfl) rfl (.inr (.inr (.inl ⟨hm,rfl⟩)))
def InV(v:Vw)(h:Int):Prop:=v.final<=h/\h<(v.ch.links.length:Int)
noncomputable instance(v:Vw)(h:Int):Decidable (InV v h):=Classical.propDecidable _
theorem vwithin_s(v:Vw)(h:Int):ydq cfg glK 43 1 [.ptr 0 0,.int .i64 h] [(0,29,vwG v)] λw hp nw=>w= .bool (decide (InV v h))/\hp=[(0,29,vwG v)]/\nw=1:=by
 have e:(v.ch.links.map lkG).length=v.ch.links.length:=List.length_map _;intro R;by_cases h1:v.final<=h
 ·by_cases h2:h<(v.ch.links.length:Int)
  ·refine gIs 12 O (λk0=>?_);exact gT 0 O (congrArg not (ltI_not.2 Xd)) (gZ 7 O e (gT 0 O (ltI_iff.2 (h2)) (zcq 5 O (fin Qt Ent.refl rfl ⟨rfl,by rw[decide_eq_true (show InV v h from⟨h1,h2⟩)],rfl,rfl⟩))))
  ·refine gIs 12 O (λk0=>?_);exact gT 0 O (congrArg not (ltI_not.2 Xd)) (gZ 7 O e (gF 0 O (ltI_not.2 (h2)) (zcq 5 O (fin Qt Ent.refl rfl ⟨rfl,by rw[decide_eq_false (λq:InV v h=>h2 q.2)],rfl,rfl⟩))))
 ·skip
  refine gIs 12 O (λk0=>?_);exact gF 0 O (congrArg not (ltI_iff.2 Xd)) (zcq 14 O (fin Qt Ent.refl rfl ⟨rfl,by rw[decide_eq_false (λq:InV v h=>h1 q.1)],rfl,rfl⟩))
def PConf(v:Vw)(h:Int)(k:Nat)(u:Vw):Prop:=(k=0/\InV v h/\u={v with final:=h})\/(k=170/\¬InV v h)
theorem vw_hand(v:Vw){hp:HpW}{b nw:Nat}(h:hget hp b=some (29,vwG v)):QTq [b] nw [(0,29,vwG v)] hp:=kYq (by rw[zdq (zWq v)];exact h) (zbq (zWq v))
theorem vconf1_s(v:Vw)(h:Int)(hn:0<=v.number/\v.number<=1073741823):ydq cfg glK 42 1 [.ptr 0 0,.fel (.int .i64 h)] [(0,29,vwG v)] (TurnQ (PConf v h)):=by
 intro R;refine gIs 10 O (λk0=>?_);skip
 skip
 refine gSo 0 O (zSq (ext:=[0]) (ws:=[.ptr 0 0,.int .i64 h]) O O O O O (vwithin_s v h) Xn Xo Xg (vw_hand v rfl) O ?_);rintro w hp1 nw1 ⟨rfl,rfl,rfl⟩;rw[xmq (zWq v)];by_cases hI:InV v h
 ·rw[decide_eq_true hI];skip
  skip
  exact zcq 21 O (fin Qt Ent.refl rfl ⟨rfl,rfl,0,{v with final:=h},v.number,v.down,h,chG v.ch,rfl,rfl,YPq _,λ_=>⟨rfl,rfl,rfl,rfl,by omega,by omega⟩,.inl ⟨rfl,hI,rfl⟩⟩)
 ·rw[decide_eq_false hI];skip
  skip
  exact zcq 11 O (fin Qt Ent.refl rfl ⟨rfl,rfl,170,v,v.number,v.down,v.final,chG v.ch,rfl,rfl,YPq _,λq=>absurd q Xn,.inr ⟨rfl,hI⟩⟩)
theorem vconf_s(v:Vw)(hc:OkC v.ch)(hs:SmallC v.ch)(h:Int):PE cfg glK 11 [vwG v,.int .i64 h] (OfA v (PConf v h)):=by
 refine gIe 13 O (λR k0=>?_);skip
 refine xdq (λ_=>jTq 1 [(4,.ptr 2 0),(7,.agg 1 [.fn 42 [] [.fel (.int .i64 h)]]),(8,vwG v)] [(2,29,noVw),(0,29,vwG v)] O O (Nat.zero_le _) ⟨⟨_,rfl,.ptrK rfl⟩,⟨_,rfl,.agg (.cons (.fn .nil (.cons (.ptr (n:=1) (ag:=false) O O O) .nil)) .nil)⟩,⟨_,rfl,.pur (zWq v)⟩,trivial⟩ ⟨⟨by omega,_,rfl,.pur rfl⟩,⟨by omega,_,rfl,.pur (zWq v)⟩,trivial⟩ Xg) ?_;refine zqq rfl (kJq O O O O O (vof_s 42 [.fel (.int .i64 h)] O O v hc hs (PConf v h) (λhm _=>vconf1_s v h ⟨hm.2.2.2.1,hm.2.2.2.2⟩)) (by show(true&&(purW (vwG v)&&true))=true;rw[zWq];rfl) ?_);rintro w hw hA;obtain⟨a,b,c,d,n,rfl⟩:=hA.shape;skip
 exact zeq 7 O (yqq Qt rfl (.pur hw) hw hA)
def PSeal(v:Vw)(ds:List Depo)(xs:List Tx)(box:Dig)(k:Nat)(u:Vw):Prop:=(k=0/\CanAdd v.ch ds xs box/\∃y t' t1 L,Adds v.ch ds xs box y t' t1 L/\t'.nodes.length<=v.ch.tree.nodes.length+21000/\u={v with ch:=addC v.ch t' (jrq y.hdr t1 L) ds xs L})\/(¬CanAdd v.ch ds xs box/\k=addE v.ch ds xs box)
theorem vseal1_s(v:Vw)(hc:OkC v.ch)(hs:SmallC v.ch)(hN:v.ch.tree.nodes.length<=200000)(ds:List Depo)(xs:List Tx)(hB:BodOk ds xs)(box:Dig)(hn:0<=v.number/\v.number<=1073741823):ydq cfg glK 37 1 [.ptr 0 0,.fel (bodW ds xs false false),.fel (dW box)] [(0,29,vwG v)] (TurnQ (PSeal v ds xs box)):=by
 intro R;refine gIs 14 O (λk0=>?_);skip
 skip
 refine gSf 0 O (kJq O O O O O (cadd_s v.ch hc hs hN ds xs hB box) (by simp[purL]) ?_);rintro w hw (⟨hca,y,t',t1,L,hadd,hgr,rfl⟩|⟨hno,rfl⟩)
 ·refine⟨by first|rfl|kernel_rfl,?_⟩;skip
  exact zcq 16 O (fin Qt Ent.refl rfl ⟨rfl,rfl,0,{v with ch:=addC v.ch t' (jrq y.hdr t1 L) ds xs L},v.number,v.down,v.final,chG (addC v.ch t' (jrq y.hdr t1 L) ds xs L),rfl,rfl,YPq _,λ_=>⟨rfl,rfl,rfl,rfl,by omega,by omega⟩,.inl ⟨rfl,hca,y,t',t1,L,hadd,hgr,rfl⟩⟩)
 ·refine⟨by first|rfl|kernel_rfl,?_⟩;skip
  exact zcq 16 O (fin Qt Ent.refl rfl ⟨rfl,rfl,addE v.ch ds xs box,v,v.number,v.down,v.final,noCh,rfl,rfl,rfl,λq=>absurd q (addE_no hno),.inr ⟨hno,rfl⟩⟩)
theorem vseal_s(v:Vw)(hc:OkC v.ch)(hs:SmallC v.ch)(hN:v.ch.tree.nodes.length<=200000)(ds:List Depo)(xs:List Tx)(hB:BodOk ds xs)(box:Dig):PE cfg glK 9 [vwG v,bodW ds xs false false,dW box] (OfA v (PSeal v ds xs box)):=by
 have hbp:=vfq ds xs false false;refine gIe 14 O (λR k0=>?_);skip
 refine xdq (λ_=>jTq 2 [(6,.ptr 3 0),(9,.agg 1 [.fn 37 [] [.ptr 1 0,.fel (dW box)]]),(10,vwG v)] [(3,29,noVw),(1,33,bodW ds xs false false),(0,29,vwG v)] rfl (qMq box) (Nat.zero_le _) ⟨⟨_,rfl,.ptrK rfl⟩,⟨_,rfl,.agg (.cons (.fn .nil (.cons (.ptrK rfl) (.cons (.ptr (n:=32) (ag:=true) rfl (qMq box) rfl) .nil))) .nil)⟩,⟨_,rfl,.pur (zWq v)⟩,trivial⟩ ⟨⟨by omega,_,rfl,.pur rfl⟩,⟨by omega,_,rfl,.pur hbp⟩,⟨by omega,_,rfl,.pur (zWq v)⟩,trivial⟩ Xg) (xdq (λ_=>jTq 1 [(6,.ptr 3 0),(9,.agg 1 [.fn 37 [] [.fel (bodW ds xs false false),.fel (dW box)]]),(10,vwG v)] [(3,29,noVw),(0,29,vwG v)] rfl hbp (Nat.zero_le _) ⟨⟨_,rfl,.ptrK rfl⟩,⟨_,rfl,.agg (.cons (.fn .nil (.cons (.ptr (n:=2) (ag:=true) rfl hbp rfl) (.cons (.pur (qMq box)) .nil))) .nil)⟩,⟨_,rfl,.pur (zWq v)⟩,trivial⟩ ⟨⟨by omega,_,rfl,.pur rfl⟩,⟨by omega,_,rfl,.pur (zWq v)⟩,trivial⟩ Xg) ?_);refine zqq rfl (kJq O O O O O (vof_s 37 [.fel (bodW ds xs false false),.fel (dW box)] Yu rfl v hc hs (PSeal v ds xs box) (λhm _=>vseal1_s v hc hs hN ds xs hB box ⟨hm.2.2.2.1,hm.2.2.2.2⟩)) Yu ?_);rintro w hw hA;obtain⟨a,b,c,d,n,rfl⟩:=hA.shape;skip
 exact zeq 7 O (yqq Qt rfl (.pur hw) hw hA)
abbrev Bd:=List Depo×List Tx
noncomputable def bdW(b:Bd):W:=bodW b.1 b.2 false false
@[simp] theorem bdW_pur(b:Bd):purW (bdW b)=true:=vfq _ _ _ _
@[simp] theorem xBq(l:List Bd):purL (l.map bdW)=true:=yAq bdW_pur l
def vqq(l:List Bd)(i:Nat):List Bd:=(List.range l.length).map λk=>((if k<i\/l.length-i<=k then l[l.length-1-k]? else l[k]?).getD ([],[]))
theorem Ziq(l:List Bd)(i:Nat):(vqq l i).length=l.length:=by simp[vqq]
theorem xKq{l:List Bd}{i k:Nat}(h:k<l.length):(vqq l i)[k]? =if k<i\/l.length-i<=k then l[l.length-1-k]? else l[k]? :=by
 unfold vqq;rw[List.getElem?_map,List.getElem?_range h];show some ((if k<i\/l.length-i<=k then l[l.length-1-k]? else l[k]?).getD ([],[]))=_;split
 ·rw[List.getElem?_eq_getElem Xd];rfl
 ·rw[List.getElem?_eq_getElem h];rfl
theorem swap_ge{l:List Bd}{i k:Nat}(h:l.length<=k):(vqq l i)[k]? =none:=List.getElem?_eq_none (by rw[Ziq];exact h)
theorem swap_0(l:List Bd):vqq l 0=l:=List.ext_getElem? λk=>by
 by_cases h:k<l.length
 ·rw[xKq h,if_neg Xd]
 ·rw[swap_ge Xd,List.getElem?_eq_none Xd]
theorem swap_end{l:List Bd}{i:Nat}(h:l.length<=2*i+1)(hi:i<=l.length):vqq l i=l.reverse:=List.ext_getElem? λk=>by
 by_cases hk:k<l.length
 ·rw[xKq hk,List.getElem?_reverse hk];split
  ·rfl
  ·congr 1;omega
 ·rw[swap_ge Xd,List.getElem?_eq_none (by rw[List.length_reverse];omega)]
theorem swap_step{l:List Bd}{i:Nat}{x y:Bd}(h:2*i+1<l.length)(hx:l[i]? =some x)(hy:l[l.length-1-i]? =some y):((vqq l i).set i y).set (l.length-1-i) x=vqq l (i+1):=List.ext_getElem? λk=>by
 by_cases hk:k<l.length
 ·rw[xKq hk,List.getElem?_set,List.getElem?_set,List.length_set,Ziq];by_cases h1:l.length-1-i=k
  ·rw[if_pos h1,if_pos Xd,if_pos Xd];rw[<-hx];congr 1;omega
  ·rw[if_neg h1];by_cases h2:i=k
   ·subst h2;rw[if_pos rfl,if_pos Xd,if_pos Xd,hy]
   ·rw[if_neg h2,xKq hk];by_cases h3:k<i\/l.length-i<=k
    ·rw[if_pos h3,if_pos Xd]
    ·rw[if_neg h3,if_neg Xd]
 ·rw[swap_ge Xd,List.getElem?_eq_none (by rw[List.length_set,List.length_set,Ziq];omega)]
theorem bd_get{l:List Bd}{n i:Nat}{x:Bd}(h:l[i]? =some x)(hn:n=l.length)(h2:2<=l.length):zZq 50 (.arr (n*2) 2 (l.map bdW)) (0+i*2) 2 true=some (bdW x):=by
 subst hn
 have hb:Nat.beq 2 (l.length*2)=false:=by
  cases q:Nat.beq 2 (l.length*2) with
  |false=>rfl
  |true=>have:=Nat.eq_of_beq_eq_true q;omega
 exact get_in (off:=0) (zKq bdW h) Xd Xd (by rw[hb];simp) rfl
theorem bd_put{l:List Bd}{n i:Nat}{x y:Bd}(h:l[i]? =some x)(hn:n=l.length)(h2:2<=l.length):qaq 50 (.arr (n*2) 2 (l.map bdW)) (0+i*2) (bdW y)=some (.arr (n*2) 2 ((l.set i y).map bdW)):=by
 subst hn
 have hb:Nat.beq 2 (l.length*2)=false:=by
  cases q:Nat.beq 2 (l.length*2) with
  |false=>rfl
  |true=>have:=Nat.eq_of_beq_eq_true q;omega
 rw[List.map_set];exact put_in (off:=0) (x':=bdW y) (zKq bdW h) Xd Xd (by show(_&&Nat.beq 2 (l.length*2)&&_)=false;rw[hb];simp) rfl
theorem brev_nil:ydq cfg glK 47 0 [.nils] [] λw hp nw=>w= .tup []/\hp=[]/\nw=0:=by
 intro R;refine gIs 3 O (λk0=>?_);refine gL 0 O ?_;refine gWr 0 O ?_;refine gLo (α:=Nat) 5 (λi=>i=0) (λi=>[(2,.int .i64 (i:Int)),(3,.int .i64 (-1))]) [0] (λi=>0) (0) rfl (rfl) (λi hI=>?_);subst hI;refine gS 8 O (λh1=>?_) (λh1=>?_)
 ·exfalso;simp at h1
 ·refine gO 2 O ?_;refine zcq 1 O ?_;exact fin (.inl rfl) Ent.refl rfl ⟨rfl,rfl,rfl,rfl⟩
theorem brev_s(l:List Bd)(hl:l.length<=1000000)(h1:1<=l.length):ydq cfg glK 47 1 [.sl 0 0 0 l.length 2 none] [(0,33,.arr (l.length*2) 2 (l.map bdW))] λw hp nw=>w= .tup []/\hp=[(0,33,.arr (l.length*2) 2 (l.reverse.map bdW))]/\nw=1:=by
 intro R;refine gIs 3 O (λk0=>?_);refine gL 0 O ?_;refine op_z ((l.length:Int) -1-((0:Nat):Int)) O O Xd ⟨by omega,by omega⟩ ?_;refine zeq 5 O ?_;refine j8q (α:=Nat) (λi=>2*i<=l.length) (λi=>[(2,.int .i64 (i:Int)),(3,.int .i64 ((l.length:Int) -1-(i:Int)))]) [(0,_)] (λi=>[(0,33,.arr (l.length*2) 2 ((vqq l i).map bdW))]) (λi=>l.length-i) (0) ⟨rfl,trivial⟩ (Nat.zero_le _) ⟨rfl,rfl,trivial⟩ (by rw[swap_0]) (λi hI=>?_);refine zEq 8 O ?_;refine gS 0 O (λh1=>?_) (λh1=>?_)
 ·have hi:2*i+1<l.length:=by omega
  obtain⟨x,hx⟩:∃x,l[i]? =some x:=⟨_,List.getElem?_eq_getElem Xd⟩
  obtain⟨y,hy⟩:∃y,l[l.length-1-i]? =some y:=⟨_,List.getElem?_eq_getElem Xd⟩
  have hn:=(Ziq l i).symm;have gx:(vqq l i)[i]? =some x:=by rw[xKq Xd,if_neg Xd,hx]
  have gy:(vqq l i)[l.length-1-i]? =some y:=by rw[xKq Xd,if_neg Xd,hy]
  have gy2:((vqq l i).set i y)[l.length-1-i]? =some y:=by rw[List.getElem?_set_ne Xd];exact gy
  have hst:=swap_step hi hx hy;refine gV (w':=.int .i64 ((l.length-1-i:Nat):Int)) 8 O (by congr 1;omega) ?_;refine gV (w':=.int .i64 ((l.length-1-i:Nat):Int)) 1 O (by congr 1;omega) ?_;refine gP 0 O (yYq (i:=l.length-1-i) O O O O O O O Xd) ?_;refine gM 0 O (z2q O O O (bd_get gy hn Xd)) ?_;refine gP 2 O (yYq (i:=i) O O O O O O O Xd) ?_;refine gM 0 O (z2q O O O (bd_get gx hn Xd)) ?_;refine gP 0 O (yYq (i:=i) O O O O O O O Xd) ?_;refine gM 0 O (jKq O O O O O (bd_put gx hn Xd) rfl) ?_;refine gP 0 O (yYq (i:=l.length-1-i) O O O O O O O Xd) ?_;refine gM 0 O (jKq O O O O O (bd_put gy2 (by rw[List.length_set];exact hn) (by rw[List.length_set];omega)) (congrArg (λq:List Bd=>[(0,33,W.arr (l.length*2) 2 (q.map bdW))]) hst)) ?_;refine gA 5 O (i+1) ?_;refine zcq 1 O ?_;refine op_z ((l.length:Int) -1-((i+1:Nat):Int)) O O Xd ⟨by omega,by omega⟩ ?_;refine run_p 3 O ?_;exact j4q (i+1) Xd Xd ⟨rfl,rfl,trivial⟩ ⟨rfl,trivial⟩ rfl
 ·rw[swap_end Xd Xd];refine zcq 2 O ?_;refine qmq Xi ?_;refine zDq 1 O ?_;exact fin (.inl rfl) Ent.refl rfl ⟨rfl,rfl,rfl,rfl⟩
noncomputable def encB(l:List Lk)(k:Nat):List W:=[.int .i64 ((l.length:Int) -1-(k:Int)),lkA l (l.length-1-k)]
theorem encB_ok(l:List Lk){n:Nat}:∀y∈List.range n,purL (encB l y)=true/\(encB l y).length=2:=λy _=>⟨by simp[encB,purL,purW],rfl⟩
theorem sback_s(l:List Lk)(f:Bool):PS cfg glK 46 [.fz (l.map lkG) 102 f] (.fn 113 [] [.fel (.fz (l.map lkG) 102 f)]):=by
 have hp:=kiq l;refine gI 13 O (λR k0=>?_);refine y4q (fr2:=[(2,_)]) Xy ?_ O O
 (repeat (first|exact trivial|refine And.symm ⟨?_,_,rfl,?_⟩))<;>(repeat (first|exact .nil|refine .cons ?_ ?_|refine .fn ?_ ?_|(refine yxq O ?_ rfl;(first|rfl|(focus (simp;done))))|(refine .sl O ?_ rfl Xi;(first|rfl|(focus (simp;done))))|(refine .pur ?_;(first|rfl|(focus (simp;done))))|refine .agg ?_|refine .arr ?_|refine .tup ?_))
theorem sback_it(l:List Lk)(f:Bool)(hb:l.length<=1000000):y7q cfg glK 113 [.fel (.fz (l.map lkG) 102 f)] ((List.range l.length).map (encB l)):=by
 have e:(l.map lkG).length=l.length:=List.length_map _;refine kXq (fn:=Tryz.f113) O O O (Ob rfl) (λL E R hy k0=>?_);refine zEq 3 O (gZ 0 O e (op_z ((l.length:Int) -1-((0:Nat):Int)) O O Xd ⟨by omega,by omega⟩ (zeq 4 O ?_)));refine ZDq (α:=Nat×Res) (λp=>p.1<=l.length/\Yl cfg glK L E (((List.range l.length).drop p.1).map (encB l)) p.2) (λp=>[(3,.int .i64 ((l.length:Int) -1-(p.1:Int)))]) [(0,_),(1,_)] (λp=>p.2) (λp=>l.length-p.1) ((0,R)) ⟨rfl,rfl,trivial⟩ (⟨Nat.zero_le _,hy⟩) ⟨rfl,trivial⟩ rfl (λp hI=>?_);obtain⟨i,R⟩:=p;obtain⟨hi,hy⟩:=hI;simp only at hi hy⊢;refine zEq 7 O ?_;refine gS 0 O (λh1=>?_) (λh1=>?_)
 ·have hi':i<l.length:=by omega
  obtain⟨x,hx⟩:∃x,l[l.length-1-i]? =some x:=⟨_,List.getElem?_eq_getElem Xd⟩
  rw[vKq (uLq hi'),List.map_cons,show encB l i=[.int .i64 ((l.length:Int) -1-(i:Int)),lkG x] by unfold encB;rw[Yhq hx]] at hy;refine gV (w':=.int .i64 ((l.length-1-i:Nat):Int)) 9 O (by congr 1;omega) (gP 0 O (ymq (i:=l.length-1-i) O O O O O O O (zKq lkG hx)) ?_);refine gSo 1 O (qdq O O O (hy) (λb R1 hb=>?_));refine gS 3 O (λh2=>?_) (λh2=>?_)
  ·cases b with
   |true=>cases h2
   |false=>
    exact yrq 3 O (gO 0 O (zcq 1 O (jvq Qt rfl hb)))
  ·cases b with
   |false=>exact absurd rfl h2
   |true=>
    exact yrq 5 O (op_z ((l.length:Int) -1-((i+1:Nat):Int)) O O Xd ⟨by omega,by omega⟩ (run_p 2 O (gAg 0 O ((i+1,R1)) (⟨hi',hb⟩) Ya)))
 ·refine gO 2 O (zcq 1 O ?_);obtain rfl:i=l.length:=by omega
  rw[List.drop_of_length_le Xg] at hy;exact jvq (.inl rfl) rfl hy
def bdL(x:Lk):Bd:=(x.ds,x.xs)
def jXq(c:Ch)(i:Nat):List Bd:=(c.links.drop (i+1)).map bdL
noncomputable def rolP(u:W)(L:List Bd):HpW:=[(0,29,u),(1,46,gW 2 2 (L.map bdW))]
noncomputable def rolG(L:List Bd):HpW:=gH 2 33 2 (L.map bdW)
theorem gl_get(b e:Nat)(l:List W):zZq 50 (gW b e l) 0 1 false=some (gW b e l):=by cases l<;>rfl
theorem gl_put(b e:Nat)(l:List W)(b' n:Nat):qaq 50 (gW b e l) 0 (.sl b' 0 0 n e none)=some (.sl b' 0 0 n e none):=by cases l<;>rfl
def rolN:List Bd->Nat
 |[]=>2
 |_::_=>3
def RolQ(v:Vw)(h:Int):W->HpW->Nat->Prop:=λw hp nw=>nw=3/\((∃i x,h=((i:Nat):Int)/\v.final<=h/\v.ch.links[i]? =some x/\w= .int .i64 0/\hp=rolG (jXq v.ch i)++rolP (vwG {v with ch:=cutC v.ch i x}) (jXq v.ch i))\/(¬InV v h/\w= .int .i64 170/\hp=rolG []++rolP (vwG v) []))
theorem vroll1_s(v:Vw)(hm:MayV v)(hc:OkC v.ch)(hs:SmallC v.ch)(h:Int):ydq cfg glK 45 2 [.ptr 0 0,.fel (.int .i64 h),.ptr 1 0] [(0,29,vwG v),(1,46,.nils)] (RolQ v h):=by
 obtain⟨hM,h0,h1,_⟩:=hm;have hl:=hs.len;intro R;refine gIs 10 O (λk0=>?_);skip
 skip
 refine gSo 0 O (zSq (ext:=[0]) (ws:=[.ptr 0 0,.int .i64 h]) O O O O O (vwithin_s v h) Xn Xo Xg (vw_hand v rfl) O ?_);rintro w hp1 nw1 ⟨rfl,rfl,rfl⟩;rw[xmq (zWq v)];by_cases hI:InV v h
 ·rw[decide_eq_true hI];have hIV:=hI;obtain⟨i0,rfl⟩:=Int.eq_ofNat_of_zero_le (show 0<=h by have:=hI.1;omega);have hi0:i0<v.ch.links.length:=by have:=hI.2;omega
  obtain⟨x0,hx0⟩:∃x,v.ch.links[i0]? =some x:=⟨_,List.getElem?_eq_getElem hi0⟩
  obtain⟨ls,hls⟩:∃ls,v.ch.links.drop (i0+1)=ls:=⟨_,rfl⟩
  have hlen:ls.length<=1000000:=by rw[<-hls,List.length_drop];omega
  have ecut:((v.ch.links.map lkG).drop (i0+1)).take ((v.ch.links.map lkG).length-(i0+1))=ls.map lkG:=by
   rw[List.take_of_length_le Xg,<-List.map_drop,hls]
  obtain⟨rb,hrb⟩:∃rb,(ls.map bdL).reverse=rb:=⟨_,rfl⟩
  have hrl:rb.length=ls.length:=by rw[<-hrb,List.length_reverse,List.length_map]
  have hrv:rb.reverse=jXq v.ch i0:=by rw[<-hrb,List.reverse_reverse];unfold jXq;rw[hls]
  skip
  skip
  refine gA 15 O (i0+1) (gP 0 O (cut_fz (l:=i0+1) (h:=(v.ch.links.map lkG).length) (ys:=ls.map lkG) (g:=false) O O O O O O O (by rw[List.length_map];omega) (Nat.le_refl _) ecut rfl) (gC 0 O (sback_s ls false) (zcq 3 O ?_)));refine YKq (α:=List Bd) (encB ls) (List.range ls.length) (λi a=>a=rb.take i) (λa=>rolP (vwG v) a++rolG a) (λa=>rolN a) (λa=>R) ([]) rfl Xk (sback_it ls false hlen) (encB_ok ls) (rfl) O O O (λi a y hy hI=>?_) (λa hI=>?_)
  ·subst hI;have hi:i<ls.length:=by have:=qZq hy;simpa using this
   obtain rfl:i=y:=by rw[uLq hi] at hy;exact Option.some.inj hy
   obtain⟨x,hx⟩:∃x,ls[ls.length-1-i]? =some x:=⟨_,List.getElem?_eq_getElem Xd⟩
   have hrx:rb[i]? =some (bdL x):=by rw[<-hrb,List.getElem?_reverse (by simpa using hi),List.getElem?_map,List.length_map,hx];rfl
   obtain⟨b0,r0,rfl⟩:∃b0 r0,rb=b0::r0:=by
    cases rb with
    |nil=>simp at hrl;omega
    |cons b r=>exact⟨b,r,rfl⟩
   rw[show encB ls i=[.int .i64 ((ls.length:Int) -1-(i:Int)),lkG x] by unfold encB;rw[Yhq hx]];skip
   cases i with
   |zero=>
    obtain rfl:b0=bdL x:=Option.some.inj hrx;rw[show rolN ((bdL x::r0).take 0)=2 from rfl];refine zEq 4 O (xXq (zEq 6 O (gM 0 O (yRq O O (uxq (k:=ti33) (news:=[bdW (bdL x)]) O O O O (qfq O O O O) Xg (by show 1*48<=_;decide) (by show 1<=_;decide))) (zcq 3 O (xnq [bdL x] rfl ?_)))));have hne0:[bdL x].map bdW≠[]:=by simp
    unfold rolP rolG;rw[kjq hne0,kkq hne0];refine yeq (b:=2) (k:=4) Xn Xn Xn trivial ⟨⟨by omega,?_,zbq (zWq v)⟩,⟨by omega,rfl,rfl⟩,⟨by omega,?_,zbq (show purW (.arr _ _ ([bdL x].map bdW))=true from xBq _)⟩,trivial⟩ Xg
    ·rw[zdq (zWq v)];rfl
    ·rw[zdq (show purW (.arr _ _ ([bdL x].map bdW))=true from xBq _)];rfl
   |succ i=>
    have es:((b0::r0).take (i+1+1)).map bdW=((b0::r0).take (i+1)).map bdW++[bdW (bdL x)]:=by rw[List.take_add_one,hrx,List.map_append];rfl
    have ep:purL (((b0::r0).take (i+1)).map bdW++[bdW (bdL x)])=true:=by rw[<-es];exact xBq _
    have el:(((b0::r0).take (i+1)).map bdW).length<=1000000:=by rw[List.length_map,List.length_take];omega
    have hne:((b0::r0).take (i+1)).map bdW++[bdW (bdL x)]≠[]:=List.append_ne_nil_of_right_ne_nil _ Xg;rw[show rolN ((b0::r0).take (i+1))=3 from rfl];refine zEq 4 O (xXq (zEq 2 O (gM 0 O (z2q O O O (gl_get 2 2 _)) (gM 3 O (yRq O O (vhq [_,_,_,_] (k:=ti33) (news:=[bdW (bdL x)]) O O O O O (qfq O O O O) Xg (by show((((b0::r0).take (i+1)).map bdW).length+1)*48<=_;omega) (by show(((b0::r0).take (i+1)).map bdW).length+1<=_;omega) rfl Xg)) (gM 0 O (jKq O O O O O (gl_put 2 2 _ _ _) rfl) (zcq 2 O (xnq ((b0::r0).take (i+1+1)) O ?_)))))));unfold rolP rolG;rw[es,kjq hne,kkq hne];refine yeq (b:=2) (k:=5) Xn Xn Xn trivial ⟨⟨by omega,?_,zbq (zWq v)⟩,⟨by omega,rfl,rfl⟩,⟨by omega,?_,zbq ep⟩,trivial⟩ Xg
    ·rw[zdq (zWq v)];rfl
    ·rw[zdq (by exact ep)];rfl
  ·rw[List.length_range,List.take_of_length_le Xd] at hI;subst hI;skip
   cases a with
   |nil=>
    refine zDq 4 O (gM 0 O (z2q O O O (gl_get 2 2 _)) ?_);skip
    refine gSo 0 O (ZVq O O O O O O brev_nil ?_);rintro w hp1 nw1 ⟨rfl,rfl,rfl⟩;skip
    exact gC 10 O (ccut_s v.ch hc hs i0 hM hx0) (zcq 16 O (fin Qt (QGq (fr2:=[(4,.int .i64 0)]) ⟨rfl,trivial⟩) rfl ⟨rfl,rfl,.inl ⟨i0,x0,rfl,hIV.1,hx0,rfl,by rw[<-hrv];rfl⟩⟩))
   |cons b r=>
    have hb1:((b::r).map bdW).length=(b::r).length:=List.length_map _;have hb2:(b::r).map bdW≠[]:=by simp
    have hb3:((b::r).reverse.map bdW).length=(b::r).length:=by rw[List.length_map,List.length_reverse]
    have hb4:(b::r).reverse.map bdW≠[]:=by simp
    have epA:purW (.arr ((b::r).length*2) 2 ((b::r).map bdW))=true:=xBq _;have epB:purW (.arr ((b::r).length*2) 2 ((b::r).reverse.map bdW))=true:=xBq _;unfold rolP rolG;rw[kjq hb2,kkq hb2,hb1];refine zDq 5 O ?_;skip
    refine gSo 0 O (zSq (ext:=[2]) (ws:=[.sl 0 0 0 (b::r).length 2 none]) O O O O O (brev_s (b::r) Xd Xg) Xn (by intro b hb;simp only[List.mem_cons,List.not_mem_nil,or_false] at hb;subst hb;show 2<3;decide) Xg (kYq (by rw[zdq epA];rfl) (zbq epA)) O ?_);rintro w hp1 nw1 ⟨rfl,rfl,rfl⟩;rw[xmq epB];skip
    exact gC 10 O (ccut_s v.ch hc hs i0 hM hx0) (zcq 16 O (fin Qt Ent.refl rfl ⟨rfl,rfl,.inl ⟨i0,x0,rfl,hIV.1,hx0,rfl,by rw[<-hrv];unfold rolP rolG;rw[kjq hb4,kkq hb4,hb3];rfl⟩⟩))
 ·rw[decide_eq_false hI];skip
  skip
  exact zcq 11 O (fin Qt (QGq (fr2:=[(4,.int .i64 170)]) ⟨rfl,trivial⟩) rfl ⟨rfl,rfl,.inr ⟨hI,rfl,rfl⟩⟩)
noncomputable def rolX(a b c:Nat)(u:W)(L:List Bd):HpW:=gH c 33 2 (L.map bdW)++[(a,29,u),(b,46,gW c 2 (L.map bdW))]
theorem uIq(τ:Nat->Nat):∀(a b:HpW),renH τ (a++b)=renH τ a++renH τ b
 |[],b=>rfl
 |(k,ty,w)::a,b=>by
  show(τ k,ty,renW τ w)::renH τ (a++b)=_;rw[uIq τ a b];rfl
theorem uHq(τ:Nat->Nat)(a b c:Nat){u:W}(hu:purW u=true)(L:List Bd):renH τ (rolX a b c u L)=rolX (τ a) (τ b) (τ c) u L:=by
 unfold rolX;rw[uIq,renH_g _ _ _ _ (xBq L)];show _++[(τ a,_,renW τ u),(τ b,_,renW τ (gW c 2 _))]=_;rw[zdq hu,ren_g]
noncomputable def trW(h:Int):W:=.agg 1 [.fn 45 [] [.fel (.int .i64 h),.ptr 0 0]]
noncomputable def turnH(v:Vw)(h:Int)(u:W):HpW:=[(3,29,u),(2,29,vwG v),(1,108,trW h)]
noncomputable def Zdq(v:Vw)(h:Int):Nat:=if¬MayV v then 8 else if v.number=1073741823 then 9 else 170
structure CanRoll(v:Vw)(h:Int):Prop where
 may:MayV v
 num:v.number≠1073741823
 is:InV v h
noncomputable instance(v:Vw)(h:Int):Decidable (CanRoll v h):=Classical.propDecidable _
noncomputable def xZq(v:Vw)(i:Nat)(x:Lk):Vw:=upV {v with ch:=cutC v.ch i x}
def OfR(v:Vw)(h:Int):W->HpW->Nat->Prop:=λw hp nw=>(CanRoll v h/\∃i x,h=((i:Nat):Int)/\v.ch.links[i]? =some x/\w= .tup [vwG (xZq v i x),.int .i64 0]/\hp=rolX 4 0 5 (vwG (xZq v i x)) (jXq v.ch i)++turnH v h (vwG (xZq v i x))/\nw=6)\/(¬CanRoll v h/\w= .tup [noVw,.int .i64 (Zdq v h:Nat)]/\((hp=rolX 4 0 5 (vwG v) []++turnH v h noVw/\nw=6)\/(hp=turnH v h noVw++[(0,46,.nils)]/\nw=4)))
theorem vofr_s(v:Vw)(h:Int)(hc:OkC v.ch)(hs:SmallC v.ch):ydq cfg glK 39 1 [trW h,vwG v] [(0,46,.nils)] (OfR v h):=by
 intro R;by_cases hm:MayV v
 ·have hone:=hm.1.one;by_cases hn:v.number=1073741823
  ·skip
   refine gIs 13 O (λk0=>?_);exact gC 0 O (zXq (w':=.int .i64 0) (qBq v hc) Yk) (gFa 0 O (gT 8 O (eqI_iff.2 (hn)) (zcq 14 O (fin Qt Ent.refl rfl ⟨rfl,.inr ⟨λq=>q.num hn,by unfold Zdq;rw[if_neg (λq=>q hm),if_pos hn];rfl,.inr ⟨rfl,rfl⟩⟩⟩))))
  ·skip
   refine gIs 13 O (λk0=>?_);refine gC 0 O (zXq (w':=.int .i64 0) (qBq v hc) Yk) (gFa 0 O (gF 8 O (eqI_not.2 (hn)) (gC 10 O (vtwin_s v hs (λq=>by rw[q] at hone;cases hone)) (zcq 9 O ?_))));skip
   skip
   refine gSo 0 O (zSq (ext:=[4,0]) (ws:=[.ptr 0 0,.fel (.int .i64 h),.ptr 1 0]) O O O O O (vroll1_s v hm hc hs h) Xn Xo Xg (ukq (by rw[zdq (zWq v)];rfl) rfl (zbq (zWq v)) rfl) O ?_);rintro w hp1 nw1 ⟨rfl,⟨i,x,rfl,hf,hx,rfl,rfl⟩|⟨hI,rfl,rfl⟩⟩
   ·rw[show rolG (jXq v.ch i)++rolP (vwG {v with ch:=cutC v.ch i x}) (jXq v.ch i)=rolX 0 1 2 (vwG {v with ch:=cutC v.ch i x}) (jXq v.ch i) from rfl,uHq _ _ _ _ (zWq _)];have hca:CanRoll v (i:Int):=⟨hm,hn,hf,by have:=qZq hx;omega⟩;have hnn:=hm.2.2.2;skip
    skip
    cases hb:(jXq v.ch i) with
    |nil=>
     exact zeq 6 O (gFa 0 O (zcq 9 O (op_z (v.number+1) O O O ⟨by omega,by omega⟩ (zeq 12 O (fin Qt Ent.refl rfl ⟨rfl,.inl ⟨hca,i,x,rfl,hx,rfl,by rw[hb];rfl,rfl⟩⟩)))))
    |cons b r=>
     exact zeq 6 O (gFa 0 O (zcq 9 O (op_z (v.number+1) O O O ⟨by omega,by omega⟩ (zeq 12 O (fin Qt Ent.refl rfl ⟨rfl,.inl ⟨hca,i,x,rfl,hx,rfl,by rw[hb];rfl,rfl⟩⟩)))))
   ·rw[show rolG []++rolP (vwG v) []=rolX 0 1 2 (vwG v) [] from rfl,uHq _ _ _ _ (zWq _)];skip
    exact gTa 6 O (zcq 13 O (fin Qt Ent.refl rfl ⟨rfl,.inr ⟨λq=>hI q.is,by unfold Zdq;rw[if_neg (λq=>q hm),if_neg hn];rfl,.inl ⟨rfl,rfl⟩⟩⟩))
 ·skip
  refine gIs 13 O (λk0=>?_);exact gC 0 O (zXq (w':=.int .i64 8) (qBq v hc) Qk) (gTa 0 O (zcq 14 O (fin Qt Ent.refl rfl ⟨rfl,.inr ⟨λq=>hm q.may,by unfold Zdq;rw[if_pos hm];rfl,.inr ⟨rfl,rfl⟩⟩⟩)))
def RollA(v:Vw)(h:Int):W->Prop:=λw=>(CanRoll v h/\∃i x,h=((i:Nat):Int)/\v.ch.links[i]? =some x/\w= .tup [vwG (xZq v i x),.fz ((jXq v.ch i).map bdW) 2 false,.int .i64 0])\/(¬CanRoll v h/\w= .tup [noVw,.nils,.int .i64 (Zdq v h:Nat)])
theorem rollE_no{v:Vw}{h:Int}:Zdq v h≠0:=by
 unfold Zdq;split
 ·decide
 ·split<;>decide
theorem vroll_s(v:Vw)(h:Int)(hc:OkC v.ch)(hs:SmallC v.ch):PE cfg glK 13 [vwG v,.int .i64 h] (RollA v h):=by
 refine gIe 14 O (λR k0=>?_);skip
 refine xdq (λ_=>jTq 1 [(4,.ptr 2 0),(5,.ptr 3 0),(9,.agg 1 [.fn 45 [] [.fel (.int .i64 h),.ptr 3 0]]),(10,vwG v)] [(3,46,.nils),(2,29,noVw),(0,29,vwG v)] O O (Nat.zero_le _) ⟨⟨_,rfl,.ptrK rfl⟩,⟨_,rfl,.ptrK rfl⟩,⟨_,rfl,.agg (.cons (.fn .nil (.cons (.ptr (n:=1) (ag:=false) O O O) (.cons (.ptrK rfl) .nil))) .nil)⟩,⟨_,rfl,.pur (zWq v)⟩,trivial⟩ ⟨⟨by omega,_,rfl,.pur rfl⟩,⟨by omega,_,rfl,.pur rfl⟩,⟨by omega,_,rfl,.pur (zWq v)⟩,trivial⟩ Xg) ?_;skip
 refine zqq rfl (zSq (ext:=[3]) (ws:=[trW h,vwG v]) O O O O (by show [W.agg 1 [.fn _ [] [.fel (.int .i64 h),.ptr 3 0]],vwG v]=[W.agg 1 [.fn _ [] [.fel (.int .i64 h),.ptr 3 0]],renW _ (vwG v)];rw[zdq (zWq v)]) (vofr_s v h hc hs) Xn Xo Xg (kYq O O) (by show(true&&(refB 1 (vwG v)&&true))=true;rw[zbq (zWq v)];rfl) ?_);rintro w hp1 nw1 (⟨hca,i,x,rfl,hx,rfl,rfl,rfl⟩|⟨hno,rfl,⟨rfl,rfl⟩|⟨rfl,rfl⟩⟩)
 ·rw[uIq,uHq _ _ _ _ (zWq _),zdq (show purW (.tup [vwG (xZq v i x),.int .i64 0])=true by show(purW (vwG _)&&_)=true;rw[zWq];rfl)];skip
  skip
  cases hb:(jXq v.ch i) with
  |nil=>
   exact zeq 11 O (gFa 0 O (zcq 15 O (yqq (w':=.tup [vwG (xZq v i x),.fz [] 2 false,.int .i64 0]) Qt rfl (.tup (.cons (.pur (zWq _)) (.cons .nilfz (.cons (.pur rfl) .nil)))) (by show(purW (vwG _)&&_)=true;rw[zWq];rfl) (.inl ⟨hca,i,x,rfl,hx,by rw[hb];rfl⟩))))
  |cons b r=>
   exact zeq 11 O (gFa 0 O (zcq 15 O (yqq (w':=.tup [vwG (xZq v i x),.fz ((b::r).map bdW) 2 false,.int .i64 0]) Qt rfl (.tup (.cons (.pur (zWq _)) (.cons (.sl (full:=false) (c:=.arr (((b::r).map bdW).length*2) 2 ((b::r).map bdW)) rfl (show purL ((b::r).map bdW)=true from xBq _) (zpq Xn O O) Xi) (.cons (.pur rfl) .nil)))) (by show(purW (vwG _)&&(purL ((b::r).map bdW)&&_))=true;rw[zWq,xBq];rfl) (.inl ⟨hca,i,x,rfl,hx,by rw[hb]⟩))))
 ·have hz:= @rollE_no v h;rw[uIq,uHq _ _ _ _ (zWq _)];skip
  exact zeq 11 O (gT 0 O (congrArg not (eqI_not.2 Xd)) (zcq 14 O (yqq (w':=.tup [noVw,.nils,.int .i64 (Zdq v h:Nat)]) Qt rfl (.pur rfl) rfl (.inr ⟨hno,rfl⟩))))
 ·have hz:= @rollE_no v h;skip
  exact zeq 11 O (gT 0 O (congrArg not (eqI_not.2 Xd)) (zcq 14 O (yqq (w':=.tup [noVw,.nils,.int .i64 (Zdq v h:Nat)]) Qt rfl (.pur rfl) rfl (.inr ⟨hno,rfl⟩))))
theorem vhead_s(v:Vw)(hc:OkC v.ch)(hm:MayV v){y:Lk}(hy:v.ch.links[v.ch.links.length-1]? =some y):PS cfg glK 57 [vwG v] (.tup [.int .i64 y.hdr.height,dW (hashD y.hdr),.int .i64 0]):=by
 obtain⟨y2,hy2,_,hl⟩:=hm.1.last;obtain rfl:=Option.some.inj (hy.symm.trans hy2);exact gI 12 O (λR k0=>gC 0 O (zXq (w':=.int .i64 0) (qBq v hc) Yk) (gFa 6 O (gC 9 O (YOq v.ch hc hm.1 hy) (gC 11 O (Ykq y.hdr hl.hdr) (gQa 19 O)))))
theorem MayV.conf{v:Vw}(hm:MayV v){h:Int}(hI:InV v h)(hn:v.number≠1073741823):MayV (upV {v with final:=h}):=by
 obtain⟨a,b,c,d,e⟩:=hm;refine⟨a,?_,hI.2,?_,?_⟩
 ·have:=hI.1;show 0<=h;omega
 ·show 0<=v.number+1;omega
 ·show v.number+1<=_;omega
theorem MayV.roll{v:Vw}{i:Nat}{x:Lk}(hc:CanRoll v (i:Int))(hx:v.ch.links[i]? =some x):MayV (xZq v i x):=by
 obtain⟨⟨a,b,c,d,e⟩,hn,h1,h2⟩:=hc;refine⟨a.cut hx,b,?_,?_,?_⟩
 ·show v.final<((v.ch.links.take (i+1)).length:Int);rw[cutl_len hx];omega
 ·show 0<=v.number+1;omega
 ·show v.number+1<=_;omega
theorem MayV.seal{v:Vw}{ds:List Depo}{xs:List Tx}{box:Dig}{y:Lk}{t':Tree}{t1:T}{L:List Rec}(hm:MayV v)(hn:v.number≠1073741823)(h:Adds v.ch ds xs box y t' t1 L):MayV (upV {v with ch:=addC v.ch t' (jrq y.hdr t1 L) ds xs L}):=by
 obtain⟨a,b,c,d,e⟩:=hm;refine⟨h.mayc,b,?_,?_,?_⟩
 ·show v.final<((v.ch.links++[_]).length:Int);rw[List.length_append];show _<((_+1:Nat):Int);omega
 ·show 0<=v.number+1;omega
 ·show v.number+1<=_;omega
structure OneV(v:Vw):Prop where
 ok:OkC v.ch
 small:SmallC v.ch
 nodes:v.ch.tree.nodes.length<=200000
 may:MayV v
 num:v.number=1
 fin:v.final=0
 len:v.ch.links.length=2
theorem one18_s:PE cfg glK 58 [] (λw=>∃v,OneV v/\w=vwG v):=by
 refine gIe 7 O (λR k0=>?_);skip
 refine gSo 0 O (kJq O O O O O (pe_view (.cons .nilfz .nil) (cnew_s [] false Xn)) O ?_);rintro w hw (⟨hn,rfl⟩|⟨_,t,n,t0,hA,hall,hn0,rfl⟩)
 ·exact absurd okB_nil hn
 obtain rfl:t0= .nil:=T.uniq qQq hA.toIsT.ok rfl hall;have hl:t.nodes.length<=257*0:=hn0;obtain⟨hok,hsm⟩:=newC_ok hA;have hM:=newC_is hA yzq;have hca:CanAdd (newC t .nil) [] [] yzq:=⟨hM.toMayC,by show 1<256;decide,by decide,by intro q;cases q⟩;have hmv:MayV ⟨0,false,0,newC t .nil⟩:=⟨hM.toMayC,by show(0:Int)<=0;decide,by show(0:Int)<1;decide,by show(0:Int)<=0;decide,by show(0:Int)<=1073741823;decide⟩;skip
 refine gV 13 O qJq ?_;skip
 refine gSo 0 O (kJq O O O O O (pe_view (.cons (.pur (zWq ⟨0,false,0,newC t .nil⟩)) (.cons (.agg (.cons .nilfz (.cons .nilfz .nil))) (.cons (.pur (qMq _)) .nil))) (vseal_s ⟨0,false,0,newC t .nil⟩ hok hsm (by show t.nodes.length<=_;omega) [] [] bodN yzq)) Yu ?_);rintro w hw (⟨u,_,hnum,(⟨_,_,y,t',t1,L,hadd,hgr,rfl⟩|⟨hno,_⟩),rfl⟩|⟨k,u,_,_,hk,(⟨rfl,_⟩|⟨hno,_⟩),rfl⟩|⟨hno,rfl⟩|⟨_,hno,rfl⟩)
 ·skip
  refine zcq 15 O ?_;refine yqq (w':=vwG (upV {(⟨0,false,0,newC t .nil⟩:Vw) with ch:=addC (newC t .nil) t' (jrq y.hdr t1 L) [] [] L})) Qt rfl (.pur (zWq _)) (zWq _) ⟨_,⟨hadd.okc hok bodN _,hadd.smallc hsm _,?_,hmv.seal hnum hadd,rfl,rfl,rfl⟩,rfl⟩;have hgr:t'.nodes.length<=t.nodes.length+21000:=hgr;show t'.nodes.length<=_;omega
 ·exact absurd hca hno
 ·exact absurd rfl hk
 ·exact absurd hca hno
 ·exact absurd hmv hno
 ·exact absurd hno (by show¬(0:Int)=1073741823;decide)
theorem OneV.facts{v:Vw}(o:OneV v):∃a b,v.ch.links[0]? =some a/\v.ch.links[1]? =some b/\a.hdr.height=0/\b.hdr.height=1:=by
 have hl:=o.len;obtain⟨a,ha⟩:∃a,v.ch.links[0]? =some a:=⟨_,List.getElem?_eq_getElem Xd⟩
 obtain⟨b,hb⟩:∃b,v.ch.links[1]? =some b:=⟨_,List.getElem?_eq_getElem Xd⟩
 exact⟨a,b,ha,hb,(o.may.1.link 0 a ha).height,(o.may.1.link 1 b hb).height⟩
theorem vconf_ok{v:Vw}(hc:OkC v.ch)(hs:SmallC v.ch)(hm:MayV v)(hn:v.number≠1073741823){h:Int}(hI:InV v h):PE cfg glK 11 [vwG v,.int .i64 h] (· = .tup [vwG (upV {v with final:=h}),.int .i64 0]):=
 Ycq (vconf_s v hc hs h) λw hA=>by
  rcases hA with ⟨u,_,_,(⟨_,_,rfl⟩|⟨q,_⟩),rfl⟩|⟨k,u,_,_,hk,(⟨rfl,_⟩|⟨_,q⟩),rfl⟩|⟨q,rfl⟩|⟨_,q,rfl⟩
  ·rfl
  ·cases q
  ·exact absurd rfl hk
  ·exact absurd hI q
  ·exact absurd hm q
  ·exact absurd q hn
theorem vroll_ok{v:Vw}(hc:OkC v.ch)(hs:SmallC v.ch){i:Nat}{x:Lk}(hx:v.ch.links[i]? =some x)(h:CanRoll v (i:Int)):PE cfg glK 13 [vwG v,.int .i64 (i:Int)] (· = .tup [vwG (xZq v i x),.fz ((jXq v.ch i).map bdW) 2 false,.int .i64 0]):=
 Ycq (vroll_s v i hc hs) λw hA=>by
  rcases hA with ⟨_,j,y,e,hy,rfl⟩|⟨q,_⟩
  ·obtain rfl:i=j:=by omega
   obtain rfl:=Option.some.inj (hx.symm.trans hy);rfl
  ·exact absurd h q
theorem vroll_no{v:Vw}(hc:OkC v.ch)(hs:SmallC v.ch){h:Int}(hn:¬CanRoll v h):PE cfg glK 13 [vwG v,.int .i64 h] (· = .tup [noVw,.nils,.int .i64 (Zdq v h:Nat)]):=
 Ycq (vroll_s v h hc hs) λw hA=>by
  rcases hA with ⟨q,_⟩|⟨_,rfl⟩
  ·exact absurd q hn
  ·rfl
theorem OneV.no{v:Vw}(o:OneV v):¬CanRoll (upV {v with final:=1}) ((0:Nat):Int)/\Zdq (upV {v with final:=1}) ((0:Nat):Int)=170:=by
 have hn:=o.num;have hl:=o.len;have hm:MayV (upV {v with final:=1}):=o.may.conf ⟨by rw[o.fin];decide,by omega⟩ Xd;refine⟨λq=>absurd q.is.1 (by show¬(1:Int)<=0;decide),?_⟩;unfold Zdq;rw[if_neg (λq=>q hm),if_neg (by show¬v.number+1=1073741823;omega)]
theorem OneV.can{v:Vw}(o:OneV v):CanRoll v ((0:Nat):Int)/\(jXq v.ch 0).length=1:=by
 have hn:=o.num;have hl:=o.len;refine⟨⟨o.may,by omega,by rw[o.fin];decide,by rw[hl];decide⟩,by unfold jXq;rw[List.length_map,List.length_drop,hl]⟩
theorem xCq:PS cfg glK 21 [] (.bool true):=by
 refine gI 7 O (λR k0=>gE 0 O (one18_s) ?_);rintro w hw ⟨v1,o1,rfl⟩;obtain⟨a0,a1,p1,p2,p3,p4⟩:=o1.facts
 refine gC 0 O (vhead_s v1 o1.ok o1.may (y:=a1) (by rw[o1.len];exact p2)) (gE 12 O (one18_s) ?_);rintro w hw ⟨v2,o2,rfl⟩;have n2:=o2.num;have l2:=o2.len;obtain⟨r1,r2⟩:=o2.no
 refine gE 0 O ((vconf_ok o2.ok o2.small o2.may Xd (h:=1) ⟨by rw[o2.fin];decide,by omega⟩)) ?_;rintro w hw rfl;refine gE 11 O ((vroll_no (v:=upV {v2 with final:=1}) o2.ok o2.small r1)) ?_;rintro w hw rfl;refine gE 12 O (one18_s) ?_;rintro w hw ⟨v3,o3,rfl⟩;have n3:=o3.num;obtain⟨c0,c1,u1,u2,u3,u4⟩:=o3.facts;obtain⟨k1,k2⟩:=o3.can;have k3:((jXq v3.ch 0).map bdW).length=1:=(List.length_map _).trans k2
 refine gE 0 O ((vroll_ok o3.ok o3.small u1 k1)) ?_;rintro w hw rfl;exact gC 13 O (vhead_s (xZq v3 0 c0) (o3.ok.cut 0 c0) (MayV.roll k1 u1) (y:=c0) (by show(v3.ch.links.take 1)[(v3.ch.links.take 1).length-1]? =_;rw[cutl_len u1];exact take_at u1)) (gTa 13 O (gT 2 O (eqI_iff.2 (p4)) (gTa 3 O (gTa 4 O (gT 4 O (eqI_iff.2 ((by show v2.number+1=2;omega))) (gT 3 O (eqI_iff.2 ((congrArg (λq:Nat=>(q:Int)) r2))) (gTa 3 O (gT 4 O (eqI_iff.2 ((by show v3.number+1=2;omega))) (gZ 3 O k3 (gTa 0 O (gTa 3 O (gT 3 O (eqI_iff.2 (u3)) (gQa 5 O)))))))))))))
end
section
attribute [local irreducible] CoW OpW FlW Step Spec
attribute [local simp] qVq
variable {G:Nat->Option W}
noncomputable def rrefW(c:Nat):W:=.tup [.nils,hdW hdZ,.nils,.int .i64 (c:Int)]
@[simp] theorem rrefW_pur(c:Nat):purW (rrefW c)=true:=by simp[rrefW,purW,purL]
end
section
attribute [local irreducible] CoW OpW FlW Step Spec
variable {G:Nat->Option W}
noncomputable instance(a b:Ch):Decidable (a=b):=Classical.propDecidable _
noncomputable instance(a b:Node):Decidable (a=b):=Classical.propDecidable _
end
section
attribute [local irreducible] CoW OpW FlW Step Spec
attribute [local simp] qVq
variable {G:Nat->Option W}
noncomputable instance(a b:Lk):Decidable (a=b):=Classical.propDecidable _
end
section
attribute [local irreducible] CoW OpW FlW Step Spec
theorem proof_shape(t0:T)(k:Dig):∃a b c d e,xcq t0 k= .agg 67 [a,b,c,d,e]:=by
 unfold xcq;split
 ·split<;>exact⟨_,_,_,_,_,rfl⟩
 ·exact⟨_,_,_,_,_,rfl⟩
@[simp] theorem proofW_pur(t0:T)(k:Dig):purW (xcq t0 k)=true:=by
 unfold xcq prG;split
 ·split<;>simp[purW,purL]
 ·simp[purW,purL]
noncomputable def prZ:W:=prG yzq 0 yzq (bW []) (.fz [] 32 false)
theorem Zoq{blk:Nat->Option W}:View blk (.agg 67 [.arr 32 1 (List.replicate 32 (.int .u8 (.ofNat 0))),.int .u8 0,.arr 32 1 (List.replicate 32 (.int .u8 (.ofNat 0))),.nils,.nils]) prZ:=.agg (.cons y8q (.cons (.pur rfl) (.cons y8q (.cons .nilfz (.cons .nilfz .nil)))))
def TolV(v:Vw)(win h:Int):Prop:=0<=h/\h<(v.ch.links.length:Int)/\(v.ch.links.length:Int) -1-h<win
noncomputable instance(v:Vw)(win h:Int):Decidable (TolV v win h):=Classical.propDecidable _
theorem vproof_no(v:Vw)(hc:OkC v.ch)(hm:¬MayV v)(win h:Int)(k:Dig):PS cfg glK 22 [vwG v,.int .i64 win,.int .i64 h,dW k] (.tup [dW yzq,prZ,.int .i64 8]):=by
 exact gIv 13 O (λR k0=>gC 0 O (zXq (w':=.int .i64 8) (qBq v hc) Qk) (gTa 6 O (zcq 15 O (k2q Qt rfl (.tup (.cons y8q (.cons Zoq (.cons (.pur rfl) .nil))))))))
theorem vproof_gone(v:Vw)(hc:OkC v.ch)(hm:MayV v)(win h:Int)(k:Dig)(hg:¬TolV v win h):PS cfg glK 22 [vwG v,.int .i64 win,.int .i64 h,dW k] (.tup [dW yzq,prZ,.int .i64 180]):=by
 have e:(v.ch.links.map lkG).length=v.ch.links.length:=List.length_map _;have hl:=hc.len;have h1:=hm.1.one;by_cases ha:h<0
 ·skip
  exact gIv 13 O (λR k0=>gC 0 O (zXq (w':=.int .i64 0) (qBq v hc) Yk) (gFa 6 O (gZ 10 O e (gA 0 O (v.ch.links.length-1) (gT 7 O (ltI_iff.2 (ha)) (zcq 26 O (k2q Qt rfl (.tup (.cons y8q (.cons Zoq (.cons (.pur rfl) .nil)))))))))))
 ·by_cases hb:(v.ch.links.length:Int)<=h
  ·skip
   exact gIv 13 O (λR k0=>gC 0 O (zXq (w':=.int .i64 0) (qBq v hc) Yk) (gFa 6 O (gZ 10 O e (gA 0 O (v.ch.links.length-1) (gF 7 O (ltI_not.2 (ha)) (gT 3 O (ltI_iff.2 Xd) (zcq 22 O (k2q Qt rfl (.tup (.cons y8q (.cons Zoq (.cons (.pur rfl) .nil))))))))))))
  ·have hw:¬((v.ch.links.length:Int) -1-h<win):=λq=>hg ⟨by omega,by omega,q⟩
   obtain⟨i,rfl⟩:=Int.eq_ofNat_of_zero_le (show 0<=h by omega);exact gIv 13 O (λR k0=>gC 0 O (zXq (w':=.int .i64 0) (qBq v hc) Yk) (gFa 6 O (gZ 10 O e (gA 0 O (v.ch.links.length-1) (gF 7 O (ltI_not.2 (ha)) (gF 3 O (ltI_not.2 Xd) (gA 4 O (v.ch.links.length-1-i) (gT 1 O (congrArg not (ltI_not.2 Xd)) (zcq 15 O (k2q Qt rfl (.tup (.cons y8q (.cons Zoq (.cons (.pur rfl) .nil))))))))))))))
theorem vproof_s(v:Vw)(hc:OkC v.ch)(hs:SmallC v.ch)(hm:MayV v)(win:Int)(i:Nat)(k:Dig)(hg:TolV v win (i:Int)){x:Lk}(hx:v.ch.links[i]? =some x)(n:Nat)(t0:T)(hA:IsT (verT v.ch x.root) n t0):PS cfg glK 22 [vwG v,.int .i64 win,.int .i64 (i:Int),dW k] (.tup [dW x.hdr.state,xcq t0 k,.int .i64 0]):=by
 have e:(v.ch.links.map lkG).length=v.ch.links.length:=List.length_map _;have hl:=hc.len;have h1:=hm.1.one;obtain⟨g1,g2,g3⟩:=hg;have hpp:=proofW_pur t0 k;have hM:=pmake_s (verT v.ch x.root) n t0 hA k;obtain⟨a,b,c,d,f,hp⟩:=proof_shape t0 k;rw[hp] at hpp hM;rw[hp];refine gIv 13 O (λR k0=>gC 0 O (zXq (w':=.int .i64 0) (qBq v hc) Yk) (gFa 6 O (gZ 10 O e (gA 0 O (v.ch.links.length-1) (gF 7 O (ltI_not.2 Xd) (gF 3 O (ltI_not.2 Xd) (gA 4 O (v.ch.links.length-1-i) (gF 1 O (congrArg not (ltI_iff.2 Xd)) (gC 11 O (cstate_s v.ch hc hs i hm.1 hx) (zcq 12 O ?_))))))))));refine op_pq hM ?_ (hw:=by show(purW (.agg 67 [a,b,c,d,f])&&true)=true;rw[hpp];rfl);exact zeq 13 O (gP 0 O (ymq (i:=i) O O O O O O O (zKq lkG hx)) (zcq 11 O (k2q Qt rfl (.tup (.cons (.pur Xg) (.cons (.pur hpp) (.cons (.pur rfl) .nil)))))))
noncomputable instance:DecidableEq Vw:=λa b=>Classical.propDecidable _
theorem sdsW_is(t0:T)(k:Dig):sdsW t0 k= .fz (((t0.road 0 k).map sumD).map dW) 32 false:=by
 unfold sdsW;rw[List.map_map];rfl
theorem val_is{v:List UInt8}(h:0<v.length/\v.length<=64):valB v=true:=by
 unfold valB;rw[decide_eq_true h.1,decide_eq_true h.2];rfl
theorem proof_ok{t:Tree}{n:Nat}{t0:T}(h:IsT t n t0)(k:Dig):∃(e:Nat) (o:Dig) (v:List UInt8),xcq t0 k=prL k e o v ((t0.road 0 k).map sumD)/\prOk k e o v (t0.road 0 k).length/\endB k e o v=inB (t0.tail 0 k)/\v.length<=64:=by
 have hr:=road_le k h.ok Xd;rw[Nat.zero_add] at hr
 have no:(∀x v,t0.tail 0 k≠ .leaf x v) ->t0.tail 0 k= .nil:=λq=>by
  have e:=xJq t0 0 k;cases hq:t0.tail 0 k with
  |nil=>rfl
  |leaf x v=>exact absurd hq (q x v)
  |fork=>rw[hq] at e;cases e
 cases hq:t0.tail 0 k with
 |leaf x v=>
  have hv:=h.val _ (Q1q hq);by_cases hx:x=k
  ·subst hx;refine⟨1,yzq,v,?_,⟨hr,.inr (.inl ⟨rfl,rfl,val_is hv⟩)⟩,?_,hv.2⟩
   ·unfold xcq;rw[hq];simp only[if_true];rw[sdsW_is];rfl
   ·unfold endB;rw[if_pos rfl];rfl
  ·refine⟨2,x,v,?_,⟨hr,.inr (.inr ⟨rfl,val_is hv,hx,?_⟩)⟩,?_,hv.2⟩
   ·unfold xcq;rw[hq];simp only[if_neg hx];rw[sdsW_is];rfl
   ·have:=x6q qQq h.ok (Nat.zero_le _) hq;omega
   ·unfold endB;rw[if_neg Xn,if_pos rfl];rfl
 |nil=>
  refine⟨0,yzq,[],?_,⟨hr,.inl ⟨rfl,rfl,rfl⟩⟩,?_,Nat.zero_le _⟩
  ·unfold xcq;rw[hq,sdsW_is];rfl
  ·unfold endB;rw[if_neg Xn,if_neg Xn];rfl
 |fork a b=>have e:=xJq t0 0 k;rw[hq] at e;cases e
theorem sound_sum{c:Ch}{box:Dig}(h:SoundC c box){i:Nat}{x:Lk}(hx:c.links[i]? =some x){n:Nat}{t0:T}(hA:IsA (verT c x.root) n t0):x.hdr.state=sumD t0:=by
 have hs:=h.sound i x hx;by_cases hi:i=0
 ·obtain⟨n1,t1,h1,h2,_⟩:=hs.first hi;obtain⟨_,rfl⟩:=h1.uniq hA;rw[h2];rfl
 ·obtain⟨y,hy⟩:∃y,c.links[i-1]? =some y:=⟨_,List.getElem?_eq_getElem (by have:=qZq hx;omega)⟩
  obtain⟨_,_,n1,t1,rs,_,h1,_,h2,_⟩:=hs.next y Xd hy;obtain⟨_,rfl⟩:=h1.uniq hA;rw[h2];rfl
theorem proves18_s(v:Vw)(hc:OkC v.ch)(win:Int)(box:Dig)(h:Int)(k:Dig):PS cfg glK 4 [vwG v,.int .i64 win,dW box,.int .i64 h,dW k] (.bool true):=by
 by_cases hg:Y1q v.ch 5
 ·skip
  refine gI 10 O (λR k0=>?_);refine gC 0 O (xCq) ?_;refine gC 7 O (zXq (w':=.bool true) (u1q v 5 hc.nodes hc.len) (by rw[decide_eq_true (hg)])) ?_;exact gQa 15 O
 obtain⟨g1,g2,g3⟩:=greatc_no hg;have hs:=greatc_small Xn hg;have hz:∀e:Int,purW (.tup [dW yzq,prZ,.int .i64 e])=true:=λe=>by unfold prZ prG;simp[purW,purL]
 by_cases hm:MayV v
 ·by_cases ht:TolV v win h
  ·obtain⟨i,rfl⟩:=Int.eq_ofNat_of_zero_le ht.1;have hi:=ht.2.1;obtain⟨x,hx⟩:∃x,v.ch.links[i]? =some x:=⟨_,List.getElem?_eq_getElem Xd⟩
   obtain⟨n,t0,hA⟩:=(hm.1.link i x hx).tree;obtain⟨e,o,u,hpw,hpo,hend,hu⟩:=proof_ok hA.toIsT k;have hp:=vproof_s v hc hs hm win i k ht hx n t0 hA.toIsT;rw[hpw] at hp;have hf:=vfits_s t0 k e o u hpo hend (λp q=>(hA.val p q).2) hu;obtain⟨l,hl⟩:∃l,l=(t0.road 0 k).map sumD:=⟨_,rfl⟩
   rw[<-hl] at hp hf;have hpp:=prL_pur k e o u l
   have hpw2:purW (.tup [dW x.hdr.state,prL k e o u l,.int .i64 0])=true:=by
    show(purW (dW _)&&(purW (prL k e o u l)&&(true&&true)))=true;rw[qMq,hpp];rfl
   have cs:=csound_s v.ch hc Xd box;have hst:=cstate_s v.ch hc hs i hm.1 hx;have hsu:=QYq (verT v.ch x.root) n t0 hA.toIsT;by_cases hS:SoundC v.ch box
   ·have heq:=sound_sum hS hx hA;refine gI 10 O (λR k0=>?_);refine gC 0 O (xCq) ?_;refine gC 7 O (zXq (w':=.bool false) (u1q v 5 hc.nodes hc.len) Yy) ?_;refine zcq 15 O ?_;refine op_pq hp ?_ (hw:=hpw2);refine zeq 15 O ?_;refine gFa 0 O ?_;refine gC 10 O (hst) ?_;refine gC 11 O (hsu) ?_;refine gTa 13 O ?_;refine gTa 3 O ?_;refine zcq 5 O ?_;refine jOq (w':=.bool true) rfl (ywq O O O O (yGq O O O O O O _ _ 250)) (congrArg W.bool (decide_eq_true rfl)) ?_;refine zeq 4 O ?_;refine gC 0 O hf ?_;refine gC 5 O (zXq (w':=.bool true) (cs) (by rw[decide_eq_true (hS)])) ?_;refine zcq 4 O ?_;refine jOq (w':=.bool true) rfl (ywq O O O O (yGq O O O O O O _ _ 250)) (congrArg W.bool (decide_eq_true heq)) ?_;refine zeq 6 O ?_;exact gQa 0 O
   ·skip
    refine gI 10 O (λR k0=>?_);refine gC 0 O (xCq) ?_;refine gC 7 O (zXq (w':=.bool false) (u1q v 5 hc.nodes hc.len) Yy) ?_;refine zcq 15 O ?_;refine op_pq hp ?_ (hw:=hpw2);refine zeq 15 O ?_;refine gFa 0 O ?_;refine gC 10 O (hst) ?_;refine gC 11 O (hsu) ?_;refine gTa 13 O ?_;refine gTa 3 O ?_;refine zcq 5 O ?_;refine jOq (w':=.bool true) rfl (ywq O O O O (yGq O O O O O O _ _ 250)) (congrArg W.bool (decide_eq_true rfl)) ?_;refine zeq 4 O ?_;refine gC 0 O hf ?_;refine gC 5 O (zXq (w':=.bool false) (cs) (by rw[decide_eq_false (hS)])) ?_;exact gQa 11 O
  ·have hno:=vproof_gone v hc hm win h k ht;refine gI 10 O (λR k0=>?_);refine gC 0 O (xCq) ?_;refine gC 7 O (zXq (w':=.bool false) (u1q v 5 hc.nodes hc.len) Yy) ?_;refine zcq 15 O ?_;refine op_pq hno ?_ (hw:=hz _);refine zeq 15 O ?_;refine gTa 0 O ?_;refine gV 8 O qJq ?_;refine jOq (w':=.bool true) rfl (ywq O O O O (yGq O O O O O O _ _ 250)) (congrArg W.bool (decide_eq_true rfl)) ?_;refine zeq 4 O ?_;refine gL 0 O ?_;refine gU 0 O ?_;exact gQa 6 O
 ·have hno:=vproof_no v hc hm win h k;refine gI 10 O (λR k0=>?_);refine gC 0 O (xCq) ?_;refine gC 7 O (zXq (w':=.bool false) (u1q v 5 hc.nodes hc.len) Yy) ?_;refine zcq 15 O ?_;refine op_pq hno ?_ (hw:=hz _);refine zeq 15 O ?_;refine gTa 0 O ?_;refine gV 8 O qJq ?_;refine jOq (w':=.bool true) rfl (ywq O O O O (yGq O O O O O O _ _ 250)) (congrArg W.bool (decide_eq_true rfl)) ?_;refine zeq 4 O ?_;refine gL 0 O ?_;refine gU 0 O ?_;exact gQa 6 O
end
mutual
/-- all blocks in it lie below n -/
noncomputable def ltB(n:Nat):V->Bool
 |.ptr b _=>decide (b<n)
 |.sl b _ _ _ _ _=>decide (b<n)
 |.map b=>decide (b<n)
 |.yield b=>decide (b<n)
 |.fn _ a c=>ltL n a&&ltL n c
 |.iface _ v=>ltB n v
 |.agg _ l=>ltL n l
 |.arr _ _ l=>ltL n l
 |.tup l=>ltL n l
 |.undef=>true
 |.bool _=>true
 |.int _ _=>true
 |.str _=>true
 |.nilp=>true
 |.nils=>true
 |.nilm=>true
 |.nilf=>true
 |.nili=>true
noncomputable def ltL(n:Nat):List V->Bool
 |[]=>true
 |v::l=>ltB n v&&ltL n l
end
noncomputable def SeenK(h:Heap):Nat->Prop:=λb=>b<h.next/\∃v,h.val b=some v/\ltB h.next v=true
noncomputable def u32V(n:Nat):V:=.int .u32 (.ofNat n)
noncomputable def eqK:List V->List Nat->Bool
 |[],[]=>true
 |.int .u32 (.ofNat n)::l,m::ms=>match Nat.beq n m with
  |true=>eqK l ms
  |false=>false
 |_,_=>false
theorem eqK_spec:∀{l:List V} {ms:List Nat},eqK l ms=true->l=ms.map u32V
 |[],[],_=>rfl
 |[],_::_,h=>by simp[eqK] at h
 |v::l,ms,h=>by
  unfold eqK at h;split at h
  ·simp_all
  ·rename_i n l' m ms' e;cases e;split at h
   ·rename_i hb;obtain rfl:=Nat.eq_of_beq_eq_true hb;rw[eqK_spec h];rfl
   ·cases h
  ·cases h
noncomputable def globK(h:Heap):Bool:=match h.get 0 with
 |some (.ro (.arr 64 1 l))=>eqK l kW
 |_=>false
theorem RSL_wd(Γ:Ctx):∀l:List Nat,RSL Γ (l.map wd) (l.map u32V)
 |[]=>rfl
 |n::l=>qFq (a:=[u32V n]) (b:=l.map u32V) (x:=wd n) rfl (RSL_wd Γ l)
theorem globK_spec{h:Heap}(hn:Nat.ble 2 h.next=true)(hk:globK h=true):GRel cfg glK ⟨0,λi=>i,SeenK h,h⟩:=by
 intro g w _ h2 nw σ;have hn:=Ob hn;unfold glK at h2;split at h2
 ·cases h2;unfold globK at hk;split at hk
  ·rename_i l hg;obtain rfl:=eqK_spec hk;have hv:h.val 0=some (.arr 64 1 (kW.map u32V)):=by simp only[Heap.val,hg]
   refine RV.of_one ⟨0,0,_,rfl,⟨by omega,_,hv,by rfl⟩,hv,by exact Nat.le_refl _,λ_=>rfl,.inr rfl,?_⟩ O O;have e:((zlq (.arr 64 1 (kW.map u32V))).drop 0).take 64=kW.map u32V:=by kernel_rfl
   show RS _ _ (((zlq (.arr 64 1 (kW.map u32V))).drop 0).take 64);rw[e];exact⟨rfl,λx hx=>by obtain⟨n,_,rfl⟩:=List.mem_map.1 hx;rfl,RSL_wd _ kW⟩
  ·cases hk
 ·cases h2
end
end Go.Proofs.YtfliaigjcadegabGreatDoor

/-
  What the proof of AutoReturns stands on, part 7. No condition.
-/
import Derived.Test.YtpjfmknefefapaaGreatDoorZAutoReturnsF
set_option linter.unusedSimpArgs false
set_option linter.unusedVariables false
namespace Go.Proofs.YtpjfmknefefapaaGreatDoor
section
open Go.RowKit
section
attribute [local irreducible] CoW OpW FlW Step Spec
variable {G:Nat->Option W}
structure BodOk(ds:List Depo)(xs:List Tx):Prop where
 dep:∀d∈ds,d.number<18446744073709551616/\d.amount<18446744073709551616
 tx:∀x∈xs,x.ok
 dl:ds.length<=140737488351232
 xl:xs.length<=140737488351232
theorem fit_depo2{w:W}(h:Fit (.st 34 [.int .u64,.arr 32 1 (.int .u8),.int .u64]) w):∃d:Depo,w=pdW d/\d.number<18446744073709551616/\d.amount<18446744073709551616:=by
 obtain⟨l,rfl,w1,l1,rfl,h1,w2,l2,rfl,h2,w3,l3,rfl,h3,rfl⟩:=h;obtain⟨n,rfl,hn⟩:=vxq h1;obtain⟨k,rfl⟩:=j1q h2;obtain⟨m,rfl,hm⟩:=vxq h3;exact⟨⟨n,k,m⟩,rfl,hn,hm⟩
theorem fit_hdr{w:W}(h:Fit (.st 98 [.int .i64,.arr 32 1 (.int .u8),.arr 32 1 (.int .u8),.arr 32 1 (.int .u8),.int .i64]) w):∃p:Hdr,w=hdW p/\p.height<=9223372036854775807:=by
 obtain⟨l,rfl,w1,l1,rfl,h1,w2,l2,rfl,h2,w3,l3,rfl,h3,w4,l4,rfl,h4,w5,l5,rfl,h5,rfl⟩:=h;obtain⟨i,rfl,_,hi⟩:=y4q h1;obtain⟨a,rfl⟩:=j1q h2;obtain⟨b,rfl⟩:=j1q h3;obtain⟨c,rfl⟩:=j1q h4;obtain⟨j,rfl,_⟩:=y4q h5;exact⟨⟨i,a,b,c,j⟩,rfl,hi⟩
theorem fit_body{w:W}(h:Fit (.st 2 [.sl 34 48 (.st 34 [.int .u64,.arr 32 1 (.int .u8),.int .u64]),.sl 99 120 (.st 99 [.arr 32 1 (.int .u8),.arr 32 1 (.int .u8),.int .u64,.int .u64,.int .u64,.arr 32 1 (.int .u8)])]) w):∃ds xs,w=bodW ds xs false false/\BodOk ds xs:=by
 obtain⟨l,rfl,w1,l1,rfl,h1,w2,l2,rfl,h2,rfl⟩:=h;obtain⟨ds,rfl,hl,hd⟩:=khq h1 λx hx=>fit_depo2 hx
 obtain⟨xs,rfl,hl2,hx⟩:=khq h2 λx hx=>fit_tx hx
 exact⟨ds,xs,rfl,hd,hx,by omega,by omega⟩
def yrq(ds:List Depo)(xs:List Tx):Prop:=(4<ds.length/\ds.length<=16)\/20<ds.length\/(4<xs.length/\xs.length<=16)\/20<xs.length
noncomputable instance(ds:List Depo)(xs:List Tx):Decidable (yrq ds xs):=Classical.propDecidable _
theorem great16_s(ds:List Depo)(xs:List Tx)(f g:Bool):PS cfg G 142 [bodW ds xs f g] (.bool (decide (yrq ds xs))):=by
 have e1:(ds.map pdW).length=ds.length:=List.length_map _;have e2:(xs.map txW).length=xs.length:=List.length_map _;refine gI 10 rfl (λR k0=>?_);refine gV (w':=.int .i64 (ds.length:Int)) 0 rfl (by rw[<-e1];rfl) ?_;refine gD 0 rfl (λh1=>?_) (λh1=>?_)
 ·refine gV (w':=.int .i64 (ds.length:Int)) 3 rfl (by rw[<-e1];rfl) ?_;refine gD 0 rfl (λh2=>?_) (λh2=>?_)
  ·exact gQ 29 rfl Xk
  ·refine gV (w':=.int .i64 (ds.length:Int)) 4 rfl (by rw[<-e1];rfl) ?_;refine gD 0 rfl (λh3=>?_) (λh3=>?_)
   ·exact gQ 23 rfl Xk
   ·refine gV (w':=.int .i64 (xs.length:Int)) 4 rfl Yy ?_;refine gD 0 rfl (λh4=>?_) (λh4=>?_)
    ·refine gV (w':=.int .i64 (xs.length:Int)) 3 rfl Yy ?_;refine gD 0 rfl (λh5=>?_) (λh5=>?_)
     ·exact gQ 12 rfl Xk
     ·refine gV (w':=.int .i64 (xs.length:Int)) 5 rfl Yy ?_;refine gU 0 rfl ?_;exact gQ 5 rfl Xk
    ·refine gV (w':=.int .i64 (xs.length:Int)) 10 rfl Yy ?_;refine gU 0 rfl ?_;exact gQ 5 rfl Xk
 ·refine gV (w':=.int .i64 (ds.length:Int)) 9 rfl (by rw[<-e1];rfl) ?_;refine gD 0 rfl (λh2=>?_) (λh2=>?_)
  ·exact gQ 23 rfl Xk
  ·refine gV (w':=.int .i64 (xs.length:Int)) 4 rfl Yy ?_;refine gD 0 rfl (λh3=>?_) (λh3=>?_)
   ·refine gV (w':=.int .i64 (xs.length:Int)) 3 rfl Yy ?_;refine gD 0 rfl (λh4=>?_) (λh4=>?_)
    ·exact gQ 12 rfl Xk
    ·refine gV (w':=.int .i64 (xs.length:Int)) 5 rfl Yy ?_;refine gU 0 rfl ?_;exact gQ 5 rfl Xk
   ·refine gV (w':=.int .i64 (xs.length:Int)) 10 rfl Yy ?_;refine gU 0 rfl ?_;exact gQ 5 rfl Xk
end
def recI(r:Rec):RcI:=⟨r.kind,r.id,(r.code:Int)⟩
def FolB(h p:Hdr):Prop:=okH h/\okH p/\h.height=p.height+1/\h.parent=hashD p
noncomputable instance(h p:Hdr):Decidable (FolB h p):=Classical.propDecidable _
noncomputable instance(ds:List Depo)(xs:List Tx):Decidable (BodyM ds xs):=Classical.propDecidable _
def verT(c:Ch)(r:Int):Tree:=⟨c.tree.nodes,r⟩
structure LkM(c:Ch)(i:Nat)(x:Lk):Prop where
 height:x.hdr.height=(i:Int)
 hdr:okH x.hdr
 fol:∀y,0<i->c.links[i-1]? =some y->FolB x.hdr y.hdr
 recs:((x.rs.length:Nat):Int)=x.hdr.many
 body:BodyM x.ds x.xs
 tree:MayA (verT c x.root)
structure MayC(c:Ch):Prop where
 one:0<c.links.length
 len:c.links.length<=256
 root:∀x,c.links[c.links.length-1]? =some x->c.tree.root=x.root
 link:∀i x,c.links[i]? =some x->LkM c i x
noncomputable instance(c:Ch):Decidable (MayC c):=Classical.propDecidable _
noncomputable def firH(t0:T):Hdr:=⟨0,kkq,sumD t0,tagD 0 [],0⟩
structure LkS(c:Ch)(box:Dig)(i:Nat)(x:Lk):Prop where
 first:i=0->∃n t0,IsA (verT c x.root) n t0/\x.hdr=firH t0/\x.ds=[]/\x.xs=[]
 next:∀y,0<i->c.links[i-1]? =some y->∃n t0 n1 t1 rs,IsA (verT c y.root) n t0/\IsA (verT c x.root) n1 t1/\doX box (doD t0.all x.ds).1 x.xs=some (t1.all,rs)/\x.hdr=headD y.hdr t1 ((doD t0.all x.ds).2++rs)/\x.rs=((doD t0.all x.ds).2++rs).map recI
structure SoundC(c:Ch)(box:Dig):Prop extends MayC c where
 sound:∀i x,c.links[i]? =some x->LkS c box i x
noncomputable instance(c:Ch)(box:Dig):Decidable (SoundC c box):=Classical.propDecidable _
theorem MayC.last{c:Ch}(h:MayC c):∃y,c.links[c.links.length-1]? =some y/\c.tree.root=y.root/\LkM c (c.links.length-1) y:=by
 have:=h.one;have e:=List.getElem?_eq_getElem (l:=c.links) (i:=c.links.length-1) Xd;exact⟨_,e,h.root _ e,h.link _ _ e⟩
theorem MayC.head{c:Ch}(h:MayC c){y:Lk}(e:c.links[c.links.length-1]? =some y):∃n t0,IsA c.tree n t0/\verT c y.root=c.tree:=by
 obtain⟨y',e',hr,hy⟩:=h.last;cases e.symm.trans e';have:verT c y.root=c.tree:=by unfold verT;rw[<-hr]
 obtain⟨n,t0,hA⟩:=hy.tree;exact⟨n,t0,this▸hA,this⟩
theorem y7q{α:Type}{l:List α}{i:Nat}{x:α}(h:l[i]? =some x):i<l.length:=(List.getElem?_eq_some_iff.1 h).1
section
attribute [local irreducible] CoW OpW FlW Step Spec
variable {G:Nat->Option W}
noncomputable instance(a b:Depo):Decidable (a=b):=Classical.propDecidable _
noncomputable instance(a b:Tx):Decidable (a=b):=Classical.propDecidable _
noncomputable instance(a b:RcI):Decidable (a=b):=Classical.propDecidable _
noncomputable instance(a b:Hdr):Decidable (a=b):=Classical.propDecidable _
theorem dec_and{p:Prop} [Decidable p]{b:Bool}(h:p↔b=true):decide p=b:=by
 rw[Bool.eq_iff_iff,decide_eq_true_eq];exact h
theorem cld_s(l:List Depo)(f:Bool)(hl:l.length<=1000000000):PS cfg G 87 [.fz (l.map pdW) 34 f] (.fz (l.map pdW) 34 false):=by
 have e:(l.map pdW).length=l.length:=List.length_map _;have hp:∀l:List Depo,purL (l.map pdW)=true:=yjq pdW_pur
 refine gI 9 rfl (λR k0=>?_);first|refine yBq rfl rfl ?_|refine zUq rfl (q8q rfl rfl rfl rfl rfl (λbn hn=>?_))
 refine zsq 2 rfl ?_;refine gS 0 rfl (λh1=>?_) (λh1=>?_)
 ·cases bn with
  |false=>cases h1
  |true=>
   obtain rfl:l=[]:=List.map_eq_nil_iff.1 (hn rfl);exact zQq 7 rfl (yFq (fr2:=[(2,.fz [] 34 false)]) Qm ⟨⟨_,rfl,.nilfz⟩,trivial⟩ rfl rfl)
 ·cases l with
  |nil=>
   skip
   exact zQq 6 rfl (gM 0 rfl (yZq rfl rfl (jxq rfl rfl rfl rfl rfl)) (zdq 4 rfl (yFq (fr2:=[(2,.fz [] 34 false)]) Qm ⟨⟨_,rfl,.sl rfl rfl rfl Xi⟩,trivial⟩ rfl rfl)))
  |cons c l=>
   simp only[List.length_cons] at hl e;exact zQq 6 rfl (gM 0 rfl (yZq rfl rfl (qzq (news:=(c::l).map pdW) (olds:=[]) rfl rfl rfl rfl rfl Xm (by show(0+((c::l).map pdW).length)*48<=_;rw[e];omega) Ys rfl (by show 0<0+(0+((c::l).map pdW).length)*34;rw[e];omega) rfl rfl)) (zdq 4 rfl (yFq (fr2:=[(2,.fz ((c::l).map pdW) 34 false)]) Qm ⟨⟨_,rfl,.sl rfl (hp _) (zAq Xg (Nat.zero_add _) Qj) Xi⟩,trivial⟩ rfl rfl)))
theorem clx_s(l:List Tx)(f:Bool)(hl:l.length<=1000000000):PS cfg G 86 [.fz (l.map txW) 99 f] (.fz (l.map txW) 99 false):=by
 have e:(l.map txW).length=l.length:=List.length_map _;have hp:∀l:List Tx,purL (l.map txW)=true:=yjq jQq
 refine gI 9 rfl (λR k0=>?_);first|refine yBq rfl rfl ?_|refine zUq rfl (q8q rfl rfl rfl rfl rfl (λbn hn=>?_))
 refine zsq 2 rfl ?_;refine gS 0 rfl (λh1=>?_) (λh1=>?_)
 ·cases bn with
  |false=>cases h1
  |true=>
   obtain rfl:l=[]:=List.map_eq_nil_iff.1 (hn rfl);exact zQq 7 rfl (yFq (fr2:=[(2,.fz [] 99 false)]) Qm ⟨⟨_,rfl,.nilfz⟩,trivial⟩ rfl rfl)
 ·cases l with
  |nil=>
   skip
   exact zQq 6 rfl (gM 0 rfl (yZq rfl rfl (jxq rfl rfl rfl rfl rfl)) (zdq 4 rfl (yFq (fr2:=[(2,.fz [] 99 false)]) Qm ⟨⟨_,rfl,.sl rfl rfl rfl Xi⟩,trivial⟩ rfl rfl)))
  |cons c l=>
   simp only[List.length_cons] at hl e;exact zQq 6 rfl (gM 0 rfl (yZq rfl rfl (qzq (news:=(c::l).map txW) (olds:=[]) rfl rfl rfl rfl rfl Xm (by show(0+((c::l).map txW).length)*120<=_;rw[e];omega) Ys rfl (by show 0<0+(0+((c::l).map txW).length)*99;rw[e];omega) rfl rfl)) (zdq 4 rfl (yFq (fr2:=[(2,.fz ((c::l).map txW) 99 false)]) Qm ⟨⟨_,rfl,.sl rfl (hp _) (zAq Xg (Nat.zero_add _) Qj) Xi⟩,trivial⟩ rfl rfl)))
theorem clr_s(l:List RcI)(f:Bool)(hl:l.length<=1000000000):PS cfg G 234 [.fz (l.map rcW) 34 f] (.fz (l.map rcW) 34 false):=by
 have e:(l.map rcW).length=l.length:=List.length_map _;have hp:∀l:List RcI,purL (l.map rcW)=true:=yjq rcW_pur
 refine gI 9 rfl (λR k0=>?_);first|refine yBq rfl rfl ?_|refine zUq rfl (q8q rfl rfl rfl rfl rfl (λbn hn=>?_))
 refine zsq 2 rfl ?_;refine gS 0 rfl (λh1=>?_) (λh1=>?_)
 ·cases bn with
  |false=>cases h1
  |true=>
   obtain rfl:l=[]:=List.map_eq_nil_iff.1 (hn rfl);exact zQq 7 rfl (yFq (fr2:=[(2,.fz [] 34 false)]) Qm ⟨⟨_,rfl,.nilfz⟩,trivial⟩ rfl rfl)
 ·cases l with
  |nil=>
   skip
   exact zQq 6 rfl (gM 0 rfl (yZq rfl rfl (jxq rfl rfl rfl rfl rfl)) (zdq 4 rfl (yFq (fr2:=[(2,.fz [] 34 false)]) Qm ⟨⟨_,rfl,.sl rfl rfl rfl Xi⟩,trivial⟩ rfl rfl)))
  |cons c l=>
   simp only[List.length_cons] at hl e;exact zQq 6 rfl (gM 0 rfl (yZq rfl rfl (qzq (news:=(c::l).map rcW) (olds:=[]) rfl rfl rfl rfl rfl Xm (by show(0+((c::l).map rcW).length)*48<=_;rw[e];omega) Ys rfl (by show 0<0+(0+((c::l).map rcW).length)*34;rw[e];omega) rfl rfl)) (zdq 4 rfl (yFq (fr2:=[(2,.fz ((c::l).map rcW) 34 false)]) Qm ⟨⟨_,rfl,.sl rfl (hp _) (zAq Xg (Nat.zero_add _) Qj) Xi⟩,trivial⟩ rfl rfl)))
theorem kZq{p:Prop} [Decidable p](h:¬p):W.bool false=W.bool (decide p):=congrArg W.bool (decide_eq_false h).symm
theorem u1q{p:Prop} [Decidable p](h:p):W.bool true=W.bool (decide p):=congrArg W.bool (decide_eq_true h).symm
theorem dec_c{p q:Prop} [Decidable p] [Decidable q](h:q↔p):W.bool (decide q)=W.bool (decide p):=congrArg W.bool (decide_eq_decide.2 h)
theorem hfollows_d(h p:Hdr):PS cfg glK 132 [hdW h,hdW p] (.bool (decide (FolB h p))):=by
 by_cases hp:okH p
 ·obtain⟨q1,q2,q3,q4⟩:=id hp;by_cases hh:okH h
  ·skip
   refine gI 10 rfl (λR k0=>gC 0 rfl (hhash_s p ⟨q1,q2,q3,q4⟩) (gTa 11 rfl (gC 2 rfl (zvq (w':=.int .i64 0) (kUq h) (by rw[if_pos hh])) (gTa 0 rfl (gWr 6 rfl ?_)))));refine gD 0 rfl (λh1=>?_) (λh1=>?_)
   ·exact gUe 5 rfl (q4q rfl rfl rfl rfl (j3q rfl rfl rfl rfl rfl rfl _ _ 250)) qFq (gQ 5 rfl (dec_c ⟨λq=>⟨hh,hp,by simpa using h1,q⟩,λq=>q.2.2.2⟩))
   ·exact gQ 11 rfl (kZq λq=>h1 (by simpa using q.2.2.1))
  ·skip
   exact gI 10 rfl (λR k0=>gC 0 rfl (hhash_s p ⟨q1,q2,q3,q4⟩) (gTa 11 rfl (gC 2 rfl (zvq (w':=.int .i64 8) (kUq h) (by rw[if_neg hh])) (gFa 0 rfl (gQ 19 rfl (kZq λq=>hh q.1))))))
 ·skip
  exact gI 10 rfl (λR k0=>gC 0 rfl (hhash_no p hp) (gFa 11 rfl (gQ 23 rfl (kZq λq=>hp q.2.1))))
theorem ver_s(t:Tree)(r:Int):PS cfg G 134 [tW t,.int .i64 r] (tW ⟨t.nodes,r⟩):=by
 exact gI 20 rfl (λR k0=>gQa 0 rfl)
theorem ixtx_s(xs:List Tx)(f:Bool)(F:FuncId)(P:Tx->Prop) [DecidablePred P](hF:∀x∈xs,PS cfg G F [txW x] (.bool (decide (P x))))(hF0:cfg.ext F=none)(hn:xs.length<=1000000000):PE cfg G 146 [.fz (xs.map txW) 99 f,.fn F [] []] (λw=>∃i:Int,w= .int .i64 i/\((∃x∈xs,P x)↔0<=i)):=by
 have e:(xs.map txW).length=xs.length:=List.length_map _;refine gIe 9 rfl (λR k0=>gZ 0 rfl e ?_);refine gLo (α:=Nat) 4 (λi=>i<=xs.length/\∀j x,j<i->xs[j]? =some x->¬P x) (λi=>[(8,.int .i64 (i:Int))]) [0,1,4,7] (λi=>xs.length-i) (0) rfl (⟨Nat.zero_le _,λj x h=>by omega⟩) (λi hI=>?_);obtain⟨g1,g2⟩:=hI;refine gS 6 rfl (λh1=>?_) (λh1=>?_)
 ·obtain⟨x,hx⟩:∃x,xs[i]? =some x:=⟨_,List.getElem?_eq_getElem Xd⟩
  refine gP 15 rfl (zGq (i:=i) rfl rfl rfl rfl rfl rfl rfl (zlq txW hx)) (zdq 1 rfl (op_ps rfl rfl rfl hF0 rfl rfl (hF x (List.mem_of_getElem? hx)) Xm Xm (zsq 2 rfl ?_)));refine gS 0 rfl (λh2=>?_) (λh2=>?_)
  ·exact gO 9 rfl (zdq 2 rfl (yCq (w':=.int .i64 (i:Int)) Qm rfl (.pur rfl) rfl ⟨_,rfl,λ_=>by omega,λ_=>⟨x,List.mem_of_getElem? hx,h2⟩⟩))
  ·exact gA 4 rfl (i+1) (gAg 2 rfl (i+1) (⟨by omega,λj y hj hy=>by rcases Nat.lt_succ_iff_lt_or_eq.1 hj with q|rfl;exact g2 j y q hy;exact Option.some.inj (hx.symm.trans hy)▸h2⟩) Xd)
 ·refine gO 2 rfl (zdq 8 rfl ?_)
  exact yCq (w':=.int .i64 (-1)) Qm rfl (.pur rfl) rfl ⟨_,rfl,λ⟨x,hx,q⟩=>by
   obtain⟨j,hj⟩:=List.getElem?_of_mem hx;exact absurd q (g2 j x Yv hj),λh=>absurd h Xg⟩
theorem cntx_s(xs:List Tx)(f:Bool)(F:FuncId)(P:Tx->Prop) [DecidablePred P](hF:∀x∈xs,PS cfg G F [txW x] (.bool (decide (P x))))(hF0:cfg.ext F=none)(hn:xs.length<=1000000000) [Decidable (∃x∈xs,P x)]:PS cfg G 79 [.fz (xs.map txW) 99 f,.fn F [] []] (.bool (decide (∃x∈xs,P x))):=by
 refine gI 9 rfl (λR k0=>?_);refine gE 0 rfl (ixtx_s xs f F P hF hF0 hn) ?_;rintro w hw ⟨i,rfl,hi⟩;refine gU 0 rfl ?_;exact gQ 4 rfl (by rw[decide_eq_decide.2 hi])
theorem cbody1_s(x:Tx)(hx:x.ok):PS cfg glK 197 [txW x] (.bool (decide (x.sign≠jSq x))):=by
 by_cases h:x.sign=jSq x
 ·skip
  exact gI 9 rfl (λR k0=>gC 0 rfl (zvq (w':=.int .i64 0) (qMq x hx) (by rw[if_pos h])) (gFa 0 rfl (gQ 4 rfl (kZq λq=>q h))))
 ·skip
  exact gI 9 rfl (λR k0=>gC 0 rfl (zvq (w':=.int .i64 110) (qMq x hx) (by rw[if_neg h])) (gTa 0 rfl (gQ 4 rfl (u1q h))))
theorem max_w(a b:Nat):W.int .i64 (match ltI (a:Int) (b:Int) with|true=>(b:Int)|false=>(a:Int))=W.int .i64 ((max a b:Nat):Int):=by
 congr 1
 by_cases h:(a:Int)<(b:Int)
 ·rw[ltI_iff.2 h,Nat.max_eq_right Xd]
 ·rw[ltI_not.2 h,Nat.max_eq_left Xd]
theorem cbody_s(ds:List Depo)(xs:List Tx)(f g:Bool)(hx:∀x∈xs,x.ok)(hd:ds.length<=140737488351232)(hn:xs.length<=140737488351232):PS cfg glK 133 [bodW ds xs f g] (.bool (decide (BodyM ds xs))):=by
 have e1:(ds.map pdW).length=ds.length:=List.length_map _;have e2:(xs.map txW).length=xs.length:=List.length_map _;by_cases hm:ds.length<=16/\xs.length<=16
 ·have hc:=cntx_s (G:=glK) xs g 197 (λx=>x.sign≠jSq x) (λx h=>cbody1_s x (hx x h)) rfl Xd;by_cases hs:∃x∈xs,x.sign≠jSq x
  ·exact gI 15 rfl (λR k0=>gZ 0 rfl e1 (gZ 2 rfl e2 (gV (w':=.int .i64 ((max ds.length xs.length:Nat):Int)) 0 rfl (max_w _ _) (gT 0 rfl (congrArg not (ltI_not.2 Xd)) (gC 4 rfl (zvq (w':=.bool true) (hc) (by rw[decide_eq_true (hs)])) (gQ 6 rfl (kZq λq=>by obtain⟨x,h1,h2⟩:=hs;exact h2 (q.2.2 x h1))))))))
  ·exact gI 15 rfl (λR k0=>gZ 0 rfl e1 (gZ 2 rfl e2 (gV (w':=.int .i64 ((max ds.length xs.length:Nat):Int)) 0 rfl (max_w _ _) (gT 0 rfl (congrArg not (ltI_not.2 Xd)) (gC 4 rfl (zvq (w':=.bool false) (hc) (by rw[decide_eq_false (hs)])) (gQ 6 rfl (u1q ⟨hm.1,hm.2,λx h=>Classical.not_not.1 λq=>hs ⟨x,h,q⟩⟩)))))))
 ·exact gI 15 rfl (λR k0=>gZ 0 rfl e1 (gZ 2 rfl e2 (gV (w':=.int .i64 ((max ds.length xs.length:Nat):Int)) 0 rfl (max_w _ _) (gF 0 rfl (congrArg not (ltI_iff.2 Xd)) (gQ 11 rfl (kZq λq=>hm ⟨q.1,q.2.1⟩))))))
noncomputable def bodyN:W:=.agg 2 [.nils,.nils]
noncomputable def lkZ:W:=.agg 102 [hdW hdZ,.int .i64 0,bodyN,.nils]
@[simp] theorem lkZ_pur:purW lkZ=true:=by simp[lkZ,bodyN,purW,purL]
noncomputable def lkA(l:List Lk)(i:Nat):W:=match l[i]? with
 |some x=>lkG x
 |none=>lkZ
noncomputable def prevW(l:List Lk):Nat->W
 |0=>lkZ
 |i+1=>lkA l i
@[simp] theorem lkA_pur(l:List Lk)(i:Nat):purW (lkA l i)=true:=by unfold lkA;split<;>simp
@[simp] theorem prev_pur(l:List Lk)(i:Nat):purW (prevW l i)=true:=by cases i<;>simp[prevW]
noncomputable def encL(l:List Lk)(i:Nat):List W:=[lkA l i,prevW l i]
theorem encL_ok(l:List Lk){n:Nat}:∀y∈List.range n,purL (encL l y)=true/\(encL l y).length=2:=λy _=>⟨by simp[encL,purL],rfl⟩
theorem range_at{n i:Nat}(h:i<n):(List.range n)[i]? =some i:=by rw[List.getElem?_range h]
theorem lkA_at{l:List Lk}{i:Nat}{x:Lk}(h:l[i]? =some x):lkA l i=lkG x:=by unfold lkA;rw[h]
theorem ceach_s(l:List Lk)(f:Bool):PS cfg G 130 [.fz (l.map lkG) 102 f] (.fn 196 [] [.fel (.fz (l.map lkG) 102 f)]):=by
 have hp:=vrq l;refine gI 13 rfl (λR k0=>?_);refine yFq (fr2:=[(2,_)]) Xt ?_ rfl rfl
 (repeat (first|exact trivial|refine And.symm ⟨?_,_,rfl,?_⟩))<;>(repeat (first|exact .nil|refine .cons ?_ ?_|refine .fn ?_ ?_|(refine yIq rfl ?_ rfl;(first|rfl|(focus (simp;done))))|(refine .sl rfl ?_ rfl Xi;(first|rfl|(focus (simp;done))))|(refine .pur ?_;(first|rfl|(focus (simp;done))))|refine .agg ?_|refine .arr ?_|refine .tup ?_))
theorem prev_agg(l:List Lk)(i:Nat):∃a b c d,prevW l i= .agg 102 [a,b,c,d]:=by
 cases i with
 |zero=>exact⟨_,_,_,_,rfl⟩
 |succ i=>
  show∃a b c d,lkA l i=_
  unfold lkA;split<;>exact⟨_,_,_,_,rfl⟩
theorem ceach_it(l:List Lk)(f:Bool)(hb:l.length<=4611686018427387903):qnq cfg G 196 [.fel (.fz (l.map lkG) 102 f)] ((List.range l.length).map (encL l)):=by
 have e:(l.map lkG).length=l.length:=List.length_map _;refine uaq (fn:=Tryz.f196) rfl rfl rfl (Nat.le_of_ble_eq_true rfl) (λL E R hy k0=>?_);refine ycq 8 rfl (gZ 0 rfl e (zdq 4 rfl (co_ent (ent_blkv (b:=0) (w':=lkZ) rfl (.agg (.cons (.agg (.cons (.pur rfl) (.cons jPq (.cons jPq (.cons jPq (.cons (.pur rfl) .nil)))))) (.cons (.pur rfl) (.cons (.pur rfl) (.cons (.pur rfl) .nil)))))) ?_)));refine co_loopR (α:=Nat×Res) (λp=>p.1<=l.length/\Yl cfg G L E (((List.range l.length).drop p.1).map (encL l)) p.2) (λp=>[(8,.int .i64 (p.1:Int))]) [(0,_),(3,_),(6,_),(7,_)] (λp=>[(0,88,prevW l p.1)]) (λp=>p.2) (λp=>l.length-p.1) ((0,R)) ⟨rfl,rfl,rfl,rfl,trivial⟩ (⟨Nat.zero_le _,hy⟩) ⟨rfl,trivial⟩ rfl rfl (λp hI=>?_);obtain⟨i,R⟩:=p;obtain⟨hi,hy⟩:=hI;simp only at hi hy⊢;refine ycq 6 rfl ?_;refine gS 0 rfl (λh1=>?_) (λh1=>?_)
 ·have hi':i<l.length:=by omega
  obtain⟨x,hx⟩:∃x,l[i]? =some x:=⟨_,List.getElem?_eq_getElem hi'⟩
  rw[Jmq (range_at hi'),List.map_cons] at hy;have ex:=lkA_at hx;obtain⟨a,b,c,d,hp⟩:=prev_agg l i;have hv:purW (.agg 102 [a,b,c,d])=true:=hp▸prev_pur l i
  rw[show encL l i=[lkG x,.agg 102 [a,b,c,d]] by unfold encL;rw[ex,hp]] at hy;rw[hp];refine gP 6 rfl (zGq (i:=i) rfl rfl rfl rfl rfl rfl rfl (zlq lkG hx)) ?_;refine gSo 11 rfl (qYq rfl rfl rfl (hy) (λb R1 hb=>?_));refine gS 3 rfl (λh2=>?_) (λh2=>?_)
  ·cases b with
   |true=>cases h2
   |false=>
    exact zQq 4 rfl (qQq Xi (z0q 1 rfl (k4q Qm rfl hb)))
  ·cases b with
   |false=>exact absurd rfl h2
   |true=>
    refine zQq 9 rfl (gA 0 rfl (i+1) (zdq 2 rfl ?_));rw[show lkG x=prevW l (i+1) from ex.symm];exact QRq ((i+1,R1)) (⟨hi',hb⟩) Xz (Nat.zero_le _) ⟨rfl,trivial⟩ ⟨rfl,rfl,rfl,rfl,trivial⟩ Xh Xh Xd Xj Xw rfl
 ·refine zdq 2 rfl (qQq Xi (z0q 1 rfl ?_));obtain rfl:i=l.length:=by omega
  rw[List.drop_of_length_le Xm] at hy;exact k4q (.inl rfl) rfl hy
structure Ln where
 (who:Dig) (txs:List Tx)
noncomputable def lnW(l:Ln):W:=.agg 33 [dW l.who,.fz (l.txs.map txW) 99 false]
@[simp] theorem qqq(l:Ln):purW (lnW l)=true:=by simp[lnW,purW,purL]
@[simp] theorem qEq(l:List Ln):purL (l.map lnW)=true:=yjq qqq l
abbrev Shd:=List Ln
noncomputable def shdW(s:Shd):W:=.agg 1 [.fz (s.map lnW) 33 false]
@[simp] theorem yUq(s:Shd):purW (shdW s)=true:=by simp[shdW,purW,purL]
@[simp] theorem jEq(l:List Shd):purL (l.map shdW)=true:=yjq yUq l
noncomputable def plW(l:List Shd):W:=.fz (l.map shdW) 1 false
@[simp] theorem xeq(l:List Shd):purW (plW l)=true:=(jEq l:purL (l.map shdW)=true)
def OwnX(x:Tx)(k:Dig):Prop:=x.sign=jSq x/\keyD x.pub=k
noncomputable instance(x:Tx)(k:Dig):Decidable (OwnX x k):=Classical.propDecidable _
theorem own_s(x:Tx)(hx:x.ok)(k:Dig):PS cfg glK 201 [txW x,dW k] (.bool (decide (OwnX x k))):=by
 by_cases h1:x.sign=jSq x
 ·by_cases h2:keyD x.pub=k
  ·skip
   exact gI 10 rfl (λR k0=>gC 0 rfl (zvq (w':=.int .i64 0) (qMq x hx) (by rw[if_pos h1])) (gT 0 rfl (eqI_iff.2 (rfl)) (gC 2 rfl (uSq x) (zdq 1 rfl (vRq (w':=.bool true) rfl (q4q rfl rfl rfl rfl (j3q rfl rfl rfl rfl rfl rfl (keyD x.pub) k 250)) (by rw[decide_eq_true h2]) (qHq 5 rfl (gQ 0 rfl (u1q ⟨h1,h2⟩))))))))
  ·skip
   exact gI 10 rfl (λR k0=>gC 0 rfl (zvq (w':=.int .i64 0) (qMq x hx) (by rw[if_pos h1])) (gT 0 rfl (eqI_iff.2 (rfl)) (gC 2 rfl (uSq x) (zdq 1 rfl (vRq (w':=.bool false) rfl (q4q rfl rfl rfl rfl (j3q rfl rfl rfl rfl rfl rfl (keyD x.pub) k 250)) (by rw[decide_eq_false h2]) (qHq 5 rfl (gQ 0 rfl (kZq λq=>h2 q.2))))))))
 ·skip
  exact gI 10 rfl (λR k0=>gC 0 rfl (zvq (w':=.int .i64 110) (qMq x hx) (by rw[if_neg h1])) (gF 0 rfl (eqI_not.2 Xg) (gQ 10 rfl (kZq λq=>h1 q.1))))
def LnM(l:Ln):Prop:=l.txs.length<=256/\∀(i:Nat) x,l.txs[i]? =some x->OwnX x l.who/\∀y,0<i->l.txs[i-1]? =some y->y.nonce<x.nonce
noncomputable instance(l:Ln):Decidable (LnM l):=Classical.propDecidable _
theorem kdq(l:Ln)(hx:∀x∈l.txs,x.ok)(hl:l.txs.length<=4611686018427387903):PS cfg glK 144 [lnW l] (.int .i64 (if LnM l then 0 else 8)):=by
 have e:(l.txs.map txW).length=l.txs.length:=List.length_map _;by_cases h0:l.txs.length<=256
 ·skip
  refine gI 11 rfl (λR k0=>gZ 0 rfl e (gF 0 rfl (ltI_not.2 Xd) (gZ 10 rfl e ?_)));refine gLo (α:=Nat) 4 (λi=>i<=l.txs.length/\∀(j:Nat) x,j<i->l.txs[j]? =some x->OwnX x l.who/\∀y,0<j->l.txs[j-1]? =some y->y.nonce<x.nonce) (λi=>[(12,.int .i64 (i:Int))]) [1,2,10,11] (λi=>l.txs.length-i) (0) rfl (⟨Nat.zero_le _,λj x h=>by omega⟩) (λi hI=>?_);obtain⟨g1,g2⟩:=hI;refine gS 6 rfl (λh1=>?_) (λh1=>?_)
  ·obtain⟨x,hxi⟩:∃x,l.txs[i]? =some x:=⟨_,List.getElem?_eq_getElem Xd⟩
   have hok:=hx x (List.mem_of_getElem? hxi);skip
   by_cases ho:OwnX x l.who
   ·rcases Nat.eq_zero_or_pos i with rfl|hp
    ·exact gP 7 rfl (zGq (i:=0) rfl rfl rfl rfl rfl rfl rfl (zlq txW hxi)) (gC 11 rfl (zvq (w':=.bool true) (own_s x hok l.who) Yh) (gF 3 rfl (ltI_not.2 Xd) (gWr 20 rfl (gAg 2 rfl (0+1) (⟨by omega,λj z hj hz=>by have q0:j=0:=Xd;subst q0;have:=Option.some.inj (hxi.symm.trans hz);subst this;exact⟨ho,λy h=>absurd h Xg⟩⟩) Xd))))
    ·obtain⟨y,hy⟩:∃y,l.txs[i-1]? =some y:=⟨_,List.getElem?_eq_getElem Xd⟩
     by_cases hn:y.nonce<x.nonce
     ·exact gP 7 rfl (zGq (i:=i) rfl rfl rfl rfl rfl rfl rfl (zlq txW hxi)) (gC 11 rfl (zvq (w':=.bool true) (own_s x hok l.who) Yh) (gT 3 rfl (ltI_iff.2 Xd) (gA 4 rfl (i-1) (gP 0 rfl (zGq (i:=i-1) rfl rfl rfl rfl rfl rfl rfl (zlq txW hy)) (gF 4 rfl (congrArg not (ltI_iff.2 Xd)) (gWr 9 rfl (gAg 2 rfl (i+1) (⟨by omega,λj z hj hz=>by rcases Nat.lt_succ_iff_lt_or_eq.1 hj with q|rfl;exact g2 j z q hz;have:=Option.some.inj (hxi.symm.trans hz);subst this;exact⟨ho,λw _ hw=>by have:=Option.some.inj (hy.symm.trans hw);subst this;exact hn⟩⟩) Xd)))))))
     ·exact gP 7 rfl (zGq (i:=i) rfl rfl rfl rfl rfl rfl rfl (zlq txW hxi)) (gC 11 rfl (zvq (w':=.bool true) (own_s x hok l.who) Yh) (gT 3 rfl (ltI_iff.2 Xd) (gA 4 rfl (i-1) (gP 0 rfl (zGq (i:=i-1) rfl rfl rfl rfl rfl rfl rfl (zlq txW hy)) (gT 4 rfl (congrArg not (ltI_not.2 Xd)) (gO 13 rfl (gQ 2 rfl (by rw[if_neg λq:LnM l=>hn ((q.2 i x hxi).2 y hp hy)]))))))))
   ·exact gP 7 rfl (zGq (i:=i) rfl rfl rfl rfl rfl rfl rfl (zlq txW hxi)) (gC 11 rfl (zvq (w':=.bool false) (own_s x hok l.who) (by rw[decide_eq_false (ho)])) (gO 28 rfl (gQ 2 rfl (by rw[if_neg λq:LnM l=>ho (q.2 i x hxi).1]))))
  ·have yes:LnM l:=⟨h0,λj x hj=>g2 j x Yv hj⟩;exact gO 2 rfl (gQ 8 rfl Yf)
 ·skip
  exact gI 11 rfl (λR k0=>gZ 0 rfl e (gT 0 rfl (ltI_iff.2 Xd) (gQ 10 rfl (by rw[if_neg λq:LnM l=>h0 q.1]))))
structure OkL(l:Ln):Prop where
 txs:∀x∈l.txs,x.ok
 len:l.txs.length<=4611686018427387903
def ShM(s:Shd):Prop:=∀(i:Nat) l,s[i]? =some l->(l.txs.length≠0/\LnM l)/\∀p,0<i->s[i-1]? =some p->ypq p.who l.who=true
noncomputable instance(s:Shd):Decidable (ShM s):=Classical.propDecidable _
theorem uyq(s:Shd)(hx:∀l∈s,OkL l)(hl:s.length<=4611686018427387903):PS cfg glK 75 [shdW s] (.int .i64 (if ShM s then 0 else 8)):=by
 have e:(s.map lnW).length=s.length:=List.length_map _;refine gI 11 rfl (λR k0=>gZ 0 rfl e ?_);refine gLo (α:=Nat) 4 (λi=>i<=s.length/\∀(j:Nat) l,j<i->s[j]? =some l->(l.txs.length≠0/\LnM l)/\∀p,0<j->s[j-1]? =some p->ypq p.who l.who=true) (λi=>[(8,.int .i64 (i:Int))]) [1,2,6,7] (λi=>s.length-i) (0) rfl (⟨Nat.zero_le _,λj x h=>by omega⟩) (λi hI=>?_);obtain⟨g1,g2⟩:=hI;refine gS 6 rfl (λh1=>?_) (λh1=>?_)
 ·obtain⟨l,hli⟩:∃l,s[i]? =some l:=⟨_,List.getElem?_eq_getElem Xd⟩
  obtain⟨o1,o2⟩:=hx l (List.mem_of_getElem? hli);have e2:(l.txs.map txW).length=l.txs.length:=List.length_map _;skip
  by_cases h0:l.txs.length=0
  ·exact gP 7 rfl (zGq (i:=i) rfl rfl rfl rfl rfl rfl rfl (zlq lnW hli)) (gZ 10 rfl e2 (gT 0 rfl (eqI_iff.2 Xd) (gO 33 rfl (gQ 2 rfl (by rw[if_neg λq:ShM s=>(q i l hli).1.1 h0])))))
  ·by_cases hm:LnM l
   ·rcases Nat.eq_zero_or_pos i with rfl|hp
    ·exact gP 7 rfl (zGq (i:=0) rfl rfl rfl rfl rfl rfl rfl (zlq lnW hli)) (gZ 10 rfl e2 (gF 0 rfl (eqI_not.2 Xd) (gC 2 rfl (zvq (w':=.int .i64 0) (kdq l o1 o2) Yi) (gF 0 rfl (congrArg not (eqI_iff.2 (rfl))) (gF 3 rfl (ltI_not.2 Xd) (gWr 21 rfl (gAg 2 rfl (0+1) (⟨by omega,λj z hj hz=>by have q0:j=0:=Xd;subst q0;have:=Option.some.inj (hli.symm.trans hz);subst this;exact⟨⟨h0,hm⟩,λy h=>absurd h Xg⟩⟩) Xd)))))))
    ·obtain⟨p,hpi⟩:∃y,s[i-1]? =some y:=⟨_,List.getElem?_eq_getElem Xd⟩
     by_cases hn:ypq p.who l.who=true
     ·exact gP 7 rfl (zGq (i:=i) rfl rfl rfl rfl rfl rfl rfl (zlq lnW hli)) (gZ 10 rfl e2 (gF 0 rfl (eqI_not.2 Xd) (gC 2 rfl (zvq (w':=.int .i64 0) (kdq l o1 o2) Yi) (gF 0 rfl (congrArg not (eqI_iff.2 (rfl))) (gT 3 rfl (ltI_iff.2 Xd) (gA 4 rfl (i-1) (gP 0 rfl (zGq (i:=i-1) rfl rfl rfl rfl rfl rfl rfl (zlq lnW hpi)) (gC 4 rfl (zvq (w':=.bool true) (Jzq p.who l.who) (by rw[hn])) (gWr 10 rfl (gAg 2 rfl (i+1) (⟨by omega,λj z hj hz=>by rcases Nat.lt_succ_iff_lt_or_eq.1 hj with q|rfl;exact g2 j z q hz;have:=Option.some.inj (hli.symm.trans hz);subst this;exact⟨⟨h0,hm⟩,λw _ hw=>by have:=Option.some.inj (hpi.symm.trans hw);subst this;exact hn⟩⟩) Xd))))))))))
     ·have hn':ypq p.who l.who=false:=by simpa using hn
      exact gP 7 rfl (zGq (i:=i) rfl rfl rfl rfl rfl rfl rfl (zlq lnW hli)) (gZ 10 rfl e2 (gF 0 rfl (eqI_not.2 Xd) (gC 2 rfl (zvq (w':=.int .i64 0) (kdq l o1 o2) Yi) (gF 0 rfl (congrArg not (eqI_iff.2 (rfl))) (gT 3 rfl (ltI_iff.2 Xd) (gA 4 rfl (i-1) (gP 0 rfl (zGq (i:=i-1) rfl rfl rfl rfl rfl rfl rfl (zlq lnW hpi)) (gC 4 rfl (zvq (w':=.bool false) (Jzq p.who l.who) (by rw[hn'])) (gO 14 rfl (gQ 2 rfl (by rw[if_neg λq:ShM s=>hn ((q i l hli).2 p hp hpi)])))))))))))
   ·exact gP 7 rfl (zGq (i:=i) rfl rfl rfl rfl rfl rfl rfl (zlq lnW hli)) (gZ 10 rfl e2 (gF 0 rfl (eqI_not.2 Xd) (gC 2 rfl (zvq (w':=.int .i64 8) (kdq l o1 o2) (by rw[if_neg hm])) (gT 0 rfl (congrArg not (eqI_not.2 Xg)) (gO 29 rfl (gQ 2 rfl (by rw[if_neg λq:ShM s=>hm (q i l hli).1.2])))))))
 ·have yes:ShM s:=λj x hj=>g2 j x Yv hj
  exact gO 2 rfl (gQ 8 rfl Yf)
structure Eve where
 (number:Int) (roll:Bool) (hdr:Hdr)
noncomputable def eveW(e:Eve):W:=.agg 100 [.int .i64 e.number,.bool e.roll,hdW e.hdr]
@[simp] theorem eveW_pur(e:Eve):purW (eveW e)=true:=by simp[eveW,purW,purL]
@[simp] theorem eves_pur(l:List Eve):purL (l.map eveW)=true:=yjq eveW_pur l
structure Itm where
 (gap:Bool) (ev:Eve)
noncomputable def itmW(x:Itm):W:=.agg 101 [.bool x.gap,eveW x.ev]
@[simp] theorem xKq(x:Itm):purW (itmW x)=true:=by simp[itmW,purW,purL]
@[simp] theorem itms_pur(l:List Itm):purL (l.map itmW)=true:=yjq xKq l
structure Tp where
 (items:List Itm) (lost:Bool)
noncomputable def tpW(t:Tp):W:=.agg 2 [.fz (t.items.map itmW) 101 false,.bool t.lost]
@[simp] theorem QEq(t:Tp):purW (tpW t)=true:=by simp[tpW,purW,purL]
structure Sb where
 (id beg:Int) (tap:Tp)
noncomputable def sbW(s:Sb):W:=.agg 4 [.int .i64 s.id,.int .i64 s.beg,tpW s.tap]
@[simp] theorem sbW_pur(s:Sb):purW (sbW s)=true:=by simp[sbW,purW,purL]
@[simp] theorem sbs_pur(l:List Sb):purL (l.map sbW)=true:=yjq sbW_pur l
structure Hb where
 (next:Int) (subs:List Sb)
noncomputable def hbW(h:Hb):W:=.agg 2 [.int .i64 h.next,.fz (h.subs.map sbW) 4 false]
@[simp] theorem hbW_pur(h:Hb):purW (hbW h)=true:=by simp[hbW,purW,purL]
def EveM(e:Eve):Prop:=(0<=e.number/\e.number<1073741824)/\okH e.hdr
noncomputable instance(e:Eve):Decidable (EveM e):=Classical.propDecidable _
theorem Jgq(e:Eve):PS cfg G 71 [eveW e] (.bool (decide (EveM e))):=by
 by_cases h0:0<=e.number
 ·by_cases h1:e.number<1073741824
  ·by_cases h2:okH e.hdr
   ·skip
    exact gI 10 rfl (λR k0=>gT 0 rfl (congrArg not (ltI_not.2 Xd)) (gT 3 rfl (ltI_iff.2 Xd) (gC 4 rfl (zvq (w':=.int .i64 0) (kUq e.hdr) (by rw[if_pos h2])) (gT 0 rfl (eqI_iff.2 (rfl)) (gQ 5 rfl (u1q ⟨⟨h0,h1⟩,h2⟩))))))
   ·skip
    exact gI 10 rfl (λR k0=>gT 0 rfl (congrArg not (ltI_not.2 Xd)) (gT 3 rfl (ltI_iff.2 Xd) (gC 4 rfl (zvq (w':=.int .i64 8) (kUq e.hdr) (by rw[if_neg h2])) (gF 0 rfl (eqI_not.2 Xg) (gQ 5 rfl (kZq λq=>h2 q.2))))))
  ·skip
   exact gI 10 rfl (λR k0=>gT 0 rfl (congrArg not (ltI_not.2 Xd)) (gF 3 rfl (ltI_not.2 Xd) (gQ 11 rfl (kZq λq=>h1 q.1.2))))
 ·skip
  exact gI 10 rfl (λR k0=>gF 0 rfl (congrArg not (ltI_iff.2 Xd)) (gQ 15 rfl (kZq λq=>h0 q.1.1)))
theorem Y5q(n:Int):PS cfg G 82 [.int .i64 n] (.bool (decide (0<=n/\n<1073741824))):=by
 by_cases h0:0<=n
 ·by_cases h1:n<1073741824
  ·skip
   exact gI 8 rfl (λR k0=>gT 0 rfl (congrArg not (ltI_not.2 Xd)) (gT 2 rfl (ltI_iff.2 Xd) (gQ 5 rfl (u1q ⟨h0,h1⟩))))
  ·skip
   exact gI 8 rfl (λR k0=>gT 0 rfl (congrArg not (ltI_not.2 Xd)) (gF 2 rfl (ltI_not.2 Xd) (gQ 5 rfl (kZq λq=>h1 q.2))))
 ·skip
  exact gI 8 rfl (λR k0=>gF 0 rfl (congrArg not (ltI_iff.2 Xd)) (gQ 8 rfl (kZq λq=>h0 q.1)))
theorem clit_s(l:List Itm)(f:Bool)(hl:l.length<=1000000000):PS cfg G 143 [.fz (l.map itmW) 101 f] (.fz (l.map itmW) 101 false):=by
 have e:(l.map itmW).length=l.length:=List.length_map _;have hp:∀l:List Itm,purL (l.map itmW)=true:=yjq xKq
 refine gI 9 rfl (λR k0=>?_);first|refine yBq rfl rfl ?_|refine zUq rfl (q8q rfl rfl rfl rfl rfl (λbn hn=>?_))
 refine zsq 2 rfl ?_;refine gS 0 rfl (λh1=>?_) (λh1=>?_)
 ·cases bn with
  |false=>cases h1
  |true=>
   obtain rfl:l=[]:=List.map_eq_nil_iff.1 (hn rfl);exact zQq 7 rfl (yFq (fr2:=[(2,.fz [] 101 false)]) Qm ⟨⟨_,rfl,.nilfz⟩,trivial⟩ rfl rfl)
 ·cases l with
  |nil=>
   skip
   exact zQq 6 rfl (gM 0 rfl (yZq rfl rfl (jxq rfl rfl rfl rfl rfl)) (zdq 4 rfl (yFq (fr2:=[(2,.fz [] 101 false)]) Qm ⟨⟨_,rfl,.sl rfl rfl rfl Xi⟩,trivial⟩ rfl rfl)))
  |cons c l=>
   simp only[List.length_cons] at hl e;exact zQq 6 rfl (gM 0 rfl (yZq rfl rfl (qzq (news:=(c::l).map itmW) (olds:=[]) rfl rfl rfl rfl rfl Xm (by show(0+((c::l).map itmW).length)*136<=_;rw[e];omega) Ys rfl (by show 0<0+(0+((c::l).map itmW).length)*101;rw[e];omega) rfl rfl)) (zdq 4 rfl (yFq (fr2:=[(2,.fz ((c::l).map itmW) 101 false)]) Qm ⟨⟨_,rfl,.sl rfl (hp _) (zAq Xg (Nat.zero_add _) Qj) Xi⟩,trivial⟩ rfl rfl)))
theorem clev_s(l:List Eve)(f:Bool)(hl:l.length<=1000000000):PS cfg G 88 [.fz (l.map eveW) 100 f] (.fz (l.map eveW) 100 false):=by
 have e:(l.map eveW).length=l.length:=List.length_map _;have hp:∀l:List Eve,purL (l.map eveW)=true:=yjq eveW_pur
 refine gI 9 rfl (λR k0=>?_);first|refine yBq rfl rfl ?_|refine zUq rfl (q8q rfl rfl rfl rfl rfl (λbn hn=>?_))
 refine zsq 2 rfl ?_;refine gS 0 rfl (λh1=>?_) (λh1=>?_)
 ·cases bn with
  |false=>cases h1
  |true=>
   obtain rfl:l=[]:=List.map_eq_nil_iff.1 (hn rfl);exact zQq 7 rfl (yFq (fr2:=[(2,.fz [] 100 false)]) Qm ⟨⟨_,rfl,.nilfz⟩,trivial⟩ rfl rfl)
 ·cases l with
  |nil=>
   skip
   exact zQq 6 rfl (gM 0 rfl (yZq rfl rfl (jxq rfl rfl rfl rfl rfl)) (zdq 4 rfl (yFq (fr2:=[(2,.fz [] 100 false)]) Qm ⟨⟨_,rfl,.sl rfl rfl rfl Xi⟩,trivial⟩ rfl rfl)))
  |cons c l=>
   simp only[List.length_cons] at hl e;exact zQq 6 rfl (gM 0 rfl (yZq rfl rfl (qzq (news:=(c::l).map eveW) (olds:=[]) rfl rfl rfl rfl rfl Xm (by show(0+((c::l).map eveW).length)*128<=_;rw[e];omega) Ys rfl (by show 0<0+(0+((c::l).map eveW).length)*100;rw[e];omega) rfl rfl)) (zdq 4 rfl (yFq (fr2:=[(2,.fz ((c::l).map eveW) 100 false)]) Qm ⟨⟨_,rfl,.sl rfl (hp _) (zAq Xg (Nat.zero_add _) Qj) Xi⟩,trivial⟩ rfl rfl)))
theorem tptw_s(t:Tp)(hl:t.items.length<=1000000000):PS cfg G 73 [tpW t] (tpW t):=by
 have hp:=itms_pur t.items;exact gIv 10 rfl (λR k0=>gC 0 rfl (clit_s t.items false hl) (zdq 11 rfl (jkq Qm rfl (.pur (QEq t)))))
theorem lntw_s(l:Ln)(hl:l.txs.length<=1000000000):PS cfg G 205 [lnW l] (lnW l):=by
 have hp:=yOq l.txs;exact gIv 12 rfl (λR k0=>gC 0 rfl (clx_s l.txs false hl) (zdq 5 rfl (jkq Qm rfl (.pur (qqq l)))))
noncomputable def lnA(l:List Ln):W:=.arr (l.length*33) 33 (l.map lnW)
theorem Q4q(l:List Ln):purW (lnA l)=true:=(yjq qqq l:purL (l.map lnW)=true)
theorem lncl_s(l:List Ln)(f:Bool)(hl:l.length<=1000000000):qmq cfg G 204 0 [.fz (l.map lnW) 33 f] [] λw hp nw=>
  (l=[]/\w= .nils/\hp=[]/\nw=0)\/(w= .sl 0 0 0 l.length 33 none/\hp=[(0,133,lnA l)]/\nw=1):=by
 intro R;have e:(l.map lnW).length=l.length:=List.length_map _;have hpp:=Q4q l;refine gIs 9 rfl (λk0=>?_);first|refine yBq rfl rfl ?_|refine zUq rfl (q8q rfl rfl rfl rfl rfl (λbn hn=>?_))
 refine zsq 2 rfl ?_;refine gS 0 rfl (λh1=>?_) (λh1=>?_)
 ·cases bn with
  |false=>cases h1
  |true=>
   obtain rfl:l=[]:=List.map_eq_nil_iff.1 (hn rfl);exact zQq 7 rfl (fin Qm Ent.refl rfl ⟨rfl,.inl ⟨rfl,rfl,rfl,rfl⟩⟩)
 ·cases l with
  |nil=>
   skip
   exact zQq 6 rfl (gM 0 rfl (yZq rfl rfl (jxq rfl rfl rfl rfl rfl)) (zdq 4 rfl (fin Qm Ent.refl rfl ⟨rfl,.inr ⟨rfl,rfl,rfl⟩⟩)))
  |cons c l=>
   refine zQq 6 rfl (gM 0 rfl (yZq rfl rfl (qzq (len:=0) (news:=(c::l).map lnW) (olds:=[]) (k:=ti133) rfl rfl rfl rfl rfl Xm (by show(0+((c::l).map lnW).length)*56<=_;rw[e];omega) Ys rfl (by show 0<0+(0+((c::l).map lnW).length)*33;rw[e];simp only[List.length_cons];omega) rfl rfl)) (zdq 4 rfl ?_));refine fin Qm (yVq (b:=0) (k:=1) (fr2:=[(2,.sl 0 0 0 (c::l).length 33 none)]) (hp2:=[(0,133,lnA (c::l))]) Xd Xd (by show 1<2;omega) ⟨⟨?_,rfl⟩,trivial⟩ ⟨⟨by omega,?_,zeq hpp⟩,trivial⟩ Xm) rfl ⟨rfl,.inr ⟨rfl,rfl,rfl⟩⟩
   ·show some (W.sl 1 0 0 (0+((c::l).map lnW).length) 33 none)=some (W.sl 1 0 0 (c::l).length 33 none);rw[e,Nat.zero_add]
   ·rw[zwq hpp];show some (133,W.arr ((0+((c::l).map lnW).length)*33) 33 ([]++(c::l).map lnW))=some (133,lnA (c::l));rw[e,Nat.zero_add];rfl
noncomputable def sbA(l:List Sb):W:=.arr (l.length*4) 4 (l.map sbW)
theorem sbA_pur(l:List Sb):purW (sbA l)=true:=(yjq sbW_pur l:purL (l.map sbW)=true)
theorem sbcl_s(l:List Sb)(f:Bool)(hl:l.length<=1000000000):qmq cfg G 150 0 [.fz (l.map sbW) 4 f] [] λw hp nw=>
  (l=[]/\w= .nils/\hp=[]/\nw=0)\/(w= .sl 0 0 0 l.length 4 none/\hp=[(0,175,sbA l)]/\nw=1):=by
 intro R;have e:(l.map sbW).length=l.length:=List.length_map _;have hpp:=sbA_pur l;refine gIs 9 rfl (λk0=>?_);first|refine yBq rfl rfl ?_|refine zUq rfl (q8q rfl rfl rfl rfl rfl (λbn hn=>?_))
 refine zsq 2 rfl ?_;refine gS 0 rfl (λh1=>?_) (λh1=>?_)
 ·cases bn with
  |false=>cases h1
  |true=>
   obtain rfl:l=[]:=List.map_eq_nil_iff.1 (hn rfl);exact zQq 7 rfl (fin Qm Ent.refl rfl ⟨rfl,.inl ⟨rfl,rfl,rfl,rfl⟩⟩)
 ·cases l with
  |nil=>
   skip
   exact zQq 6 rfl (gM 0 rfl (yZq rfl rfl (jxq rfl rfl rfl rfl rfl)) (zdq 4 rfl (fin Qm Ent.refl rfl ⟨rfl,.inr ⟨rfl,rfl,rfl⟩⟩)))
  |cons c l=>
   refine zQq 6 rfl (gM 0 rfl (yZq rfl rfl (qzq (len:=0) (news:=(c::l).map sbW) (olds:=[]) (k:=ti175) rfl rfl rfl rfl rfl Xm (by show(0+((c::l).map sbW).length)*48<=_;rw[e];omega) Ys rfl (by show 0<0+(0+((c::l).map sbW).length)*4;rw[e];simp only[List.length_cons];omega) rfl rfl)) (zdq 4 rfl ?_));refine fin Qm (yVq (b:=0) (k:=1) (fr2:=[(2,.sl 0 0 0 (c::l).length 4 none)]) (hp2:=[(0,175,sbA (c::l))]) Xd Xd (by show 1<2;omega) ⟨⟨?_,rfl⟩,trivial⟩ ⟨⟨by omega,?_,zeq hpp⟩,trivial⟩ Xm) rfl ⟨rfl,.inr ⟨rfl,rfl,rfl⟩⟩
   ·show some (W.sl 1 0 0 (0+((c::l).map sbW).length) 4 none)=some (W.sl 1 0 0 (c::l).length 4 none);rw[e,Nat.zero_add]
   ·rw[zwq hpp];show some (175,W.arr ((0+((c::l).map sbW).length)*4) 4 ([]++(c::l).map sbW))=some (175,sbA (c::l));rw[e,Nat.zero_add];rfl
end
section
variable {C:Cfg} {G:Nat->Option W} {o:Oper} {fr:FrW} {hp:HpW} {nw:Nat} {R:Res} {post:W->HpW->Nat->Res->Option EvW->Prop}
theorem step_frz1{w w2 c:W}{ty:TypeId}(h:opHW C G fr hp nw o.op=some (w,(nw,ty,c)::hp,nw+1,.gen))(hc:purW c=true)(hv:View (blk1 nw c) w w2)(hpost:post w2 hp (nw+1) R (some .gen)):Step C G o fr hp nw R post:=λΓ X frv hnw s hf=>by
 subst hnw;obtain⟨v,h',Γ',h1,h2,h3,h4⟩:=opH_sim (rt:=o.type) hf s h;have sat:=h3.sat;have hb:hget ((Γ.nw,ty,c)::hp) Γ.nw=some (ty,c):=by rw[zaq,if_pos rfl]
 obtain⟨p1,p2,p3,u,p4,p5⟩:=sat.own _ _ _ hb;let Γ2:Ctx:=⟨Γ'.nw,Γ'.σ,λd=>Γ'.D d\/d=Γ'.σ Γ.nw,Γ'.h⟩
 have le:Γ'.Le Γ2:=⟨Nat.le_refl _,λ_ _=>rfl,λ_ h=>.inl h,λ_ _=>rfl⟩
 have q:Seen (blk1 Γ.nw c) Γ' Γ2:=⟨λ_ h _=>h,λ_ _ _=>rfl,λ_ h=>.inl h,λ_ _=>rfl,λk c' hk h=>by
  unfold blk1 at h;split at h
  ·rename_i e;rw[Nat.beq_eq] at e;subst e;cases h;exact⟨.inr rfl,u,xvq p4,p5⟩
  ·cases h⟩
 have hlt:Γ'.σ Γ.nw<Γ'.h.next:=by
  rcases Nat.lt_or_ge (Γ'.σ Γ.nw) Γ'.h.next with h|h
  ·exact h
  ·rw[sat.wf _ h] at p4;cases p4
 have hsub:∀k x,hget hp k=some x->k<Γ.nw/\hget ((Γ.nw,ty,c)::hp) k=some x:=λk x hk=>by
  have:=(s.own k x.1 x.2 hk).1;exact⟨this,by rw[zaq,if_neg Xd];exact hk⟩
 refine⟨0,w2,hp,R,some .gen,v,h',Γ2,X,?_,by simp only[opV,h1,h2],⟨h1,h4⟩,h3.hh,⟨Nat.le_trans h3.le.nw le.nw,h3.le.σ,λd h=>.inl (h3.le.D d h),h3.le.val⟩,⟨sat.wf,λk ty' w hk=>?_,λk k' x y hx hy e=>?_,s.nd,λd hd hX=>?_,sat.xlt,λd hd=>?_,R.st _ _ _ _ _ sat.res le.D le.val (λ_ _=>rfl) (Nat.le_refl _),sat.gl.mono le⟩,⟨h3.frm.sig,h3.frm.mle,h3.frm.next,h3.frm.keep,λd h=>.inl (h3.frm.dsub d h),λd hd=>?_,λk x _ hk=>⟨x,hk⟩,λk x hm hk=>?_,λ_ h=>.inl h,h3.frm.wmin⟩,jqq q hv h3.val⟩
 ·show post w2 hp Γ'.nw R _;rw[h3.nw];exact hpost
 ·obtain⟨g1,g2⟩:=hsub k _ hk;obtain⟨q1,q2,q3,u,q4,q5⟩:=sat.own _ _ _ g2;exact⟨q1,λh=>h.elim q2 λe=>by have:=sat.inj k _ _ _ g2 hb e;omega,q3,u,q4,q5.mono le⟩
 ·exact sat.inj _ _ _ _ (hsub k _ hx).2 (hsub k' _ hy).2 e
 ·rcases hd with h|rfl
  ·exact sat.dX d h hX
  ·exact p3 hX
 ·rcases hd with h|rfl
  ·exact sat.dlt d h
  ·exact hlt
 ·rcases hd with h|rfl
  ·exact h3.frm.dnew d h
  ·rcases h3.frm.onum Γ.nw _ (Nat.le_refl _) hb with h|⟨k,y,g1,g2,g3⟩
   ·exact .inr (.inr h)
   ·exact .inr (.inl (.inl ⟨k,y,g2,g3⟩))
 ·have:=(hsub k _ hk).1;omega
theorem step_nilz{w w2:W}(h:opHW C G fr hp nw o.op=some (w,hp,nw,.gen))(hv:View (λ_=>none) w w2)(hpost:post w2 hp (nw+1) R (some .gen)):Step C G o fr hp nw R post:=λΓ X frv hnw s hf=>by
 subst hnw;obtain⟨v,h',Γ',h1,h2,h3,h4⟩:=opH_sim (rt:=o.type) hf s h;have sat:=h3.sat;let Γ2:Ctx:=⟨Γ'.nw+1,Γ'.σ,Γ'.D,Γ'.h⟩
 have le:Γ'.Le Γ2:=⟨Nat.le_succ _,λ_ _=>rfl,λ_ h=>h,λ_ _=>rfl⟩;refine⟨0,w2,hp,R,some .gen,v,h',Γ2,X,?_,by simp only[opV,h1,h2],⟨h1,h4⟩,h3.hh,⟨Nat.le_trans h3.le.nw le.nw,h3.le.σ,h3.le.D,h3.le.val⟩,⟨sat.wf,λk ty' w hk=>?_,sat.inj,s.nd,sat.dX,sat.xlt,sat.dlt,R.st _ _ _ _ _ sat.res le.D le.val (λ_ _=>rfl) (Nat.le_refl _),sat.gl.mono le⟩,⟨h3.frm.sig,λh=>Nat.le_trans (h3.frm.mle h) (Nat.le_succ _),h3.frm.next,h3.frm.keep,h3.frm.dsub,h3.frm.dnew,h3.frm.oext,h3.frm.onum,λ_ h=>.inl h,h3.frm.wmin⟩,jqq (show Seen (λ_=>none) Γ' Γ2 from⟨λ_ h _=>Nat.lt_succ_of_lt h,λ_ _ _=>rfl,λ_ h=>h,λ_ _=>rfl,λ_ _ _ h=>Yw⟩) hv h3.val⟩
 ·show post w2 hp (Γ'.nw+1) R _;rw[h3.nw];exact hpost
 ·obtain⟨q1,q2,q3,u,q4,q5⟩:=sat.own _ _ _ hk;exact⟨Nat.lt_of_lt_of_le q1 (Nat.le_succ _),q2,q3,u,q4,q5.mono le⟩
theorem step_ap0{x y:Operand}{ts tx ty:TypeId}{j k:TyI}{e:Nat}{v:W}{news:List W}(ho:o.op= .call ⟨.builtin .append, #[x,y], #[ts,tx]⟩)(hx:evW C G fr x=some .nils)(hy:evW C G fr y=some v)(hj:C.ty ts=some j)(hd:j.d= .slice ty)(hk:C.ty ty=some k)(he:k.size=e)(hz:Nat.beq k.size 0=false)(hs:srcW C hp tx k.size v=some news)(hpu:purL news=true)(h1:news.length*k.bytes<=140737488355328)(h2:news.length<=70368744177664)(h:post (.fz news e false) hp (nw+1) R (some .gen)):Step C G o fr hp nw R post:=by
 subst he
 have hk0:0<k.size:=by
  rcases Nat.eq_zero_or_pos k.size with q|q
  ·rw[q] at hz;cases hz
  ·exact q
 cases news with
 |nil=>exact step_nilz (by rw[ho];exact yZq hx hy (app_nil0 hj hd hk hz hs)) .nilfz h
 |cons z zs=>
  exact step_frz1 (by rw[ho];exact yZq hx hy (unq hj hd hk hz hs Xm h1 h2)) (show purW (.arr _ _ (z::zs))=true from hpu) (.sl (full:=false) (c:=.arr ((z::zs).length*k.size) k.size (z::zs)) (by unfold blk1;rw[Nat.beq_refl]) hpu (zAq hk0 rfl rfl) Xi) h
end
theorem rv_one{Γ:Ctx}{x:W}{n:Nat}{v:V}(hs:x.size=n)(ha:x.isAgg=true):RV Γ (.arr n n [x]) v↔RV Γ x v:=by
 subst hs;constructor
 ·rintro⟨h1,h2⟩;simp only[RS,RSL] at h2;obtain⟨h2,_,h3,_⟩:=h2;rw[List.take_of_length_le Xd] at h3;exact⟨ha.trans h1,h3⟩
 ·rintro⟨h1,h2⟩;have h3:=qKq h2;refine⟨ha.symm.trans h1,?_⟩;simp only[RS,RSL];exact⟨h3,by simp,by rw[List.take_of_length_le Xd];exact h2,by rw[List.drop_of_length_le Xd]⟩
theorem ps_one{C:Cfg}{G:Nat->Option W}{f:FuncId}{x r:W}{n:Nat}(hs:x.size=n)(ha:x.isAgg=true)(sp:PS C G f [x] r):PS C G f [.arr n n [x]] r:=λR Γ X vs h1 s hv=>
 sp R Γ X vs h1 s (by
  simp only[RVL] at hv⊢;obtain⟨v,vs',e,h,k⟩:=hv;exact⟨v,vs',e,(rv_one hs ha).1 h,k⟩)
section
variable {C:Cfg} {G:Nat->Option W} {o:Oper} {fr:FrW} {hp:HpW} {nw:Nat} {R:Res} {post:W->HpW->Nat->Res->Option EvW->Prop}
theorem hset_hset{b:Nat}{x y:TypeId×W}:∀{hp:HpW},hset (hset hp b x) b y=hset hp b y
 |[]=>rfl
 |(k,w)::l=>by
  simp only[hset];cases q:Nat.beq k b with
  |true=>simp only[hset,q]
  |false=>simp only[hset,q,hset_hset]
theorem step_blk{b:Nat}{ty:TypeId}{w1 w2:W}(he:∀Γ v,RV Γ w1 v->RV Γ w2 v)(h:Step C G o fr hp nw R λw hp' nw' R' ev=>hget hp' b=some (ty,w1)/\post w (hset hp' b (ty,w2)) nw' R' ev):Step C G o fr hp nw R post:=λΓ X frv hnw s hf=>by
 obtain⟨n,w,hp',R',ev,v,h',Γ',X',⟨hb,h1⟩,h2,h3,h4,h5,s',fm,hv⟩:=h Γ X frv hnw s hf
 have hold:∀{k t u},hget (hset hp' b (ty,w2)) k=some (t,u) ->∃u0,hget hp' k=some (t,u0)/\∀v,RV Γ' u0 v->RV Γ' u v:=λ{k t u} h=>by
  rw[kyq hb] at h;split at h
  ·rename_i e;subst e;cases h;exact⟨w1,hb,he Γ'⟩
  ·exact⟨u,h,λ_ q=>q⟩
 refine⟨n,w,_,R',ev,v,h',Γ',X',h1,h2,h3,h4,h5,⟨s'.wf,λk t u h=>?_,λk k' y z hy hz e=>?_,by rw[uRq];exact s'.nd,s'.dX,s'.xlt,s'.dlt,s'.res,s'.gl⟩,fm.trans ⟨λ_ _=>rfl,λh=>h,Nat.le_refl _,λ_ _ _ _=>rfl,λ_ h=>h,λ_ h=>.inl h,λk y _ h=>?_,λk y hk h=>?_,λ_ h=>.inl h,λ_ h _ _=>h⟩,hv⟩
 ·obtain⟨u0,g1,g2⟩:=hold h;obtain⟨q1,q2,q3,v,q4,q5⟩:=s'.own k t u0 g1;exact⟨q1,q2,q3,v,q4,g2 v q5⟩
 ·obtain⟨u0,g1,_⟩:=hold (t:=y.1) (u:=y.2) hy;obtain⟨u1,g2,_⟩:=hold (t:=z.1) (u:=z.2) hz;exact s'.inj k k' _ _ g1 g2 e
 ·obtain⟨u0,g1,_⟩:=hold (t:=y.1) (u:=y.2) h;exact⟨_,g1⟩
 ·obtain⟨u0,g1,_⟩:=hold (t:=y.1) (u:=y.2) h;exact .inr ⟨k,_,hk,g1,rfl⟩
theorem utq{t:TypeId}{x y:Operand}{b i n e:Nat}{l:List W}{z v:W}{ti:TyI}{ty:TypeId}(ho:o.op= .store t x y)(hx:evW C G fr x=some (.ptr b (0+i*e+0)))(hy:evW C G fr y=some v)(hi:C.ty t=some ti)(hs:ti.size=e)(hg:hget hp b=some (ty,.arr (n*e) e l))(hn:l.length=n)(hz:l[i]? =some z)(hzs:z.size=e)(hza:z.isAgg=true)(hv:v.size=e)(ha:v.isAgg=true)(he:0<e)
  (h:post .undef (hset hp b (ty,.arr (n*e) e (l.set i v))) nw R (some (.storeO b))):Step C G o fr hp nw R post:=by
 have hi2:=(List.getElem?_eq_some_iff.1 hz).1;have hsz:Nat.beq v.size ti.size=true:=by rw[hs,hv];exact Nat.beq_refl e
 by_cases h1:n=1
 ·subst h1;obtain⟨a,rfl⟩:=List.length_eq_one_iff.1 hn;obtain rfl:i=0:=by simpa using hi2
  rw[Nat.one_mul] at hg;refine step_blk (b:=b) (ty:=ty) (w1:=v) (w2:=.arr (1*e) e [v]) (λΓ u q=>by rw[Nat.one_mul];exact(rv_one hv ha).2 q) (q9q (ev:=.storeO b) (w:=.undef) (show opHW C G fr hp nw o.op=some (.undef,hset hp b (ty,v),nw,.storeO b) from ?_) ⟨by rw[kyq hg,if_pos rfl],?_⟩)
  ·rw[ho];refine jAq hx hy hi hg hsz ?_ rfl;show yDq 50 (.arr e e [a]) _ v=some v
   have q:(Nat.beq (0+0*e+0) 0&&Nat.beq v.size (W.arr e e [a]).size&&v.isAgg==(W.arr e e [a]).isAgg)=true:=by
    rw[hv,ha];simp[W.size,W.isAgg]
   unfold yDq;rw[q,ha];rfl
  ·have e2:hset (hset hp b (ty,v)) b (ty,.arr (1*e) e [v])=hset hp b (ty,.arr (1*e) e [v]):=by
    exact hset_hset
   rw[e2];exact h
 ·have q1:(Nat.beq (0+i*e+0) 0&&Nat.beq v.size (n*e)&&v.isAgg==true)=false:=by
   have:Nat.beq v.size (n*e)=false:=by
    rw[hv];cases q:Nat.beq e (n*e) with
    |false=>rfl
    |true=>
     have q:=Nat.eq_of_beq_eq_true q;rcases Nat.lt_or_ge n 1 with q2|q2
     ·omega
     ·have:2*e<=n*e:=Nat.mul_le_mul_right e Xd;omega
   rw[this];simp
  have q2:yDq 49 z 0 v=some v:=by
   have q:(Nat.beq 0 0&&Nat.beq v.size z.size&&v.isAgg==z.isAgg)=true:=by
    rw[hv,hzs,ha,hza];simp
   unfold yDq;rw[q,ha];rfl
  exact q9q (ev:=.storeO b) (w:=.undef) (by rw[ho];exact jAq hx hy hi hg hsz (put_in hz he he q1 q2) rfl) h
theorem step_val{w1 w2:W}(he:∀Γ v,RV Γ w1 v->RV Γ w2 v)(h:Step C G o fr hp nw R λw hp' nw' R' ev=>w=w1/\post w2 hp' nw' R' ev):Step C G o fr hp nw R post:=λΓ X frv hnw s hf=>by
 obtain⟨n,w,hp',R',ev,v,h',Γ',X',⟨rfl,h1⟩,h2,h3,h4,h5,s',fm,hv⟩:=h Γ X frv hnw s hf;exact⟨n,w2,hp',R',ev,v,h',Γ',X',h1,h2,h3,h4,h5,s',fm,he _ _ hv⟩
theorem step_getl{t:TypeId}{x:Operand}{b i n e:Nat}{l:List W}{z:W}{ti:TyI}{ty:TypeId}(ho:o.op= .load t x)(hx:evW C G fr x=some (.ptr b (0+i*e+0)))(hi:C.ty t=some ti)(hs:ti.size=e)(hag:ti.agg=true)(hg:hget hp b=some (ty,.arr (n*e) e l))(hn:l.length=n)(hz:l[i]? =some z)(hzs:z.size=e)(hza:z.isAgg=true)(he:0<e)
  (h:post z hp nw R (some (.loadO b))):Step C G o fr hp nw R post:=by
 have hi2:=(List.getElem?_eq_some_iff.1 hz).1;by_cases h1:n=1
 ·subst h1;obtain⟨a,rfl⟩:=List.length_eq_one_iff.1 hn;obtain rfl:i=0:=by simpa using hi2
  obtain rfl:a=z:=by simpa using hz
  rw[Nat.one_mul] at hg;refine step_val (w1:=.arr e e [a]) (w2:=a) (λΓ u q=>(rv_one hzs hza).1 q) (q9q (ev:=.loadO b) (hp2:=hp) (nw2:=nw) (w:=.arr e e [a]) ?_ ⟨rfl,h⟩);rw[ho];refine yEq hx hi hg ?_
  have q:(Nat.beq (0+0*e+0) 0&&Nat.beq ti.size (W.arr e e [a]).size&&ti.agg==(W.arr e e [a]).isAgg)=true:=by
   rw[hs,hag];simp[W.size,W.isAgg]
  unfold zWq;rw[q,hag];rfl
 ·have q1:(Nat.beq (0+i*e+0) 0&&Nat.beq ti.size (n*e)&&ti.agg==true)=false:=by
   have:Nat.beq ti.size (n*e)=false:=by
    rw[hs];cases q:Nat.beq e (n*e) with
    |false=>rfl
    |true=>
     have q:=Nat.eq_of_beq_eq_true q;rcases Nat.lt_or_ge n 1 with q2|q2
     ·omega
     ·have:2*e<=n*e:=Nat.mul_le_mul_right e Xd;omega
   rw[this];simp
  have q2:zWq 49 z 0 ti.size ti.agg=some z:=by
   have q:(Nat.beq 0 0&&Nat.beq ti.size z.size&&ti.agg==z.isAgg)=true:=by
    rw[hs,hzs,hag,hza];simp
   unfold zWq;rw[q,hag];rfl
  exact q9q (ev:=.loadO b) (hp2:=hp) (nw2:=nw) (w:=z) (by rw[ho];exact yEq hx hi hg (get_in hz he he q1 q2)) h
noncomputable def Still(C:Cfg)(G:Nat->Option W)(o:Oper)(fr:FrW)(hp:HpW)(nw:Nat)(R:Res):Prop:=
 ∀Γ X frv,Γ.nw=nw->SatH C G Γ hp X R->FRel Γ fr frv->∃n v h',opV (Sn C n) C frv Γ.h o=some (v,h')/\z1q C frv o.type o.op=none/\∀H1:Heap,H1.next=Γ.h.next->Γ.h.wmin=Γ.h.next->EvR Γ hp .gen (evOf C frv H1 h' o.op)
theorem YQq{x:Operand}{xs:Array Operand}{ats:Array TypeId}{f:FuncId}{a us c ws:List W}{w:W}(ho:o.op= .call ⟨.value x,xs,ats⟩)(hx:evW C G fr x=some (.fn f a c))(he:C.ext f=none)(hxs:evLW C G fr xs.toList=some us)(hws:ViewL (blkA hp) (a++us++c) ws)(sp:PS C G f ws w)(hpw:purL ws=true):Still C G o fr hp nw R:=λΓ X frv hnw s hf=>by
 obtain⟨n,v,Γ1,Γ',w,hp1,nw1,hq,h1,⟨h2,h3⟩,_⟩:=look_core (R:=R) ho hx he hxs hws sp hpw Γ X frv hnw s hf;exact⟨n,v,Γ1.h,h1,h2,h3⟩
theorem step_and(h2:Still C G o fr hp nw R)(h:Step C G o fr hp nw R λw hp' nw' R' _=>post w hp' nw' R' (some .gen)):Step C G o fr hp nw R post:=λΓ X frv hnw s hf=>by
 obtain⟨n,w,hp',R',ev,v,h',Γ',X',h1,e1,_,h4,h5,h6,h7,h8⟩:=h Γ X frv hnw s hf;obtain⟨m,v2,h2',e2,e3⟩:=h2 Γ X frv hnw s hf;have q1:=Y1q (jgq C (Nat.le_max_left n m)).1 e1;have q2:=Y1q (jgq C (Nat.le_max_right n m)).1 e2;have q:=Option.some.inj (q1.symm.trans q2);cases q;exact⟨n,w,hp',R',some .gen,v,h',Γ',X',h1,e1,e3,h4,h5,h6,h7,h8⟩
end
section
variable {G:Nat->Option W}
attribute [local simp] Q4q
attribute [local irreducible] CoW OpW FlW Step Spec
theorem lnA_ne{m i:Nat}(h:m≠1)(hi:i<m):(Nat.beq (0+i*33+0) 0&&Nat.beq 33 (m*33)&&true==true)=false:=by
 have:Nat.beq 33 (m*33)=false:=by
  cases q:Nat.beq 33 (m*33) with
  |false=>rfl
  |true=>have:=Nat.eq_of_beq_eq_true q;omega
 rw[this];simp
theorem lnA_get(s:Shd){i:Nat}{x:Ln}(h1:s.length≠1)(h:s[i]? =some x):zWq 50 (lnA s) (0+i*33+0) 33 true=some (lnW x):=get_in (zlq lnW h) Xd Xd (lnA_ne h1 (List.getElem?_eq_some_iff.1 h).1) rfl
theorem lnA_put(s:Shd){i:Nat}{x:Ln}(h1:s.length≠1)(h:s[i]? =some x):yDq 50 (lnA s) (0+i*33+0) (lnW x)=some (lnA s):=by
 have hx:=zlq lnW h;rw[lnA,put_in (x':=lnW x) hx Xd Xd (lnA_ne h1 (List.getElem?_eq_some_iff.1 h).1) rfl,xyq hx]
theorem shtw_s(s:Shd)(hl:s.length<=1000000000)(hx:∀l∈s,l.txs.length<=1000000000):PS cfg G 149 [shdW s] (shdW s):=by
 have hpp:=Q4q s;have hps:=qEq s;by_cases hs1:s.length=1
 ·obtain⟨x,rfl⟩:=List.length_eq_one_iff.1 hs1;refine gIv 10 rfl (λR k0=>?_);skip
  refine gSo 0 rfl (y3q rfl rfl rfl rfl rfl Yb (lncl_s [x] false hl) ?_);rintro w hp1 nw1 (⟨q,rfl,rfl,rfl⟩|⟨rfl,rfl,rfl⟩)
  ·cases q
  ·rw[kwq hpp];skip
   refine gL 10 rfl ?_;refine gLo (α:=Nat) 4 (λi=>i<=1) (λi=>[(12,.int .i64 (i:Int))]) [2,3,11] (λi=>1-i) (0) rfl (Nat.zero_le _) (λi hI=>?_);refine gS 6 rfl (λh1=>?_) (λh1=>?_)
   ·obtain rfl:i=0:=by omega
    refine gP 17 rfl (jYq (i:=0) rfl rfl rfl rfl rfl rfl rfl Xm) (gM 0 rfl (yEq rfl rfl rfl (show zWq 50 (lnA [x]) (0+0*33+0) 33 true=some (lnA [x]) from rfl)) (gC 0 rfl (ps_one rfl rfl (lntw_s x (hx x Xm))) (gP 0 rfl (jYq (i:=0) rfl rfl rfl rfl rfl rfl rfl Xm) (gM 0 rfl (jAq rfl rfl rfl rfl rfl (show yDq 50 (lnA [x]) _ (lnW x)=some (lnW x) from rfl) rfl) (zdq 4 rfl (vKq (λ_=>ent_blk (b:=2) (w':=lnA [x]) rfl (λΓ v h=>show RV Γ (.arr 33 33 [lnW x]) v from(rv_one (x:=lnW x) (n:=33) rfl rfl).2 h)) (op_nat (0+1) rfl rfl rfl ⟨by omega,by omega⟩ ?_)))))))
    exact run_p 2 rfl (gAg 0 rfl (0+1) Xd Xd)
   ·obtain rfl:i=1:=by omega
    exact gO 2 rfl (zdq 9 rfl (jkq Qm rfl (.agg (.cons (.sl (full:=false) (c:=lnA [x]) rfl (qEq [x]) (zAq Xg Xm rfl) Xi) .nil))))
 ·skip
  refine gIv 10 rfl (λR k0=>?_);skip
  refine gSo 0 rfl (y3q rfl rfl rfl rfl rfl Yb (lncl_s s false hl) ?_);rintro w hp1 nw1 (⟨rfl,rfl,rfl,rfl⟩|⟨rfl,rfl,rfl⟩)
  ·skip
   skip
   refine gL 10 rfl ?_;refine gLo (α:=Nat) 4 (λi=>i=0) (λi=>[(12,.int .i64 (i:Int))]) [2,3,11] (λi=>0) (0) rfl (rfl) (λi hI=>?_);subst hI;exact gO 9 rfl (zdq 9 rfl (jkq Qm rfl (.agg (.cons .nilfz .nil))))
  ·rw[kwq hpp];refine gL 10 rfl ?_;refine gLo (α:=Nat) 4 (λi=>i<=s.length) (λi=>[(12,.int .i64 (i:Int))]) [2,3,11] (λi=>s.length-i) (0) rfl (Nat.zero_le _) (λi hI=>?_);refine gS 6 rfl (λh1=>?_) (λh1=>?_)
   ·have hi:i<s.length:=by omega
    obtain⟨x,hxi⟩:∃x,s[i]? =some x:=⟨_,List.getElem?_eq_getElem hi⟩
    exact gP 17 rfl (jYq (i:=i) rfl rfl rfl rfl rfl rfl rfl hi) (gM 0 rfl (yEq rfl rfl rfl (lnA_get s hs1 hxi)) (gC 0 rfl (lntw_s x (hx x (List.mem_of_getElem? hxi))) (gP 0 rfl (jYq (i:=i) rfl rfl rfl rfl rfl rfl rfl hi) (gM 0 rfl (st_same rfl rfl rfl rfl rfl (lnA_put s hs1 hxi)) (gA 4 rfl (i+1) (gAg 2 rfl (i+1) (hi) Xd))))))
   ·exact gO 2 rfl (zdq 9 rfl (jkq Qm rfl (.agg (.cons (.sl (full:=false) (c:=lnA s) rfl (qEq s) (zAq Xg Xm rfl) Xi) .nil))))
theorem pltw_s(l:List Shd)(hl:l.length<=1000000)(hx:∀s∈l,s.length<=1000000000/\∀y∈s,y.txs.length<=1000000000):PS cfg G 84 [plW l] (plW l):=by
 have e:(l.map shdW).length=l.length:=List.length_map _;refine gIv 14 rfl (λR k0=>gZ 0 rfl e (zdq 4 rfl ?_));refine Zjq (α:=Nat) (λi=>i<=l.length) 3 (λi=>(l.take i).map shdW) 131 1 (λi=>[(8,.int .i64 (i:Int))]) [(2,_),(6,_),(7,_)] _ (λi=>l.length-i) (0) ⟨rfl,rfl,rfl,trivial⟩ (Nat.zero_le _) ⟨rfl,trivial⟩ rfl rfl rfl (λi hI=>?_);refine ycq 6 rfl ?_;refine gS 0 rfl (λh1=>?_) (λh1=>?_)
 ·have hi:i<l.length:=by omega
  obtain⟨x,hxi⟩:∃x,l[i]? =some x:=⟨_,List.getElem?_eq_getElem hi⟩
  obtain⟨b1,b2⟩:=hx x (List.mem_of_getElem? hxi);have hlt:((l.take i).map shdW).length<=1000000:=by rw[List.length_map,List.length_take];omega
  have es:(l.take (i+1)).map shdW=(l.take i).map shdW++[shdW x]:=by rw[List.take_add_one,hxi,List.map_append];rfl
  have ep:=jEq (l.take i);have ep2:purL ((l.take i).map shdW++[shdW x])=true:=by rw[<-es];exact jEq _
  exact gP 6 rfl (zGq (i:=i) rfl rfl rfl rfl rfl rfl rfl (zlq shdW hxi)) (gC 8 rfl (shtw_s x b1 b2) (gM 1 rfl (yZq rfl rfl (Qrq [_,_] (k:=ti131) (news:=[shdW x]) rfl rfl rfl rfl rfl (uuq rfl rfl rfl rfl) Xm (by show(((l.take i).map shdW).length+1)*24<=_;omega) (by show((l.take i).map shdW).length+1<=_;omega) rfl Xm)) (gA 5 rfl (i+1) (zdq 2 rfl (xCq 3 (i+1) (hi) Xd (Nat.zero_le _) (es) Xv Xd Ym rfl Ya ⟨rfl,trivial⟩ ⟨rfl,rfl,rfl,trivial⟩ Xh Xh rfl Xn Xj Xw)))))
 ·rw[List.take_of_length_le (show l.length<=i by omega)];exact zdq 2 rfl (qQq Xi (z0q 9 rfl (jkq Xt rfl (view_g (H0:=[]) Xg (jEq _) Xm))))
end
section
attribute [local irreducible] CoW OpW FlW Step Spec
variable {G:Nat->Option W}
def Uns(x:Tx):Prop:=x.sign≠jSq x
noncomputable instance(x:Tx):Decidable (Uns x):=Classical.propDecidable _
noncomputable instance(l:List Tx):Decidable (∃x∈l,Uns x):=Classical.propDecidable _
theorem uns1_s(x:Tx)(hx:x.ok):PS cfg glK 80 [txW x] (.bool (decide (Uns x))):=by
 by_cases h:x.sign=jSq x
 ·skip
  exact gI 9 rfl (λR k0=>gC 0 rfl (zvq (w':=.int .i64 0) (qMq x hx) (by rw[if_pos h])) (gF 0 rfl (congrArg not (eqI_iff.2 (rfl))) (gQ 4 rfl (kZq λq=>q h))))
 ·skip
  exact gI 9 rfl (λR k0=>gC 0 rfl (zvq (w':=.int .i64 110) (qMq x hx) (by rw[if_neg h])) (gT 0 rfl (congrArg not (eqI_not.2 Xg)) (gQ 4 rfl (u1q h))))
theorem uns_s(l:List Tx)(f:Bool)(hx:∀x∈l,x.ok)(hl:l.length<=1000000000):PS cfg glK 31 [.fz (l.map txW) 99 f] (.bool (decide (∃x∈l,Uns x))):=by
 have hc:=cntx_s (G:=glK) l f 80 Uns (λx h=>uns1_s x (hx x h)) rfl hl;have hp:=yOq l;exact gI 8 rfl (λR k0=>gC 0 rfl (hc) (gQa 4 rfl))
noncomputable def tp0:W:=.agg 2 [.nils,.bool false]
theorem tp0_view{μ:Nat->Option W}:View μ tp0 (tpW ⟨[],false⟩):=.agg (.cons .nilfz (.cons (.pur rfl) .nil))
theorem cl0i:PS cfg G 143 [.nils] .nils:=by
 refine ps_in (fn:=Tryz.f143) rfl rfl rfl (Nat.le_of_ble_eq_true rfl) (λR k0=>?_);skip
 exact ycq 20 rfl (gQa 0 rfl)
theorem with0_s(x:Itm)(f:Bool):PS cfg G 72 [tp0,.fz [itmW x] 101 f] (tpW ⟨[x],false⟩):=by
 have hp:purL [itmW x]=true:=by simp[purL]
 refine gIv 10 rfl (λR k0=>gC 0 rfl (cl0i) (zdq 1 rfl ?_))
 (refine zUq rfl (step_ap0 (k:=ti61) (e:=101) (news:=[itmW x]) rfl rfl rfl rfl rfl rfl rfl rfl rfl hp (by show 1*136<=_;omega) Xm ?_))
 exact zsq 5 rfl (jkq Qm rfl (.pur (QEq ⟨[x],false⟩)))
theorem tpchk0_s:PS cfg G 70 [tp0] (.int .i64 0):=by
 refine gI 11 rfl (λR k0=>?_);refine gL 0 rfl ?_;refine gF 0 rfl (ltI_not.2 Xg) ?_;refine gL 17 rfl ?_;refine gLo (α:=Nat) 4 (λi=>i=0) (λi=>[(14,.int .i64 (i:Int))]) [2,3,12,13] (λi=>0) (0) rfl (rfl) (λi hI=>?_);subst hI;refine gO 9 rfl ?_;exact gQa 8 rfl
theorem ixev_s(xs:List Eve)(f:Bool)(F:FuncId)(cs:List W)(hcs:purL cs=true)(P:Eve->Prop) [DecidablePred P](hF:∀x∈xs,PS cfg G F (eveW x::cs) (.bool (decide (P x))))(hF0:cfg.ext F=none)(hn:xs.length<=1000000000):PE cfg G 69 [.fz (xs.map eveW) 100 f,.fn F [] cs] (λw=>∃i:Int,w= .int .i64 i/\((∃x∈xs,P x)↔0<=i)):=by
 have e:(xs.map eveW).length=xs.length:=List.length_map _;refine gIe 9 rfl (λR k0=>gZ 0 rfl e ?_);refine gLo (α:=Nat) 4 (λi=>i<=xs.length/\∀j x,j<i->xs[j]? =some x->¬P x) (λi=>[(8,.int .i64 (i:Int))]) [0,1,4,7] (λi=>xs.length-i) (0) rfl (⟨Nat.zero_le _,λj x h=>by omega⟩) (λi hI=>?_);obtain⟨g1,g2⟩:=hI;refine gS 6 rfl (λh1=>?_) (λh1=>?_)
 ·obtain⟨x,hx⟩:∃x,xs[i]? =some x:=⟨_,List.getElem?_eq_getElem Xd⟩
  refine gP 15 rfl (zGq (i:=i) rfl rfl rfl rfl rfl rfl rfl (zlq eveW hx)) (zdq 1 rfl (op_ps rfl rfl rfl hF0 rfl rfl (hF x (List.mem_of_getElem? hx)) (by simp[purL,hcs]) Xm (zsq 2 rfl ?_)));refine gS 0 rfl (λh2=>?_) (λh2=>?_)
  ·exact gO 9 rfl (zdq 2 rfl (yCq (w':=.int .i64 (i:Int)) Qm rfl (.pur rfl) rfl ⟨_,rfl,λ_=>by omega,λ_=>⟨x,List.mem_of_getElem? hx,h2⟩⟩))
  ·exact gA 4 rfl (i+1) (gAg 2 rfl (i+1) (⟨by omega,λj y hj hy=>by rcases Nat.lt_succ_iff_lt_or_eq.1 hj with q|rfl;exact g2 j y q hy;exact Option.some.inj (hx.symm.trans hy)▸h2⟩) Xd)
 ·refine gO 2 rfl (zdq 8 rfl ?_)
  exact yCq (w':=.int .i64 (-1)) Qm rfl (.pur rfl) rfl ⟨_,rfl,λ⟨x,hx,q⟩=>by
   obtain⟨j,hj⟩:=List.getElem?_of_mem hx;exact absurd q (g2 j x Yv hj),λh=>absurd h Xg⟩
theorem ctev_s(xs:List Eve)(f:Bool)(F:FuncId)(cs:List W)(hcs:purL cs=true)(P:Eve->Prop) [DecidablePred P](hF:∀x∈xs,PS cfg G F (eveW x::cs) (.bool (decide (P x))))(hF0:cfg.ext F=none)(hn:xs.length<=1000000000) [Decidable (∃x∈xs,P x)]:PS cfg G 25 [.fz (xs.map eveW) 100 f,.fn F [] cs] (.bool (decide (∃x∈xs,P x))):=by
 have hcs2:purW (.fn F [] cs)=true:=by show(true&&purL cs)=true;rw[hcs];rfl
 refine gI 9 rfl (λR k0=>?_)
 (refine zUq rfl (x1q rfl rfl rfl rfl rfl (ixev_s xs f F cs hcs P hF hF0 hn) (by simp[purL,purW,hcs]) ?_);rintro w hw ⟨i,rfl,hi⟩)
 refine op_cz rfl rfl ?_;refine zsq 4 rfl ?_;exact gQ 0 rfl (by rw[decide_eq_decide.2 hi])
theorem ixln_s(xs:List Ln)(f:Bool)(F:FuncId)(cs:List W)(hcs:purL cs=true)(P:Ln->Prop) [DecidablePred P](hF:∀x∈xs,PS cfg G F (lnW x::cs) (.bool (decide (P x))))(hF0:cfg.ext F=none)(hn:xs.length<=1000000000):PE cfg G 145 [.fz (xs.map lnW) 33 f,.fn F [] cs] (λw=>∃i:Int,w= .int .i64 i/\((∃x∈xs,P x)↔0<=i)):=by
 have e:(xs.map lnW).length=xs.length:=List.length_map _;refine gIe 9 rfl (λR k0=>gZ 0 rfl e ?_);refine gLo (α:=Nat) 4 (λi=>i<=xs.length/\∀j x,j<i->xs[j]? =some x->¬P x) (λi=>[(8,.int .i64 (i:Int))]) [0,1,4,7] (λi=>xs.length-i) (0) rfl (⟨Nat.zero_le _,λj x h=>by omega⟩) (λi hI=>?_);obtain⟨g1,g2⟩:=hI;refine gS 6 rfl (λh1=>?_) (λh1=>?_)
 ·obtain⟨x,hx⟩:∃x,xs[i]? =some x:=⟨_,List.getElem?_eq_getElem Xd⟩
  refine gP 15 rfl (zGq (i:=i) rfl rfl rfl rfl rfl rfl rfl (zlq lnW hx)) (zdq 1 rfl (op_ps rfl rfl rfl hF0 rfl rfl (hF x (List.mem_of_getElem? hx)) (by simp[purL,hcs]) Xm (zsq 2 rfl ?_)));refine gS 0 rfl (λh2=>?_) (λh2=>?_)
  ·exact gO 9 rfl (zdq 2 rfl (yCq (w':=.int .i64 (i:Int)) Qm rfl (.pur rfl) rfl ⟨_,rfl,λ_=>by omega,λ_=>⟨x,List.mem_of_getElem? hx,h2⟩⟩))
  ·exact gA 4 rfl (i+1) (gAg 2 rfl (i+1) (⟨by omega,λj y hj hy=>by rcases Nat.lt_succ_iff_lt_or_eq.1 hj with q|rfl;exact g2 j y q hy;exact Option.some.inj (hx.symm.trans hy)▸h2⟩) Xd)
 ·refine gO 2 rfl (zdq 8 rfl ?_)
  exact yCq (w':=.int .i64 (-1)) Qm rfl (.pur rfl) rfl ⟨_,rfl,λ⟨x,hx,q⟩=>by
   obtain⟨j,hj⟩:=List.getElem?_of_mem hx;exact absurd q (g2 j x Yv hj),λh=>absurd h Xg⟩
theorem ctln_s(xs:List Ln)(f:Bool)(F:FuncId)(cs:List W)(hcs:purL cs=true)(P:Ln->Prop) [DecidablePred P](hF:∀x∈xs,PS cfg G F (lnW x::cs) (.bool (decide (P x))))(hF0:cfg.ext F=none)(hn:xs.length<=1000000000) [Decidable (∃x∈xs,P x)]:PS cfg G 76 [.fz (xs.map lnW) 33 f,.fn F [] cs] (.bool (decide (∃x∈xs,P x))):=by
 have hcs2:purW (.fn F [] cs)=true:=by show(true&&purL cs)=true;rw[hcs];rfl
 refine gI 9 rfl (λR k0=>?_)
 (refine zUq rfl (x1q rfl rfl rfl rfl rfl (ixln_s xs f F cs hcs P hF hF0 hn) (by simp[purL,purW,hcs]) ?_);rintro w hw ⟨i,rfl,hi⟩)
 refine op_cz rfl rfl ?_;refine zsq 4 rfl ?_;exact gQ 0 rfl (by rw[decide_eq_decide.2 hi])
end
section
variable {C:Cfg} {G:Nat->Option W} {o:Oper} {hp:HpW} {nw:Nat} {fr:FrW} {R:Res} {post:W->HpW->Nat->Res->Option EvW->Prop}
theorem step_fr1(b:Nat)(fr2:FrW)(hp2:HpW){ty:TypeId}{c:W}(hb:hget hp b=some (ty,c))(hc:purW c=true)(hf:subV (blk1 b c) fr fr2)(hh:subVH (blk1 b c) b hp hp2)(nd:(hp2.map (·.1)).Nodup)
  (h:Step C G o fr2 hp2 nw R λw hp' nw' R' ev=>ev=some .gen/\post w hp' nw' R' ev):Step C G o fr hp nw R post:=λΓ X frv hnw s f0=>by
 obtain⟨p1,p2,p3,v0,p4,p5⟩:=s.own b ty c hb;let Γ2:Ctx:=⟨Γ.nw,Γ.σ,λc=>Γ.D c\/c=Γ.σ b,Γ.h⟩
 have le:Γ.Le Γ2:=⟨Nat.le_refl _,λ_ _=>rfl,λ_ h=>.inl h,λ_ _=>rfl⟩
 have q:Seen (blk1 b c) Γ Γ2:=⟨λ_ h _=>h,λ_ _ _=>rfl,λ_ h=>.inl h,λ_ _=>rfl,λk c' hk h=>by
  unfold blk1 at h;split at h
  ·rename_i e;rw[Nat.beq_eq] at e;subst e;cases h;exact⟨.inr rfl,v0,xvq p4,p5⟩
  ·cases h⟩
 have hlt:Γ.σ b<Γ.h.next:=by
  rcases Nat.lt_or_ge (Γ.σ b) Γ.h.next with h|h
  ·exact h
  ·rw[s.wf _ h] at p4;cases p4
 have s2:SatH C G Γ2 hp2 X R:=⟨s.wf,λk ty' w hk=>by
  obtain⟨g1,w0,g2,g3⟩:=jRq hh k _ _ hk;obtain⟨q1,q2,q3,u,q4,q5⟩:=s.own _ _ _ g2;refine⟨q1,λh=>?_,q3,u,q4,jqq q g3 q5⟩;rcases h with h|h
  ·exact q2 h
  ·exact g1 (s.inj k b _ _ g2 hb h),λk k' x y hx hy e=>by
  obtain⟨_,w0,g2,_⟩:=jRq hh k x.1 x.2 hx;obtain⟨_,w1,g4,_⟩:=jRq hh k' y.1 y.2 hy;exact s.inj _ _ _ _ g2 g4 e,nd,λd hd hX=>by
  rcases hd with h|rfl
  ·exact s.dX d h hX
  ·exact p3 hX,s.xlt,λd hd=>by
  rcases hd with h|rfl
  ·exact s.dlt d h
  ·exact hlt,R.st _ _ _ _ _ s.res le.D le.val (λ_ _=>rfl) (Nat.le_refl _),s.gl.mono le⟩
 have a:Frm Γ.nw Γ hp X Γ2 hp2 X:=⟨λ_ _=>rfl,λh=>h,Nat.le_refl _,λ_ _ _ _=>rfl,λ_ h=>.inl h,λd hd=>by
  rcases hd with h|rfl
  ·exact .inl h
  ·exact .inr (.inl (.inl ⟨b,_,hb,rfl⟩)),λk x hk h=>by
  obtain⟨_,w0,g2,_⟩:=jRq hh k x.1 x.2 h;exact⟨_,g2⟩,λk x hk h=>by
  obtain⟨_,w0,g2,_⟩:=jRq hh k x.1 x.2 h;exact .inr ⟨k,_,hk,g2,rfl⟩,λ_ h=>.inl h,λ_ h _ _=>h⟩
 obtain⟨n,w,hp',R',ev,v,h',Γ',X',⟨rfl,h1⟩,h2,⟨h3,h3'⟩,h4,h5,h6,h7,h8⟩:=h Γ2 X frv hnw s2 λt w hw=>by
  obtain⟨w0,g1,g2⟩:=xxq hf t w hw;obtain⟨u,g3,g4⟩:=f0 _ _ g1;exact⟨u,g3,jqq q g2 g4⟩
 exact⟨n,w,hp',R',_,v,h',Γ',X',h1,h2,⟨h3,h3'⟩,h4,⟨h5.nw,h5.σ,λc hc=>h5.D c (.inl hc),λc hc=>h5.val c (.inl hc)⟩,h6,a.trans h7,h8⟩
end
section
attribute [local irreducible] CoW OpW FlW Step Spec
variable {G:Nat->Option W}
attribute [local simp] sbA_pur
theorem sbA_ne{i m:Nat}:(Nat.beq (0+i*4+2) 0&&Nat.beq 2 (m*4)&&true==true)=false:=by
 have:Nat.beq (0+i*4+2) 0=false:=by
  cases q:Nat.beq (0+i*4+2) 0 with
  |false=>rfl
  |true=>have:=Nat.eq_of_beq_eq_true q;omega
 rw[this];rfl
theorem sbA_get{l:List Sb}{i:Nat}{x:Sb}(h:l[i]? =some x):zWq 50 (sbA l) (0+i*4+2) 2 true=some (tpW x.tap):=get_in (zlq sbW h) Xd Xd sbA_ne rfl
theorem sbA_put{l:List Sb}{i:Nat}{x:Sb}(h:l[i]? =some x):yDq 50 (sbA l) (0+i*4+2) (tpW x.tap)=some (sbA l):=by
 have hx:=zlq sbW h;rw[sbA,put_in (x':=sbW x) hx Xd Xd sbA_ne rfl,xyq hx]
theorem hbtw_s(h:Hb)(hl:h.subs.length<=1000000000)(hx:∀s∈h.subs,s.tap.items.length<=1000000000):PS cfg G 85 [hbW h] (hbW h):=by
 obtain⟨n,l⟩:=h;simp only at hl hx;have hpp:=sbA_pur l;have hps:=sbs_pur l;refine gIv 10 rfl (λR k0=>?_);skip
 refine gSo 0 rfl (y3q rfl rfl rfl rfl rfl Yb (sbcl_s l false hl) ?_);rintro w hp1 nw1 (⟨rfl,rfl,rfl,rfl⟩|⟨rfl,rfl,rfl⟩)
 ·skip
  skip
  refine gL 9 rfl ?_;refine gLo (α:=Nat) 4 (λi=>i=0) (λi=>[(11,.int .i64 (i:Int))]) [1,2,10] (λi=>0) (0) rfl (rfl) (λi hI=>?_);subst hI;exact gO 9 rfl (zdq 9 rfl (jkq Qm rfl (.agg (.cons (.pur rfl) (.cons .nilfz .nil)))))
 ·rw[kwq hpp];refine gL 9 rfl ?_;refine gLo (α:=Nat) 4 (λi=>i<=l.length) (λi=>[(11,.int .i64 (i:Int))]) [1,2,10] (λi=>l.length-i) (0) rfl (Nat.zero_le _) (λi hI=>?_);refine gS 6 rfl (λh1=>?_) (λh1=>?_)
  ·have hi:i<l.length:=by omega
   obtain⟨x,hxi⟩:∃x,l[i]? =some x:=⟨_,List.getElem?_eq_getElem hi⟩
   exact gP 17 rfl (jYq (i:=i) rfl rfl rfl rfl rfl rfl rfl hi) (gM 1 rfl (yEq rfl rfl rfl (sbA_get hxi)) (gC 0 rfl (tptw_s x.tap (hx x (List.mem_of_getElem? hxi))) (gP 0 rfl (jYq (i:=i) rfl rfl rfl rfl rfl rfl rfl hi) (gM 1 rfl (st_same rfl rfl rfl rfl rfl (sbA_put hxi)) (gA 4 rfl (i+1) (gAg 2 rfl (i+1) (hi) Xd))))))
  ·exact gO 2 rfl (zdq 9 rfl (jkq Qm rfl (.agg (.cons (.pur rfl) (.cons (.sl (full:=false) (c:=sbA l) rfl (sbs_pur l) (zAq Xg Xm rfl) Xi) .nil)))))
def Push0(e:Eve):W->Prop:=λw=>∃t:Tp,w= .tup [tpW t,.int .i64 (if EveM e then 0 else 8)]
theorem tpE_pur(t:Tp)(e:Int):purW (.tup [tpW t,.int .i64 e])=true:=by simp[purW,purL]
theorem push0_s(e:Eve):PE cfg G 27 [tp0,.int .i64 1,eveW e] (Push0 e):=by
 by_cases h:EveM e
 ·skip
  refine gIe 13 rfl (λR k0=>?_);refine gL 0 rfl ?_;refine gWr 0 rfl ?_;refine gC 16 rfl (tpchk0_s) ?_;refine gF 0 rfl (congrArg not (eqI_iff.2 (rfl))) ?_;refine gC 2 rfl (zvq (w':=.bool true) (Jgq e) (by rw[decide_eq_true (h)])) ?_;refine gF 9 rfl (ltI_not.2 Xg) ?_;refine gF 2 rfl (ltI_not.2 Xg) ?_;refine gT 24 rfl (congrArg not (ltI_not.2 Xg)) ?_;refine gSo 10 rfl (step_fr1 4 [(56,tp0),(58,.fz [itmW ⟨false,e⟩] 101 false),(6,.ptr 2 0)] [(2,106,.agg 2 [.nils,.bool false])] (c:=itmW ⟨false,e⟩) rfl (xKq _) ⟨⟨_,rfl,.pur rfl⟩,⟨_,rfl,.sl (full:=false) (c:=itmW ⟨false,e⟩) rfl (xKq _) rfl Xi⟩,⟨_,rfl,.ptrK rfl⟩,trivial⟩ ⟨⟨by decide,_,rfl,.pur rfl⟩,trivial⟩ Xm (QIq rfl rfl rfl rfl rfl (with0_s ⟨false,e⟩ false) (by simp[purL,purW,tp0]) Xm ⟨rfl,?_⟩));refine zdq 7 rfl ?_;exact yCq (w':=.tup [tpW ⟨[⟨false,e⟩],false⟩,.int .i64 0]) Qm rfl (.pur (tpE_pur _ _)) (tpE_pur _ _) ⟨_,by rw[if_pos h]⟩
 ·skip
  refine gIe 13 rfl (λR k0=>?_);refine gL 0 rfl ?_;refine gWr 0 rfl ?_;refine gC 16 rfl (tpchk0_s) ?_;refine gF 0 rfl (congrArg not (eqI_iff.2 (rfl))) ?_;refine gC 2 rfl (zvq (w':=.bool false) (Jgq e) (by rw[decide_eq_false (h)])) ?_;refine zdq 16 rfl ?_;exact yCq (w':=.tup [tpW ⟨[],false⟩,.int .i64 8]) Qm rfl (.tup (.cons tp0_view (.cons (.pur rfl) .nil))) (tpE_pur _ _) ⟨_,by rw[if_neg h]⟩
theorem auchk1_s(e:Eve):PS cfg G 26 [eveW e] (.bool (decide (¬EveM e))):=by
 by_cases h:EveM e
 ·skip
  refine gI 10 rfl (λR k0=>gE 0 rfl (push0_s e) ?_);rintro w hw ⟨t,rfl⟩;rw[if_pos h]
  exact gF 11 rfl (congrArg not (eqI_iff.2 (rfl))) (gQ 4 rfl (kZq λq=>q h))
 ·skip
  refine gI 10 rfl (λR k0=>gE 0 rfl (push0_s e) ?_);rintro w hw ⟨t,rfl⟩;rw[if_neg h]
  exact gT 11 rfl (congrArg not (eqI_not.2 Xg)) (gQ 4 rfl (u1q h))
end
theorem pspec_gl{C:Cfg}{G G2:Nat->Option W}{f:FuncId}{m:Nat}{ws:List W}{hp:HpW}{Q:W->HpW->Nat->Prop}(hG:∀g w,G g=some w->G2 g=some w)(h:qmq C G f m ws hp Q):qmq C G2 f m ws hp Q:=λR Γ X vs e s hv=>by
 obtain⟨n,v,Γ',X',w,hp',R',h1,h2,h3,h4,h5⟩:=h R Γ X vs e ⟨s.wf,s.own,s.inj,s.nd,s.dX,s.xlt,s.dlt,s.res,λg w hg hw=>s.gl g w hg (hG g w hw)⟩ hv;refine⟨n,v,Γ',X',w,hp',R',h1,⟨h2.wf,h2.own,h2.inj,h2.nd,h2.dX,h2.xlt,h2.dlt,h2.res,λg w hg hw nw σ=>RV.mono (Γ:=⟨nw,σ,Γ.D,Γ.h⟩) (Γ':=⟨nw,σ,Γ'.D,Γ'.h⟩) ⟨Nat.le_refl _,λ_ _=>rfl,h3.dsub,λc hc=>yJq (h3.keep c (s.dlt c hc) ?_ (s.dX c hc))⟩ (s.gl g w hg hw nw σ)⟩,h3,h4,h5⟩;rintro⟨b,x,hb,rfl⟩;exact(s.own b x.1 x.2 hb).2.1 hc
theorem ps_gl{C:Cfg}{G G2:Nat->Option W}{f:FuncId}{ws:List W}{r:W}(hG:∀g w,G g=some w->G2 g=some w)(h:PS C G f ws r):PS C G2 f ws r:=pspec_gl hG h
def hdG:Hdr:=⟨0,kkq,kkq,kkq,0⟩
def itZ:Itm:=⟨false,⟨0,false,hdG⟩⟩
def itG:Itm:=⟨true,⟨0,false,hdG⟩⟩
noncomputable def glT:Nat->Option W:=λg=>match Nat.beq g 0 with
 |true=>some (itmW itG)
 |false=>glK g
theorem vNq(g:Nat)(w:W)(h:glK g=some w):glT g=some w:=by
 unfold glT;split
 ·rename_i e;obtain rfl:=Nat.eq_of_beq_eq_true e;cases h
 ·exact h
noncomputable instance(x y:Itm):Decidable (x=y):=Classical.propDecidable _
theorem eq_it(x y:Itm):eqW cfg 300 61 (itmW x) (itmW y)=some (decide (x=y)):=by
 rw[dec_and (p:=x=y) (b:=decide (x.gap=y.gap)&&((decide (x.ev.number=y.ev.number)&&(decide (x.ev.roll=y.ev.roll)&&((decide (x.ev.hdr.height=y.ev.hdr.height)&&(decide (x.ev.hdr.parent=y.ev.hdr.parent)&&(decide (x.ev.hdr.state=y.ev.hdr.state)&&(decide (x.ev.hdr.rows=y.ev.hdr.rows)&&(decide (x.ev.hdr.many=y.ev.hdr.many)&&true)))))&&true)))&&true)) (by
  obtain⟨a,b,c,d,e,f,g,h⟩:=x;obtain⟨a',b',c',d',e',f',g',h'⟩:=y;simp only[Itm.mk.injEq,Eve.mk.injEq,Hdr.mk.injEq,Bool.and_eq_true,decide_eq_true_eq,and_true])]
 exact uXq rfl rfl rfl rfl (y8q rfl rfl rfl (eq_bool rfl rfl) (y8q rfl rfl rfl (uXq rfl rfl rfl rfl (y8q rfl rfl rfl (eq_int rfl rfl) (y8q rfl rfl rfl (eq_bool rfl rfl) (y8q rfl rfl rfl (uXq rfl rfl rfl rfl (y8q rfl rfl rfl (eq_int rfl rfl) (y8q rfl rfl rfl (j3q rfl rfl rfl rfl rfl rfl _ _ _) (y8q rfl rfl rfl (j3q rfl rfl rfl rfl rfl rfl _ _ _) (y8q rfl rfl rfl (j3q rfl rfl rfl rfl rfl rfl _ _ _) (y8q rfl rfl rfl (eq_int rfl rfl) Zgq)))))) Zgq)))) Zgq))
section
attribute [local irreducible] CoW OpW FlW Step Spec
def Q5q(l:List Itm):Nat->Itm
 |0=>itZ
 |i+1=>l.getD i itZ
theorem lastI_s{l:List Itm}{i:Nat}(h:i<l.length):l[i]? =some (Q5q l (i+1)):=by
 show l[i]? =some (l.getD i itZ);rw[List.getD_eq_getElem?_getD,List.getElem?_eq_getElem h];rfl
def ItM(p x:Itm):Prop:=if x.gap=true then x=itG/\p≠itG else EveM x.ev
theorem itm_t{p x:Itm}(h:x.gap=true):ItM p x↔x=itG/\p≠itG:=by unfold ItM;rw[if_pos h]
theorem itm_f{p x:Itm}(h:¬x.gap=true):ItM p x↔EveM x.ev:=by unfold ItM;rw[if_neg h]
def TpM(t:Tp):Prop:=t.items.length<=64/\∀i,i<t.items.length->ItM (Q5q t.items i) (Q5q t.items (i+1))
noncomputable instance(t:Tp):Decidable (TpM t):=Classical.propDecidable _
noncomputable def zd32:W:=.arr 32 1 (List.replicate 32 (.int .u8 0))
noncomputable def itZw:W:=.agg 101 [.bool false,.agg 100 [.int .i64 0,.bool false,.agg 98 [.int .i64 0,zd32,zd32,zd32,.int .i64 0]]]
theorem itZ_view{μ:Nat->Option W}:View μ itZw (itmW itZ):=.agg (.cons (.pur rfl) (.cons (.agg (.cons (.pur rfl) (.cons (.pur rfl) (.cons (.agg (.cons (.pur rfl) (.cons jPq (.cons jPq (.cons jPq (.cons (.pur rfl) .nil)))))) .nil)))) .nil))
set_option maxRecDepth 100000 in
theorem tpchk_s(t:Tp)(hl:t.items.length<=4611686018427387903):PS cfg glT 70 [tpW t] (.int .i64 (if TpM t then 0 else 8)):=by
 have rf:refL 2 (t.items.map itmW)=true:=zeq (w:=.fz (t.items.map itmW) 101 false) (show purL (t.items.map itmW)=true from itms_pur _);have e:(t.items.map itmW).length=t.items.length:=List.length_map _;by_cases h0:t.items.length<=64
 ·skip
  refine gI 11 rfl (λR k0=>gZ 0 rfl e (gF 0 rfl (ltI_not.2 Xd) (zdq 15 rfl (vKq (λ_=>ent_blkv (b:=1) (w':=itmW itZ) rfl itZ_view) (yBq rfl rfl ?_)))))
  refine op_mem rfl rfl (uHq (w':=.int .i64 ((t.items.length:Nat):Int)) rfl rfl Xu ?_);refine zsq 4 rfl ?_;refine jKq (α:=Nat×Itm) (λq=>(q.1<=t.items.length/\q.2=Q5q t.items q.1)/\∀j,j<q.1->ItM (Q5q t.items j) (Q5q t.items (j+1))) (λq=>[(14,.int .i64 (q.1:Int))]) [(2,_),(3,_),(12,_),(13,_)] (λq=>[(1,61,itmW q.2),(0,106,tpW t)]) (λq=>t.items.length-q.1) ((0,itZ)) ⟨rfl,rfl,rfl,rfl,trivial⟩ (⟨⟨Nat.zero_le _,rfl⟩,λj h=>by simp at h⟩) ⟨rfl,trivial⟩ (rfl) (λq hI=>?_);obtain⟨i,p⟩:=q;obtain⟨⟨g1,gp⟩,g2⟩:=hI;simp only at g1 gp g2;refine ycq 6 rfl ?_;refine gS 0 rfl (λh1=>?_) (λh1=>?_)
  ·have hi:i<t.items.length:=by omega
   have hxi:=lastI_s hi;obtain⟨x,hx⟩:∃x,Q5q t.items (i+1)=x:=⟨_,rfl⟩
   rw[hx] at hxi
   have step:ItM p x->∀j,j<i+1->ItM (Q5q t.items j) (Q5q t.items (j+1)):=λq j hj=>by
    rcases Nat.lt_succ_iff_lt_or_eq.1 hj with h|rfl
    ·exact g2 j h
    ·rw[hx,<-gp];exact q
   have stop:¬ItM p x->¬TpM t:=λq r=>q (by have:=r.2 i hi;rw[hx,<-gp] at this;exact this)
   obtain⟨g,ev⟩:=x;skip
   cases g with
   |true=>
    by_cases h1:(⟨true,ev⟩:Itm)=itG
    ·by_cases h2:p=itG
     ·exact zQq 6 rfl (gP 0 rfl (zGq (i:=i) rfl rfl rfl rfl rfl rfl rfl (zlq itmW hxi)) (zdq 13 rfl (uHq (w':=.bool false) rfl (Ywq rfl rfl rfl rfl (eq_it ⟨true,ev⟩ itG)) (by rw[decide_eq_true h1];rfl) (zsq 3 rfl (uHq (w':=.bool true) rfl (q4q rfl rfl rfl rfl (eq_it p itG)) (by rw[decide_eq_true h2]) (zsq 25 rfl (qQq Xi (z0q 2 rfl (gQ 0 rfl (by rw[if_neg (stop λq=>((itm_t rfl).1 q).2 h2)]))))))))))
     ·refine zQq 6 rfl (gP 0 rfl (zGq (i:=i) rfl rfl rfl rfl rfl rfl rfl (zlq itmW hxi)) (zdq 13 rfl (uHq (w':=.bool false) rfl (Ywq rfl rfl rfl rfl (eq_it ⟨true,ev⟩ itG)) (by rw[decide_eq_true h1];rfl) (zsq 3 rfl (uHq (w':=.bool false) rfl (q4q rfl rfl rfl rfl (eq_it p itG)) (by rw[decide_eq_false h2]) (zsq 25 rfl (gWr 0 rfl (zdq 2 rfl ?_))))))));skip
      exact yYq ((i+1,(⟨true,ev⟩:Itm)):Nat×Itm) ⟨⟨by show i+1<=_;omega,hx.symm⟩,step ((itm_t rfl).2 ⟨h1,h2⟩)⟩ (by show t.items.length-(i+1)<t.items.length-i;omega) (qdq (nw2:=2) (Nat.zero_le _) Xd (by(repeat (first|exact trivial|refine⟨rfl,?_⟩))) (by simp[refB,rf]) (yKq ⟨⟨by omega,rfl,zeq (xKq _)⟩,⟨by omega,rfl,zeq (QEq t)⟩,trivial⟩) Xm)
    ·exact zQq 6 rfl (gP 0 rfl (zGq (i:=i) rfl rfl rfl rfl rfl rfl rfl (zlq itmW hxi)) (zdq 13 rfl (uHq (w':=.bool true) rfl (Ywq rfl rfl rfl rfl (eq_it ⟨true,ev⟩ itG)) (by rw[decide_eq_false h1];rfl) (zsq 29 rfl (qQq Xi (z0q 2 rfl (gQ 0 rfl (by rw[if_neg (stop λq=>h1 ((itm_t rfl).1 q).1)]))))))))
   |false=>
    by_cases h1:EveM ev
    ·refine zQq 6 rfl (gP 0 rfl (zGq (i:=i) rfl rfl rfl rfl rfl rfl rfl (zlq itmW hxi)) (gC 27 rfl (zvq (w':=.bool true) (Jgq ev) (by rw[decide_eq_true (h1)])) (gWr 15 rfl (zdq 2 rfl ?_))));skip
     exact yYq ((i+1,(⟨false,ev⟩:Itm)):Nat×Itm) ⟨⟨by show i+1<=_;omega,hx.symm⟩,step ((itm_f Xm).2 h1)⟩ (by show t.items.length-(i+1)<t.items.length-i;omega) (qdq (nw2:=2) (Nat.zero_le _) Xd (by(repeat (first|exact trivial|refine⟨rfl,?_⟩))) (by simp[refB,rf]) (yKq ⟨⟨by omega,rfl,zeq (xKq _)⟩,⟨by omega,rfl,zeq (QEq t)⟩,trivial⟩) Xm)
    ·exact zQq 6 rfl (gP 0 rfl (zGq (i:=i) rfl rfl rfl rfl rfl rfl rfl (zlq itmW hxi)) (gC 27 rfl (zvq (w':=.bool false) (Jgq ev) (by rw[decide_eq_false (h1)])) (zdq 15 rfl (qQq Xi (z0q 2 rfl (gQ 0 rfl (by rw[if_neg (stop λq=>h1 ((itm_f Xm).1 q))])))))))
  ·have yes:TpM t:=⟨h0,λj hj=>g2 j Xd⟩;exact zdq 2 rfl (qQq Xi (z0q 8 rfl (gQ 0 rfl Yf)))
 ·skip
  exact gI 11 rfl (λR k0=>gZ 0 rfl e (gT 0 rfl (ltI_iff.2 Xd) (gQ 10 rfl (by rw[if_neg λq:TpM t=>h0 q.1]))))
def lastS(l:List Sb):Nat->Int
 |0=>-1
 |i+1=>((l[i]?).map (·.id)).getD (-1)
theorem lastS_s{l:List Sb}{i:Nat}{s:Sb}(h:l[i]? =some s):lastS l (i+1)=s.id:=by
 show((l[i]?).map (·.id)).getD (-1)=_;rw[h];rfl
def SbM(p n:Int)(s:Sb):Prop:=((p<s.id/\s.id<n)/\(0<=s.beg/\s.beg<1073741824))/\TpM s.tap
def HbM(h:Hb):Prop:=((0<=h.next/\h.next<1073741824)/\h.subs.length<=16)/\∀(i:Nat) s,h.subs[i]? =some s->SbM (lastS h.subs i) h.next s
noncomputable instance(h:Hb):Decidable (HbM h):=Classical.propDecidable _
theorem hbchk_s(h:Hb)(hl:h.subs.length<=4611686018427387903)(hx:∀s∈h.subs,s.tap.items.length<=4611686018427387903):PS cfg glT 32 [hbW h] (.int .i64 (if HbM h then 0 else 8)):=by
 have e:(h.subs.map sbW).length=h.subs.length:=List.length_map _;by_cases h0:0<=h.next/\h.next<1073741824
 ·by_cases hm:h.subs.length<=16
  ·skip
   refine gI 11 rfl (λR k0=>gC 0 rfl (zvq (w':=.bool true) (Y5q h.next) (by rw[decide_eq_true (h0)])) (gZ 4 rfl e (gF 0 rfl (ltI_not.2 Xd) (gZ 16 rfl e ?_))));refine gLo (α:=Nat×Int) 4 (λq=>(q.1<=h.subs.length/\q.2=lastS h.subs q.1)/\∀j,j<q.1->∀s,h.subs[j]? =some s->SbM (lastS h.subs j) h.next s) (λq=>[(19,.int .i64 (q.1:Int)),(3,.int .i64 q.2)]) [1,2,17,18] (λq=>h.subs.length-q.1) ((0,-1)) rfl (⟨⟨Nat.zero_le _,rfl⟩,λj h=>by simp at h⟩) (λq hI=>?_);obtain⟨i,p⟩:=q;obtain⟨⟨g1,gp⟩,g2⟩:=hI;simp only at g1 gp g2;refine gS 6 rfl (λh1=>?_) (λh1=>?_)
   ·have hi:i<h.subs.length:=by omega
    obtain⟨s,hs⟩:∃s,h.subs[i]? =some s:=⟨_,List.getElem?_eq_getElem hi⟩
    have stop:¬SbM p h.next s->¬HbM h:=λq r=>q (by have:=r.2 i s hs;rw[<-gp] at this;exact this)
    have hk:=hx s (List.mem_of_getElem? hs);skip
    by_cases k1:p<s.id
    ·by_cases k2:s.id<h.next
     ·by_cases k3:0<=s.beg/\s.beg<1073741824
      ·by_cases k4:TpM s.tap
       ·exact gP 6 rfl (zGq (i:=i) rfl rfl rfl rfl rfl rfl rfl (zlq sbW hs)) (gF 11 rfl (congrArg not (ltI_iff.2 (k1))) (gF 5 rfl (congrArg not (ltI_iff.2 (k2))) (gC 4 rfl (zvq (w':=.bool true) (Y5q s.beg) (by rw[decide_eq_true (k3)])) (gC 5 rfl (zvq (w':=.int .i64 0) (tpchk_s s.tap hk) (by rw[if_pos k4])) (gF 0 rfl (congrArg not (eqI_iff.2 (rfl))) (gWr 14 rfl (gAg 2 rfl ((i+1,s.id)) (⟨⟨hi,(lastS_s hs).symm⟩,λj hj z hz=>by rcases Nat.lt_succ_iff_lt_or_eq.1 hj with q|rfl;exact g2 j q z hz;have:=Option.some.inj (hs.symm.trans hz);subst this;rw[<-gp];exact⟨⟨⟨k1,k2⟩,k3⟩,k4⟩⟩) (by show h.subs.length-(i+1)<h.subs.length-i;omega))))))))
       ·exact gP 6 rfl (zGq (i:=i) rfl rfl rfl rfl rfl rfl rfl (zlq sbW hs)) (gF 11 rfl (congrArg not (ltI_iff.2 (k1))) (gF 5 rfl (congrArg not (ltI_iff.2 (k2))) (gC 4 rfl (zvq (w':=.bool true) (Y5q s.beg) (by rw[decide_eq_true (k3)])) (gC 5 rfl (zvq (w':=.int .i64 8) (tpchk_s s.tap hk) (by rw[if_neg k4])) (gT 0 rfl (congrArg not (eqI_not.2 Xg)) (gO 13 rfl (gQ 2 rfl (by rw[if_neg (stop λq=>k4 q.2)]))))))))
      ·exact gP 6 rfl (zGq (i:=i) rfl rfl rfl rfl rfl rfl rfl (zlq sbW hs)) (gF 11 rfl (congrArg not (ltI_iff.2 (k1))) (gF 5 rfl (congrArg not (ltI_iff.2 (k2))) (gC 4 rfl (zvq (w':=.bool false) (Y5q s.beg) (by rw[decide_eq_false (k3)])) (gO 20 rfl (gQ 2 rfl (by rw[if_neg (stop λq=>k3 q.1.2)]))))))
     ·exact gP 6 rfl (zGq (i:=i) rfl rfl rfl rfl rfl rfl rfl (zlq sbW hs)) (gF 11 rfl (congrArg not (ltI_iff.2 (k1))) (gT 5 rfl (congrArg not (ltI_not.2 (k2))) (gO 25 rfl (gQ 2 rfl (by rw[if_neg (stop λq=>k2 q.1.1.2)])))))
    ·exact gP 6 rfl (zGq (i:=i) rfl rfl rfl rfl rfl rfl rfl (zlq sbW hs)) (gT 11 rfl (congrArg not (ltI_not.2 (k1))) (gO 31 rfl (gQ 2 rfl (by rw[if_neg (stop λq=>k1 q.1.1.1)]))))
   ·have yes:HbM h:=⟨⟨h0,hm⟩,λj s hs=>g2 j (by have:=y7q hs;omega) s hs⟩;exact gO 2 rfl (gQ 8 rfl Yf)
  ·skip
   exact gI 11 rfl (λR k0=>gC 0 rfl (zvq (w':=.bool true) (Y5q h.next) (by rw[decide_eq_true (h0)])) (gZ 4 rfl e (gT 0 rfl (ltI_iff.2 Xd) (gQ 11 rfl (by rw[if_neg λq:HbM h=>hm q.1.2])))))
 ·skip
  exact gI 11 rfl (λR k0=>gC 0 rfl (zvq (w':=.bool false) (Y5q h.next) (by rw[decide_eq_false (h0)])) (gQ 17 rfl (by rw[if_neg λq:HbM h=>h0 q.1.1])))
end
section
attribute [local irreducible] CoW OpW FlW Step Spec
variable {G:Nat->Option W}
def atE(k:Dig)(n:Nat):Nat:=kn k 31%n
theorem plat_s(k:Dig)(m:Nat)(hm:m<=7):PS cfg G 78 [dW k,.int .i64 ((m+1:Nat):Int)] (.tup [.int .i64 (atE k (m+1):Nat),.int .i64 0]):=by
 have hk:=uOq k 31;exact gI 11 rfl (λR k0=>gF 0 rfl (ltI_not.2 Xd) (gF 2 rfl (ltI_not.2 Xd) (gX 8 rfl (gM 0 rfl (yEq rfl rfl rfl (dW_ld k (i:=31) Xd)) (gWr 0 rfl (gV (w':=.int .i64 ((atE k (m+1):Nat):Int)) 1 rfl (congrArg (W.int .i64) (QFq (kn k 31) (m+1))) (gQa 5 rfl)))))))
def FarL(n i:Nat)(l:Ln):Prop:=atE l.who n≠i
noncomputable instance(n i:Nat)(l:Ln):Decidable (FarL n i l):=Classical.propDecidable _
noncomputable instance(n i:Nat)(s:Shd):Decidable (∃l∈s,FarL n i l):=Classical.propDecidable _
theorem plchk1_s(l:Ln)(ps:List Shd)(h1:1<=ps.length/\ps.length<=8)(i:Nat)(hi:i<ps.length):PS cfg G 77 [lnW l,.fel (plW ps),.fel (.int .i64 (i:Int))] (.bool (decide (FarL ps.length i l))):=by
 obtain⟨m,hm⟩:∃m,ps.length=m+1:=⟨ps.length-1,by omega⟩
 have e:(ps.map shdW).length=m+1:=by rw[List.length_map,hm]
 rw[hm];by_cases h:atE l.who (m+1)=i
 ·skip
  exact gI 11 rfl (λR k0=>gZ 0 rfl e (gC 0 rfl (plat_s l.who m Xd) (gF 11 rfl (congrArg not (eqI_iff.2 Xd)) (gQ 4 rfl (kZq λq=>q h)))))
 ·skip
  exact gI 11 rfl (λR k0=>gZ 0 rfl e (gC 0 rfl (plat_s l.who m Xd) (gT 11 rfl (congrArg not (eqI_not.2 Xd)) (gQ 4 rfl (u1q h)))))
def PlM(ps:List Shd):Prop:=(1<=ps.length/\ps.length<=8)/\∀(i:Nat) s,ps[i]? =some s->ShM s/\¬∃l∈s,FarL ps.length i l
noncomputable instance(ps:List Shd):Decidable (PlM ps):=Classical.propDecidable _
theorem plchk_s(ps:List Shd)(hx:∀s∈ps,s.length<=1000000000/\∀l∈s,OkL l):PS cfg glK 30 [plW ps] (.int .i64 (if PlM ps then 0 else 8)):=by
 have e:(ps.map shdW).length=ps.length:=List.length_map _;have hpp:=xeq ps;by_cases hm1:1<=ps.length
 ·by_cases hm8:ps.length<=8
  ·skip
   refine gI 10 rfl (λR k0=>gZ 0 rfl e (gF 0 rfl (ltI_not.2 Xd) (gZ 2 rfl e (gF 0 rfl (ltI_not.2 Xd) (gZ 10 rfl e ?_)))));refine gLo (α:=Nat) 4 (λi=>i<=ps.length/\∀(j:Nat) s,j<i->ps[j]? =some s->ShM s/\¬∃l∈s,FarL ps.length j l) (λi=>[(15,.int .i64 (i:Int))]) [1,2,13,14] (λi=>ps.length-i) (0) rfl (⟨Nat.zero_le _,λj s h=>by omega⟩) (λi hI=>?_);obtain⟨g1,g2⟩:=hI;refine gS 6 rfl (λh1=>?_) (λh1=>?_)
   ·have hi:i<ps.length:=by omega
    obtain⟨s,hs⟩:∃s,ps[i]? =some s:=⟨_,List.getElem?_eq_getElem hi⟩
    obtain⟨b1,b2⟩:=hx s (List.mem_of_getElem? hs);have hc:=ctln_s (G:=glK) s false 77 [.fel (plW ps),.fel (.int .i64 (i:Int))] (by simp[purL,purW]) (FarL ps.length i) (λl _=>plchk1_s l ps ⟨hm1,hm8⟩ i hi) rfl b1;have hps:=qEq s;have hv:∀{hp:HpW} {b:Nat},blkA hp 0=some (plW ps) ->blkA hp b=some (.int .i64 (i:Int)) ->ViewL (blkA hp) [.fz (s.map lnW) 33 false,.fn 77 [] [.ptr 0 0,.ptr b 0]] [.fz (s.map lnW) 33 false,.fn 77 [] [.fel (plW ps),.fel (.int .i64 (i:Int))]]:=λq1 q2=>.cons (.pur hps) (.cons (.fn .nil (.cons (yIq q1 hpp rfl) (.cons (yIq q2 rfl rfl) .nil))) .nil)
    have hpa:purL [.fz (s.map lnW) 33 false,.fn 77 [] [.fel (plW ps),.fel (.int .i64 (i:Int))]]=true:=by simp[purL,purW]
    skip
    by_cases k1:ShM s
    ·by_cases k2:∃l∈s,FarL ps.length i l
     ·exact gP 7 rfl (zGq (i:=i) rfl rfl rfl rfl rfl rfl rfl (zlq shdW hs)) (gC 10 rfl (zvq (w':=.int .i64 0) (uyq s b2 Xd) (by rw[if_pos k1])) (gF 0 rfl (congrArg not (eqI_iff.2 (rfl))) (zdq 4 rfl (uIq rfl rfl rfl rfl rfl (hv rfl rfl) (zvq (w':=.bool true) hc (by rw[decide_eq_true k2])) hpa rfl (zsq 12 rfl (gO 0 rfl (gQ 2 rfl (by rw[if_neg λq:PlM ps=>(q.2 i s hs).2 k2]))))))))
     ·exact gP 7 rfl (zGq (i:=i) rfl rfl rfl rfl rfl rfl rfl (zlq shdW hs)) (gC 10 rfl (zvq (w':=.int .i64 0) (uyq s b2 Xd) (by rw[if_pos k1])) (gF 0 rfl (congrArg not (eqI_iff.2 (rfl))) (zdq 4 rfl (uIq rfl rfl rfl rfl rfl (hv rfl rfl) (zvq (w':=.bool false) hc (by rw[decide_eq_false k2])) hpa rfl (zsq 8 rfl (gWr 0 rfl (gAg 2 rfl (i+1) (⟨by omega,λj z hj hz=>by rcases Nat.lt_succ_iff_lt_or_eq.1 hj with q|rfl;exact g2 j z q hz;have:=Option.some.inj (hs.symm.trans hz);subst this;exact⟨k1,k2⟩⟩) Xd)))))))
    ·exact gP 7 rfl (zGq (i:=i) rfl rfl rfl rfl rfl rfl rfl (zlq shdW hs)) (gC 10 rfl (zvq (w':=.int .i64 8) (uyq s b2 Xd) (by rw[if_neg k1])) (gT 0 rfl (congrArg not (eqI_not.2 Xg)) (gO 17 rfl (gQ 2 rfl (by rw[if_neg λq:PlM ps=>k1 (q.2 i s hs).1])))))
   ·have yes:PlM ps:=⟨⟨hm1,hm8⟩,λj s hs=>g2 j s (by have:=y7q hs;omega) hs⟩;exact gO 2 rfl (gQ 8 rfl Yf)
  ·skip
   exact gI 10 rfl (λR k0=>gZ 0 rfl e (gF 0 rfl (ltI_not.2 Xd) (gZ 2 rfl e (gT 0 rfl (ltI_iff.2 Xd) (gQ 11 rfl (by rw[if_neg λq:PlM ps=>hm8 q.1.2]))))))
 ·skip
  exact gI 10 rfl (λR k0=>gZ 0 rfl e (gT 0 rfl (ltI_iff.2 Xd) (gQ 15 rfl (by rw[if_neg λq:PlM ps=>hm1 q.1.1]))))
structure Ru where
 (shards:Int) (cap:Int) (block:Int) (window:Int) (tap:Int) (subs:Int) (box:Dig)
noncomputable def ruG(r:Ru):W:=.agg 38 [.int .i64 r.shards,.int .i64 r.cap,.int .i64 r.block,.int .i64 r.window,.int .i64 r.tap,.int .i64 r.subs,dW r.box]
@[simp] theorem ruG_pur(r:Ru):purW (ruG r)=true:=by simp[ruG]
def okU(r:Ru):Prop:=(1<=r.shards/\r.shards<=8)/\(1<=r.cap/\r.cap<=64)/\(1<=r.block/\r.block<=16)/\(1<=r.window/\r.window<=64)/\(1<=r.tap/\r.tap<=64)/\(1<=r.subs/\r.subs<=16)
noncomputable instance(r:Ru):Decidable (okU r):=Classical.propDecidable _
theorem jOq(n m:Int):PS cfg G 74 [.int .i64 n,.int .i64 m] (.bool (decide (1<=n/\n<=m))):=by
 refine gI 8 rfl (λR k0=>?_);refine gD 0 rfl (λh1=>?_) (λh1=>?_)
 ·refine gU 3 rfl ?_;exact gQ 5 rfl Yt
 ·exact gQ 9 rfl Yt
theorem koq(r:Ru):PS cfg G 28 [ruG r] (.int .i64 (if okU r then 0 else 8)):=by
 refine gI 11 rfl (λR k0=>gC 0 rfl (jOq _ _) ?_);refine gB 0 rfl (λh1=>?_) (λh1=>?_)
 ·refine gC 4 rfl (jOq _ _) ?_;refine gB 0 rfl (λh2=>?_) (λh2=>?_)
  ·refine gC 5 rfl (jOq _ _) ?_;refine gB 0 rfl (λh3=>?_) (λh3=>?_)
   ·refine gC 5 rfl (jOq _ _) ?_;refine gB 0 rfl (λh4=>?_) (λh4=>?_)
    ·refine gC 5 rfl (jOq _ _) ?_;refine gB 0 rfl (λh5=>?_) (λh5=>?_)
     ·refine gC 5 rfl (jOq _ _) ?_;refine gS 4 rfl (λh6=>?_) (λh6=>?_)
      ·exact gQ 7 rfl (by(try simp at h6);first|rw[if_pos (show okU r by unfold okU;omega)]|rw[if_neg (show¬okU r by unfold okU;omega)])
      ·exact gQ 8 rfl (by(try simp at h6);first|rw[if_pos (show okU r by unfold okU;omega)]|rw[if_neg (show¬okU r by unfold okU;omega)])
     ·exact gQ 18 rfl (by(try simp at h6);first|rw[if_pos (show okU r by unfold okU;omega)]|rw[if_neg (show¬okU r by unfold okU;omega)])
    ·exact gQ 24 rfl (by(try simp at h6);first|rw[if_pos (show okU r by unfold okU;omega)]|rw[if_neg (show¬okU r by unfold okU;omega)])
   ·exact gQ 30 rfl (by(try simp at h6);first|rw[if_pos (show okU r by unfold okU;omega)]|rw[if_neg (show¬okU r by unfold okU;omega)])
  ·exact gQ 36 rfl (by(try simp at h6);first|rw[if_pos (show okU r by unfold okU;omega)]|rw[if_neg (show¬okU r by unfold okU;omega)])
 ·exact gQ 41 rfl (by(try simp at h6);first|rw[if_pos (show okU r by unfold okU;omega)]|rw[if_neg (show¬okU r by unfold okU;omega)])
end
section
attribute [local irreducible] CoW OpW FlW Step Spec
structure Au where
 (ru:Ru) (vw:Vw) (pool:List Shd) (drawn:List Tx) (back:List Tx) (wait:List Depo) (count:Nat) (tells:List Eve) (hub:Hb)
noncomputable def amW(a:Au):W:=.agg 52 [ruG a.ru,vwG a.vw,plW a.pool,.fz (a.drawn.map txW) 99 false,.fz (a.back.map txW) 99 false,.fz (a.wait.map pdW) 34 false,.int .u64 (a.count:Int),.fz (a.tells.map eveW) 100 false,hbW a.hub]
@[simp] theorem amW_pur(a:Au):purW (amW a)=true:=by simp[amW,purW,purL]
structure OkAu(a:Au):Prop where
 pool:∀s∈a.pool,s.length<=1000000000/\∀l∈s,OkL l
 drawn:∀x∈a.drawn,x.ok
 drawl:a.drawn.length<=1000000000
 back:∀x∈a.back,x.ok
 backl:a.back.length<=1000000000
 tells:a.tells.length<=1000000000
 subs:a.hub.subs.length<=4611686018427387903
 taps:∀s∈a.hub.subs,s.tap.items.length<=4611686018427387903
def OddE(e:Eve):Prop:=¬EveM e
noncomputable instance(e:Eve):Decidable (OddE e):=Classical.propDecidable _
noncomputable instance(l:List Eve):Decidable (∃e∈l,OddE e):=Classical.propDecidable _
structure AuM(V:Prop)(a:Au):Prop where
 ru:okU a.ru
 vw:V
 pool:PlM a.pool
 len:(a.pool.length:Int)=a.ru.shards
 block:(a.drawn.length:Int)<=a.ru.block
 drawn:¬∃x∈a.drawn,Uns x
 back:¬∃x∈a.back,Uns x
 odd:¬∃e∈a.tells,OddE e
 hub:HbM a.hub
noncomputable instance(V:Prop)(a:Au):Decidable (AuM V a):=Classical.propDecidable _
theorem odd_s(l:List Eve)(hl:l.length<=1000000000):PS cfg glT 25 [.fz (l.map eveW) 100 false,.fn 26 [] []] (.bool (decide (∃e∈l,OddE e))):=
 ctev_s l false 26 [] rfl OddE (λe _=>zvq (auchk1_s e) (congrArg W.bool (decide_eq_decide.2 Iff.rfl))) rfl hl
set_option maxRecDepth 100000 in
theorem aucheck_s(a:Au)(ok:OkAu a)(V:Prop) [Decidable V](hv:PS cfg glT 29 [vwG a.vw] (.int .i64 (if V then 0 else 8))):PS cfg glT 8 [amW a] (.int .i64 (if AuM V a then 0 else 8)):=by
 have e1:(a.pool.map shdW).length=a.pool.length:=List.length_map _;have e2:(a.drawn.map txW).length=a.drawn.length:=List.length_map _;have hodd:=odd_s a.tells ok.tells;have hpl:=ps_gl vNq (plchk_s a.pool ok.pool);have hud:=ps_gl vNq (uns_s a.drawn false ok.drawn ok.drawl);have hub:=ps_gl vNq (uns_s a.back false ok.back ok.backl);have hhb:=hbchk_s a.hub ok.subs ok.taps;by_cases c0:okU a.ru
 ·by_cases c1:V
  ·by_cases c2:PlM a.pool
   ·by_cases c3:(a.pool.length:Int)=a.ru.shards
    ·by_cases c4:(a.drawn.length:Int)<=a.ru.block
     ·by_cases c5:¬∃x∈a.drawn,Uns x
      ·by_cases c6:¬∃x∈a.back,Uns x
       ·by_cases c7:¬∃e∈a.tells,OddE e
        ·by_cases c8:HbM a.hub
         ·skip
          exact gI 10 rfl (λR k0=>gC 0 rfl (zvq (w':=.bool false) (hodd) (by rw[decide_eq_false (c7)])) (gC 8 rfl (zvq (w':=.int .i64 0) (koq a.ru) Yj) (gF 0 rfl (congrArg not (eqI_iff.2 (rfl))) (gC 3 rfl (zvq (w':=.int .i64 0) (hv) Yr) (gF 0 rfl (congrArg not (eqI_iff.2 (rfl))) (gC 4 rfl (zvq (w':=.int .i64 0) (hpl) Qa) (gF 0 rfl (congrArg not (eqI_iff.2 (rfl))) (gZ 4 rfl e1 (gF 3 rfl (congrArg not (eqI_iff.2 (c3))) (gZ 4 rfl e2 (gF 3 rfl (ltI_not.2 Xd) (gC 4 rfl (zvq (w':=.bool false) (hud) Qg) (gC 4 rfl (zvq (w':=.bool false) (hub) (by rw[decide_eq_false (c6)])) (gC 7 rfl (zvq (w':=.int .i64 0) (hhb) (by rw[if_pos c8])) (gF 0 rfl (congrArg not (eqI_iff.2 (rfl))) (gQ 12 rfl (by rw[if_pos (show AuM V a from⟨c0,c1,c2,c3,c4,c5,c6,c7,c8⟩)])))))))))))))))))
         ·skip
          exact gI 10 rfl (λR k0=>gC 0 rfl (zvq (w':=.bool false) (hodd) (by rw[decide_eq_false (c7)])) (gC 8 rfl (zvq (w':=.int .i64 0) (koq a.ru) Yj) (gF 0 rfl (congrArg not (eqI_iff.2 (rfl))) (gC 3 rfl (zvq (w':=.int .i64 0) (hv) Yr) (gF 0 rfl (congrArg not (eqI_iff.2 (rfl))) (gC 4 rfl (zvq (w':=.int .i64 0) (hpl) Qa) (gF 0 rfl (congrArg not (eqI_iff.2 (rfl))) (gZ 4 rfl e1 (gF 3 rfl (congrArg not (eqI_iff.2 (c3))) (gZ 4 rfl e2 (gF 3 rfl (ltI_not.2 Xd) (gC 4 rfl (zvq (w':=.bool false) (hud) Qg) (gC 4 rfl (zvq (w':=.bool false) (hub) (by rw[decide_eq_false (c6)])) (gC 7 rfl (zvq (w':=.int .i64 8) (hhb) (by rw[if_neg c8])) (gT 0 rfl (congrArg not (eqI_not.2 Xg)) (gQ 11 rfl (by rw[if_neg (λq:AuM V a=>c8 q.hub)])))))))))))))))))
        ·skip
         exact gI 10 rfl (λR k0=>gC 0 rfl (zvq (w':=.bool true) (hodd) (by rw[decide_eq_true (Classical.not_not.1 c7)])) (gC 8 rfl (zvq (w':=.int .i64 0) (koq a.ru) Yj) (gF 0 rfl (congrArg not (eqI_iff.2 (rfl))) (gC 3 rfl (zvq (w':=.int .i64 0) (hv) Yr) (gF 0 rfl (congrArg not (eqI_iff.2 (rfl))) (gC 4 rfl (zvq (w':=.int .i64 0) (hpl) Qa) (gF 0 rfl (congrArg not (eqI_iff.2 (rfl))) (gZ 4 rfl e1 (gF 3 rfl (congrArg not (eqI_iff.2 (c3))) (gZ 4 rfl e2 (gF 3 rfl (ltI_not.2 Xd) (gC 4 rfl (zvq (w':=.bool false) (hud) Qg) (gC 4 rfl (zvq (w':=.bool false) (hub) (by rw[decide_eq_false (c6)])) (gQ 20 rfl (by rw[if_neg (λq:AuM V a=>c7 q.odd)])))))))))))))))
       ·skip
        exact gI 10 rfl (λR k0=>gC 0 rfl hodd (gC 8 rfl (zvq (w':=.int .i64 0) (koq a.ru) Yj) (gF 0 rfl (congrArg not (eqI_iff.2 (rfl))) (gC 3 rfl (zvq (w':=.int .i64 0) (hv) Yr) (gF 0 rfl (congrArg not (eqI_iff.2 (rfl))) (gC 4 rfl (zvq (w':=.int .i64 0) (hpl) Qa) (gF 0 rfl (congrArg not (eqI_iff.2 (rfl))) (gZ 4 rfl e1 (gF 3 rfl (congrArg not (eqI_iff.2 (c3))) (gZ 4 rfl e2 (gF 3 rfl (ltI_not.2 Xd) (gC 4 rfl (zvq (w':=.bool false) (hud) Qg) (gC 4 rfl (zvq (w':=.bool true) (hub) (by rw[decide_eq_true (Classical.not_not.1 c6)])) (gQ 20 rfl (by rw[if_neg (λq:AuM V a=>c6 q.back)])))))))))))))))
      ·skip
       exact gI 10 rfl (λR k0=>gC 0 rfl hodd (gC 8 rfl (zvq (w':=.int .i64 0) (koq a.ru) Yj) (gF 0 rfl (congrArg not (eqI_iff.2 (rfl))) (gC 3 rfl (zvq (w':=.int .i64 0) (hv) Yr) (gF 0 rfl (congrArg not (eqI_iff.2 (rfl))) (gC 4 rfl (zvq (w':=.int .i64 0) (hpl) Qa) (gF 0 rfl (congrArg not (eqI_iff.2 (rfl))) (gZ 4 rfl e1 (gF 3 rfl (congrArg not (eqI_iff.2 (c3))) (gZ 4 rfl e2 (gF 3 rfl (ltI_not.2 Xd) (gC 4 rfl (zvq (w':=.bool true) (hud) (by rw[decide_eq_true (Classical.not_not.1 c5)])) (gQ 25 rfl (by rw[if_neg (λq:AuM V a=>c5 q.drawn)]))))))))))))))
     ·skip
      exact gI 10 rfl (λR k0=>gC 0 rfl hodd (gC 8 rfl (zvq (w':=.int .i64 0) (koq a.ru) Yj) (gF 0 rfl (congrArg not (eqI_iff.2 (rfl))) (gC 3 rfl (zvq (w':=.int .i64 0) (hv) Yr) (gF 0 rfl (congrArg not (eqI_iff.2 (rfl))) (gC 4 rfl (zvq (w':=.int .i64 0) (hpl) Qa) (gF 0 rfl (congrArg not (eqI_iff.2 (rfl))) (gZ 4 rfl e1 (gF 3 rfl (congrArg not (eqI_iff.2 (c3))) (gZ 4 rfl e2 (gT 3 rfl (ltI_iff.2 Xd) (gQ 30 rfl (by rw[if_neg (λq:AuM V a=>c4 q.block)])))))))))))))
    ·skip
     exact gI 10 rfl (λR k0=>gC 0 rfl hodd (gC 8 rfl (zvq (w':=.int .i64 0) (koq a.ru) Yj) (gF 0 rfl (congrArg not (eqI_iff.2 (rfl))) (gC 3 rfl (zvq (w':=.int .i64 0) (hv) Yr) (gF 0 rfl (congrArg not (eqI_iff.2 (rfl))) (gC 4 rfl (zvq (w':=.int .i64 0) (hpl) Qa) (gF 0 rfl (congrArg not (eqI_iff.2 (rfl))) (gZ 4 rfl e1 (gT 3 rfl (congrArg not (eqI_not.2 (c3))) (gQ 39 rfl (by rw[if_neg (λq:AuM V a=>c3 q.len)])))))))))))
   ·skip
    exact gI 10 rfl (λR k0=>gC 0 rfl hodd (gC 8 rfl (zvq (w':=.int .i64 0) (koq a.ru) Yj) (gF 0 rfl (congrArg not (eqI_iff.2 (rfl))) (gC 3 rfl (zvq (w':=.int .i64 0) (hv) Yr) (gF 0 rfl (congrArg not (eqI_iff.2 (rfl))) (gC 4 rfl (zvq (w':=.int .i64 8) (hpl) (by rw[if_neg c2])) (gT 0 rfl (congrArg not (eqI_not.2 Xg)) (gQ 48 rfl (by rw[if_neg (λq:AuM V a=>c2 q.pool)])))))))))
  ·skip
   exact gI 10 rfl (λR k0=>gC 0 rfl hodd (gC 8 rfl (zvq (w':=.int .i64 0) (koq a.ru) Yj) (gF 0 rfl (congrArg not (eqI_iff.2 (rfl))) (gC 3 rfl (zvq (w':=.int .i64 8) (hv) (by rw[if_neg c1])) (gT 0 rfl (congrArg not (eqI_not.2 Xg)) (gQ 54 rfl (by rw[if_neg (λq:AuM V a=>c1 q.vw)])))))))
 ·skip
  exact gI 10 rfl (λR k0=>gC 0 rfl hodd (gC 8 rfl (zvq (w':=.int .i64 8) (koq a.ru) (by rw[if_neg c0])) (gT 0 rfl (congrArg not (eqI_not.2 Xg)) (gQ 59 rfl (by rw[if_neg (λq:AuM V a=>c0 q.ru)])))))
end
section
attribute [local irreducible] CoW OpW FlW Step Spec
variable {G:Nat->Option W}
structure SmAu(a:Au):Prop where
 pool:a.pool.length<=1000000
 shards:∀s∈a.pool,s.length<=1000000000/\∀y∈s,y.txs.length<=1000000000
 drawn:a.drawn.length<=1000000000
 back:a.back.length<=1000000000
 wait:a.wait.length<=1000000000
 tells:a.tells.length<=1000000000
 subs:a.hub.subs.length<=1000000000
 taps:∀s∈a.hub.subs,s.tap.items.length<=1000000000
set_option maxRecDepth 100000 in
theorem autwin_s(a:Au)(sm:SmAu a)(hv:PS cfg G 83 [vwG a.vw] (vwG a.vw)):PS cfg G 34 [amW a] (amW a):=by
 have hp:=pltw_s (G:=G) a.pool sm.pool sm.shards;have hh:=hbtw_s (G:=G) a.hub sm.subs sm.taps;exact gIv 10 rfl (λR k0=>gC 0 rfl (hv) (gC 2 rfl (hp) (gC 2 rfl (hh) (gC 12 rfl (clx_s a.drawn false sm.drawn) (gC 2 rfl (clx_s a.back false sm.back) (gC 2 rfl (cld_s a.wait false sm.wait) (gC 2 rfl (clev_s a.tells false sm.tells) (zdq 17 rfl (jkq Qm rfl (.pur (amW_pur a)))))))))))
end
noncomputable def oW(b e:Nat):Option (List W) ->W
 |none=>.nils
 |some l=>.sl b 0 0 l.length e none
noncomputable def oH(b:Nat)(ty:TypeId)(e:Nat):Option (List W) ->HpW
 |none=>[]
 |some l=>[(b,ty,.arr (l.length*e) e l)]
noncomputable def oA(o:Option (List W)):List W->Option (List W)
 |[]=>o
 |x::r=>some (o.getD []++x::r)
theorem oA_get(o:Option (List W))(l:List W):(oA o l).getD []=o.getD []++l:=by
 cases l with
 |nil=>rw[List.append_nil];rfl
 |cons x r=>rfl
theorem ren_o(τ:Nat->Nat)(b e:Nat)(o:Option (List W)):renW τ (oW b e o)=oW (τ b) e o:=by cases o<;>rfl
theorem ref_o{n b e:Nat}{o:Option (List W)}(h:b<n):refB n (oW b e o)=true:=by
 cases o with
 |none=>rfl
 |some l=>simp[oW,refB,h]
theorem YWq(τ:Nat->Nat)(b:Nat)(ty:TypeId)(e:Nat){o:Option (List W)}(h:purL (o.getD [])=true):renH τ (oH b ty e o)=oH (τ b) ty e o:=by
 cases o with
 |none=>rfl
 |some l=>
  have h2:purW (.arr (l.length*e) e l)=true:=h;simp only[oH,renH,zwq h2]
theorem xfq{b e:Nat}{ty:TypeId}{o:Option (List W)}:∀p∈oH b ty e o,p.1=b:=λp hp=>by
 cases o with
 |none=>cases hp
 |some l=>simp only[oH,List.mem_cons,List.not_mem_nil,or_false] at hp;rw[hp]
noncomputable def oIn(hp:HpW)(b:Nat)(ty:TypeId)(e:Nat)(o:Option (List W)):Prop:=∀l,o=some l->hget hp b=some (ty,.arr (l.length*e) e l)
theorem vpq{P:HpW}{b e:Nat}{ty:TypeId}{o:Option (List W)}(h:∀p∈P,p.1≠b):oIn (P++oH b ty e o) b ty e o:=λl hl=>by
 subst hl;exact Zdq h
theorem view_o{hp:HpW}{b e:Nat}{ty:TypeId}{o:Option (List W)}(he:0<e)(hl:purL (o.getD [])=true)(h:oIn hp b ty e o):View (blkA hp) (oW b e o) (.fz (o.getD []) e false):=by
 cases o with
 |none=>exact .nilfz
 |some l=>exact .sl (c:=.arr (l.length*e) e l) (by unfold blkA;rw[h l rfl]) hl (zAq he rfl rfl) Xi
theorem QHq{τ:Nat->Nat}{n:Nat}{hp:HpW}{b e:Nat}{ty:TypeId}{o:Option (List W)}(hb:b<n)(hl:purL (o.getD [])=true)(h:oIn hp (τ b) ty e o):vYq τ n hp (oH b ty e o):=by
 cases o with
 |none=>trivial
 |some l=>
  have h2:purW (.arr (l.length*e) e l)=true:=hl;exact⟨⟨hb,by rw[zwq h2];exact h l rfl,zeq h2⟩,trivial⟩
theorem subH_o{hp:HpW}{b e n:Nat}{ty:TypeId}{o:Option (List W)}(hb:b<n)(hl:purL (o.getD [])=true)(h:oIn hp b ty e o):subH hp n (oH b ty e o):=by
 cases o with
 |none=>trivial
 |some l=>
  have h2:purW (.arr (l.length*e) e l)=true:=hl;exact⟨⟨hb,h l rfl,zeq h2⟩,trivial⟩
theorem vqq{P:HpW}{b e:Nat}{ty:TypeId}{o:Option (List W)}(hh:∀p∈P,p.1≠b)(nd:(P.map (·.1)).Nodup):((P++oH b ty e o).map (·.1)).Nodup:=by
 cases o with
 |none=>rw[show oH b ty e none=[] from rfl,List.append_nil];exact nd
 |some l=>
  rw[show oH b ty e (some l)=[(b,ty,.arr (l.length*e) e l)] from rfl,List.map_append,List.nodup_append];refine⟨nd,by simp,λa ha c hc q=>?_⟩;obtain⟨p,h1,h2⟩:=List.mem_map.1 ha;have:=hh p h1;simp only[List.map_cons,List.map_nil,List.mem_cons,List.not_mem_nil,or_false] at hc;omega
noncomputable def hdO(b:Nat)(hp:HpW):Option (List W) ->HpW
 |none=>hp
 |some _=>hdel hp b
noncomputable def evO(b:Nat):Option (List W) ->EvW
 |none=>.gen
 |some _=>.updO b
section
variable {C:Cfg} {nw:Nat} {ts tx ty:TypeId} {j k:TyI} {x:W} {news:List W} {o:Option (List W)} {b:Nat} {hp:HpW}
theorem app_o{e:Nat}(he:e=k.size)(hj:C.ty ts=some j)(hd:j.d= .slice ty)(hk:C.ty ty=some k)(hz:Nat.beq k.size 0=false)(hs:srcW C hp tx k.size x=some news)(hn:news≠[])(h1:((o.getD []).length+news.length)*k.bytes<=140737488355328)(h2:(o.getD []).length+news.length<=70368744177664)(hg:oIn hp b ty e o):
  appW C hp nw ts tx (oW b e o) x=some (.sl nw 0 0 (o.getD []++news).length e none,(nw,ty,.arr ((o.getD []++news).length*e) e (o.getD []++news))::hdO b hp o,nw+1,evO b o):=by
 subst he
 have hk0:0<k.size:=by
  rcases Nat.eq_zero_or_pos k.size with h0|h0
  ·rw[h0] at hz;cases hz
  ·exact h0
 have hnl:0<news.length:=by cases news with
  |nil=>exact absurd rfl hn
  |cons _ _=>simp
 cases o with
 |none=>
  simp only[Option.getD_none,List.length_nil,Nat.zero_add] at h1 h2;rw[show oW b k.size none= .nils from rfl,unq hj hd hk hz hs hn h1 h2];rfl
 |some l=>
  simp only[Option.getD_some] at h1 h2
  rw[show oW b k.size (some l)= .sl b 0 0 l.length k.size none from rfl,qzq hj hd hk hz hs hn h1 h2 (hg l rfl) (by
   show l.length*k.size<0+(l.length+news.length)*k.size;rw[Nat.zero_add];exact Nat.mul_lt_mul_of_pos_right Xd hk0) (by rw[Nat.beq_refl]) (zAq hk0 rfl rfl)]
  rw[Option.getD_some,List.length_append];rfl
theorem app_o0{e:Nat}(he:e=k.size)(hj:C.ty ts=some j)(hd:j.d= .slice ty)(hk:C.ty ty=some k)(hz:Nat.beq k.size 0=false)(hs:srcW C hp tx k.size x=some []):appW C hp nw ts tx (oW b e o) x=some (oW b e o,hp,nw,.gen):=by
 subst he;cases o with
 |none=>exact app_nil0 hj hd hk hz hs
 |some l=>exact jxq hj hd hk hz hs
end
theorem hget_hdO{hp:HpW}{b i:Nat}{o:Option (List W)}{y:TypeId×W}(hi:i≠b)(h:hget hp i=some y):hget (hdO b hp o) i=some y:=by
 cases o with
 |none=>exact h
 |some l=>
  show hget (hdel hp b) i=some y;induction hp with
  |nil=>simp[hget] at h
  |cons p q ih=>
   obtain⟨c,z⟩:=p;rw[zaq] at h;show hget (match Nat.beq c b with|true=>q|false=>(c,z)::hdel q b) i=_;cases e:Nat.beq c b with
   |true=>
    have:=Nat.eq_of_beq_eq_true e;subst this;rw[if_neg (λh=>hi h.symm)] at h;exact h
   |false=>
    simp only;rw[zaq];split at h
    ·rename_i q;rw[if_pos q];exact h
    ·rename_i q;rw[if_neg q];exact ih h
structure AppQ(hp:HpW)(nw b:Nat)(ty:TypeId)(e:Nat)(u:Option (List W))(news:List W)(c:Nat)(hp':HpW)(nw':Nat):Prop where
 is:oIn hp' c ty e (oA u news)
 lt:c<nw'
 up:nw<=nw'
 old:∀i y,i≠b->i<nw->hget hp i=some y->hget hp' i=some y
 num:(news=[]/\c=b)\/(news≠[]/\c=nw)
theorem step_upd{C:Cfg}{G:Nat->Option W}{o:Oper}{fr:FrW}{hp:HpW}{nw:Nat}{R:Res}{post:W->HpW->Nat->Res->Option EvW->Prop}(b:Nat)(h:Step C G o fr hp nw R λw hp' nw' R' ev=>ev=some .gen/\post w hp' nw' R' (some (.updO b))):Step C G o fr hp nw R post:=λΓ X frv hnw s hf=>by
 obtain⟨n,w,hp',R',ev,v,h',Γ',X',⟨rfl,h1⟩,h2,⟨h3,h3'⟩,h4⟩:=h Γ X frv hnw s hf;exact⟨n,w,hp',R',some (.updO b),v,h',Γ',X',h1,h2,⟨h3,λH1 e1 e2=>.inl (h3' H1 e1 e2)⟩,h4⟩
theorem step_appo{C:Cfg}{G:Nat->Option W}{fr:FrW}{hp:HpW}{nw:Nat}{R:Res}{o:Oper}{ts tx ty:TypeId}{j k:TyI}{x y:Operand}{v:W}{u:Option (List W)}{news:List W}{b e:Nat}{post:W->HpW->Nat->Res->Option EvW->Prop}(ho:o.op= .call ⟨.builtin .append, #[x,y], #[ts,tx]⟩)(hx:evW C G fr x=some (oW b e u))(hy:evW C G fr y=some v)
  (he:e=k.size) (hj:C.ty ts=some j) (hd:j.d= .slice ty) (hk:C.ty ty=some k) (hz:Nat.beq k.size 0=false) (hs:srcW C hp tx k.size v=some news) (h1:((u.getD []).length+news.length)*k.bytes<=140737488355328) (h2:(u.getD []).length+news.length<=70368744177664) (hg:oIn hp b ty e u) (hb:b<nw)
  (h:∀c hp' nw',AppQ hp nw b ty e u news c hp' nw'->post (oW c e (oA u news)) hp' nw' R (some (.updO b))):Step C G o fr hp nw R post:=by
 cases news with
 |nil=>
  have ha:opHW C G fr hp nw o.op=some (oW b e u,hp,nw,.gen):=by rw[ho];exact yZq hx hy (app_o0 he hj hd hk hz hs)
  exact step_upd b (q9q ha ⟨rfl,h b hp nw ⟨hg,hb,Nat.le_refl _,λ_ _ _ _ h=>h,.inl ⟨rfl,rfl⟩⟩⟩)
 |cons z zs=>
  have ha:opHW C G fr hp nw o.op=some (.sl nw 0 0 (u.getD []++z::zs).length e none,(nw,ty,.arr ((u.getD []++z::zs).length*e) e (u.getD []++z::zs))::hdO b hp u,nw+1,evO b u):=by
   rw[ho];exact yZq hx hy (app_o he hj hd hk hz hs Xm h1 h2 hg)
  have q:AppQ hp nw b ty e u (z::zs) nw ((nw,ty,.arr ((u.getD []++z::zs).length*e) e (u.getD []++z::zs))::hdO b hp u) (nw+1):=⟨λl hl=>by cases hl;rw[zaq,if_pos rfl],Nat.lt_succ_self _,Nat.le_succ _,λi y hi hn hy=>by rw[zaq,if_neg Xd];exact hget_hdO hi hy,.inr ⟨by simp,rfl⟩⟩;cases u with
  |none=>exact step_upd b (q9q ha ⟨rfl,h _ _ _ q⟩)
  |some l=>exact q9q ha (h _ _ _ q)
theorem qfq{C:Cfg}{G:Nat->Option W}{o:Oper}{fr:FrW}{hp:HpW}{nw:Nat}{R:Res}{post:W->HpW->Nat->Res->Option EvW->Prop}(h:Step C G o fr hp nw R λw hp' nw' R' ev=>∃hp2:HpW,(∀k y,hget hp2 k=some y->hget hp' k=some y)/\(hp2.map (·.1)).Nodup/\post w hp2 nw' R' ev):Step C G o fr hp nw R post:=λΓ X frv hnw s hf=>by
 obtain⟨n,w,hp',R',ev,v,h',Γ',X',⟨hp2,hold,nd,h1⟩,h2,h3,h4,h5,h6,h7,h8⟩:=h Γ X frv hnw s hf;exact⟨n,w,hp2,R',ev,v,h',Γ',X',h1,h2,h3,h4,h5,⟨h6.wf,λk ty w h=>h6.own k ty w (hold _ _ h),λk k' y z hy hz e=>h6.inj k k' _ _ (hold _ _ hy) (hold _ _ hz) e,nd,h6.dX,h6.xlt,h6.dlt,h6.res,h6.gl⟩,h7.trans ⟨λ_ _=>rfl,λh=>h,Nat.le_refl _,λ_ _ _ _=>rfl,λ_ h=>h,λ_ h=>.inl h,λk y _ h=>⟨y,hold _ _ h⟩,λk y hk h=>.inr ⟨k,y,hk,hold _ _ h,rfl⟩,λ_ h=>.inl h,λ_ h _ _=>h⟩,h8⟩
theorem hget_turn{A:HpW}{b e:Nat}{ty:TypeId}{o:Option (List W)}(h:∀p∈A,p.1≠b):∀k y,hget (A++oH b ty e o) k=some y->hget (oH b ty e o++A) k=some y:=λk y hy=>by
 cases o with
 |none=>rwa[show oH b ty e none=[] from rfl,List.append_nil] at hy
 |some l=>
  rw[kgq] at hy;show hget ((b,_)::A) k=some y;rw[zaq];by_cases q:b=k
  ·subst q;rw[yLq h] at hy;have hy:hget [(b,(ty,W.arr (l.length*e) e l))] b=some y:=hy;rw[zaq,if_pos rfl] at hy;rw[if_pos rfl];exact hy
  ·rw[if_neg q];cases e1:hget A k with
   |some z=>rw[e1] at hy;exact hy
   |none=>
    rw[e1] at hy;have hy:hget [(b,(ty,W.arr (l.length*e) e l))] k=some y:=hy;rw[zaq,if_neg q] at hy;simp[hget] at hy
theorem delA_ne{b:Nat}:∀{l:List Nat} {hp:HpW},(∀k∈l,k≠b) ->hget (delA l hp) b=hget hp b
 |[],_,_=>rfl
 |k::l,hp,h=>by
  show hget (delA l (hdel hp k)) b=_;rw[delA_ne λj hj=>h j (List.mem_cons_of_mem _ hj),xhq (h k (List.mem_cons_self ..))]
theorem qTq{A:HpW}{b:Nat}{l:List Nat}(h:A.map (·.1)=l)(hb:b∉l):∀p∈A,p.1≠b:=λp hp e=>hb (h▸List.mem_map.2 ⟨p,hp,e⟩)
theorem ZTq{A:HpW}{n:Nat}{l:List Nat}(h:A.map (·.1)=l)(hb:∀k∈l,k<n):∀p∈A,p.1<n:=λp hp=>hb _ (h▸List.mem_map.2 ⟨p,hp,rfl⟩)
section
variable {hp Q:HpW} {b k e e':Nat} {ty ty':TypeId} {o o':Option (List W)} {y:TypeId×W}
theorem zpq(hk:k≠b)(h:oIn hp b ty e o):oIn ((k,y)::hp) b ty e o:=λl hl=>by rw[zaq,if_neg hk];exact h l hl
theorem oin_here:oIn (oH b ty e o++Q) b ty e o:=λl hl=>by
 subst hl;show hget ((b,_)::Q) b=_;rw[zaq,if_pos rfl]
theorem kRq:oIn (oH b ty e o) b ty e o:=λl hl=>by
 subst hl;show hget ((b,_)::[]) b=_;rw[zaq,if_pos rfl]
theorem oin_skip(hk:k≠b)(h:oIn Q b ty e o):oIn (oH k ty' e' o'++Q) b ty e o:=by
 cases o' with
 |none=>exact h
 |some l=>exact zpq hk h
theorem oin_old{nw c nw' d e2:Nat}{ty2:TypeId}{u:Option (List W)}{news:List W}{hp':HpW}(q:AppQ hp nw d ty2 e2 u news c hp' nw')(hd:b≠d)(hb:b<nw)(h:oIn hp b ty e o):oIn hp' b ty e o:=λl hl=>q.old b _ hd hb (h l hl)
theorem hd_o{ext:List Nat}{nw i:Nat}(hi:ext[i]? =some b)(hl:purL (o.getD [])=true)(h:oIn hp b ty e o):hdAll ext nw hp (oH i ty e o):=by
 cases o with
 |none=>trivial
 |some l=>
  have h2:purW (.arr (l.length*e) e l)=true:=hl;exact⟨⟨(List.getElem?_eq_some_iff.1 hi).1,zeq h2,b,hi,by rw[zwq h2];exact h l rfl⟩,trivial⟩
end
section
attribute [local irreducible] CoW OpW FlW Step Spec
variable {G:Nat->Option W}
theorem clxo_s(l:List Tx)(f:Bool)(hl:l.length<=1000000000):qmq cfg G 86 0 [.fz (l.map txW) 99 f] [] λw hp nw=>(∃o:Option (List W),o.getD []=l.map txW/\w=oW 0 99 o/\hp=oH 0 72 99 o)/\nw=1:=by
 intro R;have e:(l.map txW).length=l.length:=List.length_map _;have hp:∀l:List Tx,purL (l.map txW)=true:=yjq jQq
 refine gIs 9 rfl (λk0=>?_);first|refine yBq rfl rfl ?_|refine zUq rfl (q8q rfl rfl rfl rfl rfl (λbn hn=>?_))
 refine zsq 2 rfl ?_;refine gS 0 rfl (λh1=>?_) (λh1=>?_)
 ·cases bn with
  |false=>cases h1
  |true=>
   obtain rfl:l=[]:=List.map_eq_nil_iff.1 (hn rfl);exact zQq 7 rfl (fin Qm (ent_up (fr2:=[(2,.nils)]) ⟨rfl,trivial⟩) rfl ⟨rfl,⟨none,rfl,rfl,rfl⟩,rfl⟩)
 ·cases l with
  |nil=>
   skip
   exact zQq 6 rfl (gM 0 rfl (yZq rfl rfl (jxq rfl rfl rfl rfl rfl)) (zdq 4 rfl (fin Qm Ent.refl rfl ⟨rfl,⟨some [],rfl,rfl,rfl⟩,rfl⟩)))
  |cons c l=>
   have hpp:purW (.arr (((c::l).map txW).length*99) 99 ((c::l).map txW))=true:=hp (c::l);refine zQq 6 rfl (gM 0 rfl (yZq rfl rfl (qzq (len:=0) (news:=(c::l).map txW) (olds:=[]) (k:=ti72) rfl rfl rfl rfl rfl Xm (by show(0+((c::l).map txW).length)*120<=_;rw[e];omega) Ys rfl (by show 0<0+(0+((c::l).map txW).length)*99;rw[e];simp only[List.length_cons];omega) rfl rfl)) (zdq 4 rfl ?_));refine fin Qm (yVq (b:=0) (k:=1) (fr2:=[(2,oW 0 99 (some ((c::l).map txW)))]) (hp2:=oH 0 72 99 (some ((c::l).map txW))) Xd Xd (by show 1<2;omega) ⟨⟨?_,rfl⟩,trivial⟩ ⟨⟨by omega,?_,zeq hpp⟩,trivial⟩ (by simp[oH])) rfl ⟨rfl,⟨some ((c::l).map txW),rfl,rfl,rfl⟩,rfl⟩
   ·show some (W.sl 1 0 0 (0+((c::l).map txW).length) 99 none)=some (W.sl 1 0 0 ((c::l).map txW).length 99 none);rw[Nat.zero_add]
   ·rw[zwq hpp];show some (72,W.arr ((0+((c::l).map txW).length)*99) 99 ([]++(c::l).map txW))=some (72,W.arr (((c::l).map txW).length*99) 99 ((c::l).map txW));rw[Nat.zero_add];rfl
end
theorem xLq{b:Nat}:∀{hp:HpW} {c:Nat},c≠b->hget (hdel hp b) c=hget hp c
 |[],c,_=>rfl
 |(k,x)::l,c,h=>by
  simp only[hdel];cases e:Nat.beq k b with
  |true=>
   have:=Nat.eq_of_beq_eq_true e;subst this;simp only;rw[zaq,if_neg (λq=>h q.symm)]
  |false=>
   simp only;rw[zaq,zaq,xLq h]
section
variable {C:Cfg} {G:Nat->Option W} {Γ:Ctx} {X:Nat->Prop} {R:Res}
theorem Els.one{e:Nat}{x:W}{u:V}(h1:RS Γ x (zjq u))(hx:x.size=e)(h2:u.size=e)(h3:u.leaf=true\/u.isAgg=true):Els Γ e [x] [u]:=by
 refine⟨rfl,by simpa using hx,by simpa using ⟨h2,h3⟩,?_⟩;have hl:(zjq u).length=e:=by rw[yMq,h2]
 have:zXq e [u]=zjq u++[]:=by
  simp only[zXq];rw[yaq hl]
 rw[this];exact yWq h1 (by simp[RSL])
theorem Els.split{e:Nat}:∀{ws:List W} {us:List V} (i:Nat),Els Γ e ws us->Els Γ e (ws.take i) (us.take i)/\Els Γ e (ws.drop i) (us.drop i)
 |[],us,i,h=>by
  have:us=[]:=List.length_eq_zero_iff.1 (by rw[h.len];rfl);subst this;simp only[List.take_nil,List.drop_nil];exact⟨Els.nil _,Els.nil _⟩
 |x::l,us,0,h=>by
  simp only[List.take_zero,List.drop_zero];exact⟨Els.nil _,h⟩
 |x::l,us,i+1,h=>by
  have hx:=h.sz x (List.mem_cons_self ..);obtain⟨u,us',rfl,h1,h2,h3,h4⟩:=h.cons;obtain⟨k1,k2⟩:=Els.split i h4;simp only[List.take_succ_cons,List.drop_succ_cons];exact⟨(Els.one h1 hx h2 h3).append k1,k2⟩
theorem ins_w{F:FuncId}{ts te:TypeId}{K BY:Nat}(hk:C.known F=some (insV C ts te K BY)){j:TyI}(hj:C.ty ts=some j)(hd:j.d= .slice te)(hK:Nat.blt 0 K=true){olds news:List W}{ob nb:W}{n m i:Nat}(hs0:yiq 50 ob 0 n K=some olds)(hs1:yiq 50 nb 0 m K=some news)(hi:i<n)(hm:0<m)
  (hb:(n+m)*BY<=140737488355328) (hb2:n+m<=70368744177664):
  qmq C G F 2 [.sl 0 0 0 n K none,.int .i64 (i:Int),.sl 1 0 0 m K none] [(0,te,ob),(1,te,nb)]
   λw hp' nw'=>w= .sl 2 0 0 (n+m) K none/\hp'=[(2,te,.arr ((n+m)*K) K (olds.take i++(news++olds.drop i))),(1,te,nb)]/\nw'=3:=λR Γ X vs hnw s hv=>by
 obtain⟨v0,vs1,rfl,hv0,hv1⟩:=RVL_cons.1 hv;obtain⟨v1,vs2,rfl,hvi,hv2⟩:=RVL_cons.1 hv1;obtain⟨v2,vs3,rfl,hvx,hv3⟩:=RVL_cons.1 hv2;obtain rfl:=RVL_nil.1 hv3;obtain⟨hb0,rfl⟩:=RV_sl.1 hv0;obtain rfl:=RV_int.1 hvi;obtain⟨hb1,rfl⟩:=RV_sl.1 hvx;have hK0:0<K:=by simpa using hK
 have hg0:hget [(0,te,ob),(1,te,nb)] 0=some (te,ob):=rfl;have hg1:hget [(0,te,ob),(1,te,nb)] 1=some (te,nb):=rfl;obtain⟨bv,q1,q2,q3⟩:=qZq s hg0;obtain⟨nv,p1,p2,p3⟩:=qZq s hg1;obtain⟨us,g1,ho,g3⟩:=viq q3 hs0;obtain⟨ns,f1,hn,f3⟩:=viq p3 hs1
 have hne:Γ.σ 1≠Γ.σ 0:=λe=>by
  have:=s.inj 1 0 _ _ hg1 hg0 e;cases this
 have hml:(n+m)*K=(us.take i++(ns++us.drop i)).length*K:=by
  congr 1
  simp only[List.length_append,List.length_take,List.length_drop,g3.len,f3.len];omega
 have hwl:(olds.take i++(news++olds.drop i)).length=n+m:=by
  simp only[List.length_append,List.length_take,List.length_drop];omega
 obtain⟨e1,e2⟩:=g3.split i
 have ha:RV Γ (.arr ((n+m)*K) K (olds.take i++(news++olds.drop i))) (.arr ((n+m)*K) K (us.take i++(ns++us.drop i))):=by
  have:=(e1.append (f3.append e2)).arr;rw[hwl,<-hml] at this;exact this
 have hrun:insV C ts te K BY [.sl (Γ.σ 0) 0 0 n K none,.int .i64 (i:Int),.sl (Γ.σ 1) 0 0 m K none] Γ.h=some (.sl Γ.h.next 0 0 (n+m) K none,(Γ.h.push (.cells te (.arr ((n+m)*K) K (us.take i++(ns++us.drop i))))).kill (Γ.σ 0)):=by
  show insV C ts te K BY [.sl (Γ.σ 0) 0 0 n K none,.int .i64 (.ofNat i),.sl (Γ.σ 1) 0 0 m K none] Γ.h=_
  have hsv:srcV C Γ.h ts K (.sl (Γ.σ 1) 0 0 m K none)=some ns:=by
   unfold srcV;rw[hj];simp only[hd,p2,show Nat.beq K K=true by simp];exact f1
  have hin:Nat.beq i n=false:=by
   cases hq:Nat.beq i n with
   |true=>have:=Nat.eq_of_beq_eq_true hq;omega
   |false=>rfl
  have hn1:Nat.beq (Γ.σ 1) (Γ.σ 0)=false:=by
   cases hq:Nat.beq (Γ.σ 1) (Γ.σ 0) with
   |true=>exact absurd (Nat.eq_of_beq_eq_true hq) hne
   |false=>rfl
  have hlt:Nat.blt i n=true:=by simpa using hi
  cases ns with
  |nil=>have:=f3.len;simp only[List.length_nil] at this;omega
  |cons y ys=>
   simp only[insV,hsv,hin,hlt,show Nat.beq K K=true by simp,hn1,Nat.ble_eq_true_of_le hb,Nat.ble_eq_true_of_le hb2,hK,Bool.and_self,Bool.not_false,q1,p1,show Nat.beq te te=true by simp,g1]
 have n1:=v7q s (ty:=te) ha;have le1:=QXq s (.cells te (.arr ((n+m)*K) K (us.take i++(ns++us.drop i))))
 have hgb':hget ((Γ.nw,te,W.arr ((n+m)*K) K (olds.take i++(news++olds.drop i)))::[(0,te,ob),(1,te,nb)]) 0=some (te,ob):=by
  rw[zaq,if_neg Xd];exact hg0
 obtain⟨le2,n2,f2⟩:=kill_sat n1.1 hgb';have hσ:(Γ.push (.cells te (.arr ((n+m)*K) K (us.take i++(ns++us.drop i))))).σ 0=Γ.σ 0:=le1.σ 0 hb0
 have hdl:hdel ((Γ.nw,te,W.arr ((n+m)*K) K (olds.take i++(news++olds.drop i)))::[(0,te,ob),(1,te,nb)]) 0=[(Γ.nw,te,W.arr ((n+m)*K) K (olds.take i++(news++olds.drop i))),(1,te,nb)]:=by
  rw[hnw];rfl
 rw[hdl,hσ] at n2 f2;rw[hσ] at le2;refine⟨1,.sl Γ.h.next 0 0 (n+m) K none,_,X,.sl Γ.nw 0 0 (n+m) K none,_,R,?_,n2,by rw[<-hnw];exact n1.2.trans (f2.le (m':=Γ.nw) (Nat.le_succ _) (Nat.le_refl _)),RV_sl.2 ⟨Nat.lt_succ_self _,by simp[Ctx.push]⟩,rfl,by rw[hnw],by rw[hnw],by show Γ.nw+1=3;rw[hnw]⟩;simp only[yxq,hk,hrun];rfl
theorem ins_app_w{F:FuncId}{ts te:TypeId}{K BY:Nat}(hk:C.known F=some (insV C ts te K BY)){s x:W}{i nw nw' vb vbase voff m:Nat}{vlim:Option Nat}{hp hp':HpW}{a w:W}{l:List W}{ev:EvW}(hx:x= .sl vb vbase voff m K vlim)(hsrc:srcW C hp ts K x=some (a::l))(h:appW C hp nw ts ts s x=some (w,hp',nw',ev))
  (hs:(s= .nils/\i=0)\/(∃b base off lim,s= .sl b base off i K lim)\/(s= .fz [] K true/\i=0)):
  qmq C G F nw [s,.int .i64 (i:Int),x] hp λw2 hp2 nw2=>w2=w/\hp2=hp'/\nw2=nw':=λR Γ X vs hnw sat hv=>by
 subst hx;subst hnw;obtain⟨v0,vs1,rfl,hv0,hv1⟩:=RVL_cons.1 hv;obtain⟨v1,vs2,rfl,hvi,hv2⟩:=RVL_cons.1 hv1;obtain⟨v2,vs3,rfl,hvx,hv3⟩:=RVL_cons.1 hv2;obtain rfl:=RVL_nil.1 hv3;obtain rfl:=RV_int.1 hvi;obtain⟨us,g1,g2⟩:=src_sim sat hvx hsrc;obtain⟨v,h',Γ',f1,f2,_⟩:=app_sim sat hv0 hvx h;obtain⟨hb1,rfl⟩:=RV_sl.1 hvx
 obtain⟨u,us',rfl⟩:∃u us',us=u::us':=by
  cases us with
  |nil=>have:=g2.len;simp at this
  |cons u us'=>exact⟨u,us',rfl⟩
 have hrun:insV C ts te K BY [v0,.int .i64 (i:Int),.sl (Γ.σ vb) vbase voff m K vlim] Γ.h=some (v,h'):=by
  show insV C ts te K BY [v0,.int .i64 (.ofNat i),.sl (Γ.σ vb) vbase voff m K vlim] Γ.h=_;rcases hs with ⟨rfl,rfl⟩|⟨b,base,off,lim,rfl⟩|⟨rfl,rfl⟩
  ·obtain rfl:=RV_nils.1 hv0;simp only[insV,g1,show Nat.beq 0 0=true by rfl];exact f1
  ·obtain⟨_,rfl⟩:=RV_sl.1 hv0;simp only[insV,g1,show Nat.beq i i=true by simp];exact f1
  ·rcases kbq hv0 with ⟨_,rfl⟩|⟨b,base,off,lim,bv,us,rfl,_⟩
   ·simp only[insV,g1,show Nat.beq 0 0=true by rfl];exact f1
   ·simp only[insV,g1,List.length_nil,show Nat.beq 0 0=true by rfl];exact f1
 obtain⟨o1,o2,o3,o4,o5,o6⟩:=f2;subst o1;refine⟨1,v,Γ',X,w,hp',R,?_,o4,o5,o6,rfl,rfl,rfl,o2⟩;simp only[yxq,hk,hrun]
theorem step_ins{o:Oper}{fr:FrW}{hp:HpW}{nw:Nat}{post:W->HpW->Nat->Res->Option EvW->Prop}{x:Operand}{xs:Array Operand}{ats:Array TypeId}{F:FuncId}{ts te:TypeId}{K BY:Nat}(hk:C.known F=some (insV C ts te K BY)){j k:TyI}(hj:C.ty ts=some j)(hd:j.d= .slice te)(hkt:C.ty te=some k)(hKk:k.size=K)(hBk:k.bytes=BY)(hK:Nat.blt 0 K=true)
  {olds news:List W} {ob nb:W} {n m i b q:Nat} (nn:Bool) (ho:o.op= .call ⟨.value x,xs,ats⟩) (hx:evW C G fr x=some (.fn F [] [])) (he:C.ext F=none) (hxs:evLW C G fr xs.toList=some [match nn with|true=>.nils|false=>.sl b 0 0 n K none,.int .i64 (i:Int),.sl q 0 0 m K none])
  (h0:nn=true->n=0/\olds=[]) (h1:nn=false->hget hp b=some (te,ob)/\yiq 50 ob 0 n K=some olds/\ob.size=n*K/\purW ob=true/\b≠q/\b<nw) (hq:hget hp q=some (te,nb)) (hs1:yiq 50 nb 0 m K=some news) (hnp:purW nb=true) (hqn:q<nw) (hi:i<=n) (hm:0<m) (hml:news.length=m) (hol:olds.length=n) (hnp2:purL news=true) (hop:purL olds=true)
  (hb:(n+m)*BY<=140737488355328) (hb2:n+m<=70368744177664) (hp2:HpW) (hsub:∀c y,hget hp2 c=some y->(c=nw/\y=(te,.arr ((n+m)*K) K (olds.take i++(news++olds.drop i))))\/(c≠nw/\c≠q/\(nn=false->c≠b)/\hget hp c=some y)) (hnd:(hp2.map (·.1)).Nodup)
  (h:post (.sl nw 0 0 (n+m) K none) hp2 (nw+1) R (some .dirty)):Step C G o fr hp nw R post:=by
 have hK0:0<K:=by simpa using hK
 have hnew:purW (.arr ((n+m)*K) K (olds.take i++(news++olds.drop i)))=true:=by
  show purL (olds.take i++(news++olds.drop i))=true;have e:=hop;rw[<-List.take_append_drop i olds,keq,Bool.and_eq_true] at e;rw[keq,keq,e.1,hnp2,e.2];rfl
 obtain⟨a,l,rfl⟩:∃a l,news=a::l:=by
  cases news with
  |nil=>simp only[List.length_nil] at hml;omega
  |cons a l=>exact⟨a,l,rfl⟩
 have hz:Nat.beq k.size 0=false:=by
  cases hq:Nat.beq k.size 0 with
  |true=>have:=Nat.eq_of_beq_eq_true hq;omega
  |false=>rfl
 cases nn with
 |true=>
  obtain⟨rfl,rfl⟩:=h0 rfl;obtain rfl:i=0:=by omega
  have hb':=hb;have hb2':=hb2;rw[Nat.zero_add] at hb' hb2'
  have hsrc:srcW C [(0,te,nb)] ts K (.sl 0 0 0 m K none)=some (a::l):=by
   unfold srcW;rw[hj];simp only[hd,Nat.beq_refl];exact hs1
  have ha:=unq (nw:=1) hj hd hkt hz (by rw[hKk];exact hsrc) Xm (by rw[hml,hBk];exact hb') (by rw[hml];exact hb2');rw[hKk,hml] at ha;have sp:=ins_app_w (G:=G) hk (i:=0) rfl hsrc ha (.inl ⟨rfl,rfl⟩);refine qfq (qvq (ext:=[q]) (ws:=[.nils,.int .i64 (0:Int),.sl 0 0 0 m K none]) (hp0:=[(0,te,nb)]) ho hx he hxs rfl sp Xm (by simpa using hqn) Xm (λc ty w hc=>?_) rfl ?_)
  ·rw[zaq] at hc;split at hc
   ·rename_i e;subst e;cases hc;exact⟨by simp,zeq hnp,q,rfl,by rw[zwq hnp];exact hq⟩
   ·simp[hget] at hc
  ·rintro w hp1 nw1 ⟨rfl,rfl,rfl⟩;refine⟨hp2,λc y hc=>?_,hnd,?_⟩
   ·rcases hsub c y hc with ⟨ec,rfl⟩|⟨h1,h2,_,h3⟩
    ·rw[ec];show hget ((nw+(1-1),te,renW _ _)::_) _=_;rw[zaq,if_pos Xd];simp only[Nat.zero_add,List.take_nil,List.drop_nil,List.nil_append,List.append_nil] at hnew⊢;rw[zwq hnew]
    ·show hget ((nw+(1-1),_)::(q,_)::hdel hp q) c=_;rw[zaq,if_neg Xd,zaq,if_neg (λe=>h2 e.symm),xLq (λe=>h2 e)];exact h3
   ·show post (.sl (nw+(1-1)) 0 0 m K none) hp2 (nw+(2-1)) R (some .dirty);rw[Nat.zero_add] at h;exact h
 |false=>
  obtain⟨hg,hs0,hsz,hobp,hbq,hbn⟩:=h1 rfl
  have sp:qmq C G F 2 [.sl 0 0 0 n K none,.int .i64 (i:Int),.sl 1 0 0 m K none] [(0,te,ob),(1,te,nb)]
   λw hp' nw'=>w= .sl 2 0 0 (n+m) K none/\hp'=[(2,te,.arr ((n+m)*K) K (olds.take i++(a::l++olds.drop i))),(1,te,nb)]/\nw'=3:=by
   rcases Nat.lt_or_ge i n with hi|hi
   ·exact ins_w hk hj hd hK hs0 hs1 hi hm hb hb2
   ·obtain rfl:i=n:=by omega
    have hsrc:srcW C [(0,te,ob),(1,te,nb)] ts K (.sl 1 0 0 m K none)=some (a::l):=by
     unfold srcW;rw[hj];simp only[hd,Nat.beq_refl];exact hs1
    have ha:=qzq (nw:=2) (b:=0) (base:=0) (off:=0) (len:=i) (v:=ob) (olds:=olds) (ty:=te) hj hd hkt hz (by rw[hKk];exact hsrc) Xm (by rw[hml,hBk];omega) (by rw[hml];omega) rfl (by rw[hsz,hml,hKk,Nat.zero_add];exact Nat.mul_lt_mul_of_pos_right Xd hK0) Xm (by rw[hKk];exact hs0);rw[hKk,hml] at ha;have sp:=ins_app_w (G:=G) hk (i:=i) rfl hsrc ha (.inr (.inl ⟨0,0,0,none,rfl⟩));have e1:olds.take i=olds:=List.take_of_length_le Xd;have e2:olds.drop i=[]:=List.drop_of_length_le Xd;rw[e1,e2,List.append_nil];exact sp
  refine qfq (qvq (ext:=[b,q]) (ws:=[.sl 0 0 0 n K none,.int .i64 (i:Int),.sl 1 0 0 m K none]) (hp0:=[(0,te,ob),(1,te,nb)]) ho hx he hxs rfl sp (by simpa using hbq) (by intro c hc;simp only[List.mem_cons,List.not_mem_nil,or_false] at hc;omega) Xm (λc ty w hc=>?_) rfl ?_)
  ·rw[zaq] at hc;split at hc
   ·rename_i e;subst e;cases hc;exact⟨by simp,zeq hobp,b,rfl,by rw[zwq hobp];exact hg⟩
   ·rw[zaq] at hc;split at hc
    ·rename_i e;subst e;cases hc;exact⟨by simp,zeq hnp,q,rfl,by rw[zwq hnp];exact hq⟩
    ·simp[hget] at hc
  ·rintro w hp1 nw1 ⟨rfl,rfl,rfl⟩;refine⟨hp2,λc y hc=>?_,hnd,?_⟩
   ·rcases hsub c y hc with ⟨ec,rfl⟩|⟨h1,h2,h4,h3⟩
    ·rw[ec];show hget ((nw+(2-2),te,renW _ _)::_) _=_;rw[zaq,if_pos Xd,zwq hnew]
    ·show hget ((nw+(2-2),_)::(q,_)::hdel (hdel hp b) q) c=_;rw[zaq,if_neg Xd,zaq,if_neg (λe=>h2 e.symm),xLq (λe=>h2 e),xLq (λe=>h4 rfl e)];exact h3
   ·exact h
end
section
attribute [local irreducible] CoW OpW FlW Step Spec
variable {G:Nat->Option W}
theorem nonce1_s(x:Tx):PS cfg G 256 [txW x] (.int .u64 (x.nonce:Int)):=by
 exact gI 14 rfl (λR k0=>gQa 0 rfl)
noncomputable def ordW(l:List Tx)(f:Bool):W:=.agg 2 [.fz (l.map txW) 99 f,.fn 256 [] []]
theorem Zcq(l:Ln):PS cfg G 235 [lnW l] (ordW l.txs false):=by
 have hp:=yOq l.txs;exact gI 15 rfl (λR k0=>gQa 0 rfl)
def SrtN(l:List Tx):Prop:=∀(i j:Nat) x y,i<j->l[i]? =some x->l[j]? =some y->x.nonce<y.nonce
noncomputable def ahN(l:List Tx)(n:Nat):Nat:=(l.takeWhile λx=>decide (x.nonce<n)).length
theorem ahN_eq:∀{l:List Tx} {n k:Nat},k<=l.length->(∀(j:Nat) x,j<k->l[j]? =some x->x.nonce<n) ->(∀(j:Nat) x,k<=j->l[j]? =some x->¬x.nonce<n) ->ahN l n=k
 |[],n,k,h,_,_=>by
  simp only[List.length_nil] at h;obtain rfl:k=0:=by omega
  rfl
 |x::l,n,0,_,_,h2=>by
  have:=h2 0 x (Nat.le_refl _) rfl;simp[ahN,this]
 |x::l,n,k+1,h,h1,h2=>by
  have q:=h1 0 x Xd rfl;have:=ahN_eq (l:=l) (n:=n) (k:=k) (by simpa using h) (λj y hj hy=>h1 (j+1) y Xd (by simpa using hy)) (λj y hj hy=>h2 (j+1) y Xd (by simpa using hy));unfold ahN at this⊢;rw[List.takeWhile_cons_of_pos (by simpa using q),List.length_cons,this]
theorem JAq(l:List Tx)(f:Bool)(n:Nat)(hs:SrtN l)(hl:l.length<=1000000000):PS cfg G 236 [ordW l f,.int .u64 (n:Int)] (.int .i64 (ahN l n:Int)):=by
 have e:(l.map txW).length=l.length:=List.length_map _;have hpl:=yOq l;refine gI 10 rfl (λR k0=>gZ 0 rfl e ?_);refine gLo (α:=Nat×Nat) 6 (λp=>p.1<=p.2/\p.2<=l.length/\(∀(j:Nat) x,j<p.1->l[j]? =some x->x.nonce<n)/\(∀(j:Nat) x,p.2<=j->l[j]? =some x->¬x.nonce<n)) (λp=>[(5,.int .i64 (p.1:Int)),(6,.int .i64 (p.2:Int))]) [1,2,4] (λp=>p.2-p.1) ((0,l.length)) rfl (⟨Nat.zero_le _,Nat.le_refl _,λj x h=>by omega,λj x h hx=>by have:=y7q hx;omega⟩) (λp hI=>?_);obtain⟨g1,g2,g3,g4⟩:=hI;refine gS 8 rfl (λh1=>?_) (λh1=>?_)
 ·obtain⟨x,hx⟩:∃x,l[(p.1+p.2)/2]? =some x:=⟨_,List.getElem?_eq_getElem Xd⟩
  skip
  by_cases h:x.nonce<n
  ·exact gA 7 rfl (p.1+p.2) (gA 0 rfl ((p.1+p.2)/2) (gP 10 rfl (zGq (i:=(p.1+p.2)/2) rfl rfl rfl rfl rfl rfl rfl (zlq txW hx)) (gC 1 rfl (nonce1_s x) (gT 1 rfl (ltI_iff.2 Xd) (gA 5 rfl ((p.1+p.2)/2+1) (gAg 3 rfl (((p.1+p.2)/2+1,p.2)) (⟨by omega,g2,λj y hj hy=>by rcases Nat.lt_or_ge j ((p.1+p.2)/2) with q|q;exact Nat.lt_trans (hs j _ y x q hy hx) h;have q2:j=(p.1+p.2)/2:=Xd;subst q2;have:=Option.some.inj (hx.symm.trans hy);subst this;exact h,g4⟩) Xd))))))
  ·exact gA 7 rfl (p.1+p.2) (gA 0 rfl ((p.1+p.2)/2) (gP 10 rfl (zGq (i:=(p.1+p.2)/2) rfl rfl rfl rfl rfl rfl rfl (zlq txW hx)) (gC 1 rfl (nonce1_s x) (gF 1 rfl (ltI_not.2 Xd) (gAg 8 rfl ((p.1,(p.1+p.2)/2)) (⟨by omega,by omega,g3,λj y hj hy=>by rcases Nat.lt_or_ge ((p.1+p.2)/2) j with q|q;exact λhn=>h (Nat.lt_trans (hs _ j x y q hx hy) hn);have q2:j=(p.1+p.2)/2:=Xd;subst q2;have:=Option.some.inj (hx.symm.trans hy);subst this;exact h⟩) Xd)))))
 ·have e2:p.1=p.2:=by omega
  have e3:=ahN_eq (l:=l) (n:=n) (k:=p.1) Xd g3 (λj x hj hx=>g4 j x Xd hx);exact gO 2 rfl (gQ 9 rfl (by rw[e3]))
end
section
theorem uQq{A X B:HpW}{n:Nat}(hA:∀p∈A,p.1<n)(hX:∀p∈X,n<=p.1)(hB:∀p∈B,n<=p.1/\∀q∈X,q.1≠p.1):∀k y,hget (A++B) k=some y->hget ((X++B)++A) k=some y:=λk y h=>by
 rw[kgq] at h;rw[kgq,kgq];by_cases q:k<n
 ·have x1:hget X k=none:=yLq λp hp e=>by have:=hX p hp;omega
  have x2:hget B k=none:=yLq λp hp e=>by have:=(hB p hp).1;omega
  rw[x2] at h;rw[x1,x2];cases e:hget A k with
  |none=>rw[e] at h;exact h
  |some z=>rw[e] at h;exact h
 ·have x1:hget A k=none:=yLq λp hp e=>by have:=hA p hp;omega
  rw[x1] at h⊢;cases e:hget X k with
  |none=>
   have h:hget B k=some y:=h;rw[h];rfl
  |some z=>
   exfalso
   have h:hget B k=some y:=h;have hb:∃p∈B,p.1=k:=Classical.byContradiction λq=>by rw[yLq λp hp e=>q ⟨p,hp,e⟩] at h;cases h
   obtain⟨p,hp,rfl⟩:=hb;rw[yLq λq hq e=>(hB p hp).2 q hq e] at e;cases e
attribute [local irreducible] CoW OpW FlW Step Spec
variable {G:Nat->Option W}
noncomputable def lnO(k:Dig)(b:Nat)(o:Option (List W)):W:=.agg 33 [dW k,oW b 99 o]
theorem ZRq(τ:Nat->Nat)(k:Dig)(b:Nat)(o:Option (List W)):renW τ (lnO k b o)=lnO k (τ b) o:=by
 show W.agg 33 [renW τ (dW k),renW τ (oW b 99 o)]=_;rw[zwq (qWq k),ren_o];rfl
theorem Q3q(l:Ln)(hl:l.txs.length<=1000000000):qmq cfg G 205 0 [lnW l] [] λw hp nw=>(∃o:Option (List W),o.getD []=l.txs.map txW/\w=lnO l.who 2 o/\hp=[(1,133,lnO l.who 2 o),(0,133,lnW l)]++oH 2 72 99 o)/\nw=3:=by
 have hpx:=yOq l.txs;intro R;refine gIs 12 rfl (λk0=>?_)
 (refine qrq rfl (qfq (step_ownG rfl rfl rfl rfl rfl Yb (clxo_s l.txs false hl) ?_));rintro w hp1 nw1 ⟨⟨o,ho,rfl,rfl⟩,rfl⟩;have hpb:purL (o.getD [])=true:=(by rw[ho];exact yOq _);rw[ren_o,YWq _ _ _ _ hpb,show numC [] 2 0=2 from rfl];refine⟨_,hget_turn (qTq (l:=[1,0]) rfl Xg),vqq (qTq (l:=[1,0]) rfl Xg) (show [1,0].Nodup by decide),rfl,?_⟩)
 refine jvq rfl ((show _=some (lnO l.who 2 o) from by cases o<;>rfl)) ?_;exact qHq 4 rfl (fin Qm Ent.refl rfl ⟨rfl,⟨o,ho,rfl,rfl⟩,rfl⟩)
@[simp] theorem ordW_pur(l:List Tx)(f:Bool):purW (ordW l f)=true:=by
 show(purL (l.map txW)&&(purW (.fn _ [] [])&&true))=true;rw[yOq];rfl
theorem LnM.srt{l:Ln}(h:LnM l):SrtN l.txs:=by
 intro i j x y hij hx hy;induction j generalizing y with
 |zero=>omega
 |succ j ih=>
  obtain⟨z,hz⟩:∃z,l.txs[j]? =some z:=⟨_,List.getElem?_eq_getElem (by have:=y7q hy;omega)⟩
  have h1:z.nonce<y.nonce:=(h.2 (j+1) y hy).2 z Xd (by simpa using hz);rcases Nat.lt_succ_iff_lt_or_eq.1 hij with q|rfl
  ·exact Nat.lt_trans (ih z q hz) h1
  ·have:=Option.some.inj (hx.symm.trans hz);subst this;exact h1
theorem ahN_le(l:List Tx)(n:Nat):ahN l n<=l.length:=by
 unfold ahN;exact(List.takeWhile_sublist _).length_le
noncomputable def ln0:W:=.agg 33 [.arr 32 1 (List.replicate 32 (.int .u8 (.ofNat 0))),.nils]
noncomputable def putA(l:Ln)(x:Tx):Ln:=⟨l.who,l.txs.take (ahN l.txs x.nonce)++x::l.txs.drop (ahN l.txs x.nonce)⟩
noncomputable def putB(l:Ln)(x:Tx):Ln:=⟨l.who,l.txs.set (ahN l.txs x.nonce) x⟩
theorem lnO_g{k:Dig}{b:Nat}{o:Option (List W)}:zWq 50 (lnO k b o) 32 1 false=some (oW b 99 o):=by cases o<;>rfl
theorem lnO_p{k:Dig}{b c:Nat}{o:Option (List W)}{L:List W}:yDq 50 (lnO k b o) 32 (oW c 99 (some L))=some (lnO k c (some L)):=by cases o<;>rfl
theorem Zsq{C:Cfg}{G:Nat->Option W}{R:Res}{o:Oper}{fr:FrW}{hp:HpW}{nw:Nat}{post:W->HpW->Nat->Res->Option EvW->Prop}{x:Operand}{xs:Array Operand}{ats:Array TypeId}{F:FuncId}{ts te:TypeId}{K BY:Nat}(hk:C.known F=some (insV C ts te K BY)){j k:TyI}(hj:C.ty ts=some j)(hd:j.d= .slice te)(hkt:C.ty te=some k)(hKk:k.size=K)(hBk:k.bytes=BY)(hK:Nat.blt 0 K=true)
  {u:Option (List W)} {y nb:W} {i b q:Nat} (ho:o.op= .call ⟨.value x,xs,ats⟩) (hx:evW C G fr x=some (.fn F [] [])) (he:C.ext F=none) (hxs:evLW C G fr xs.toList=some [oW b K u,.int .i64 (i:Int),.sl q 0 0 1 K none])
  (hu:oIn hp b te K u) (hup:purL (u.getD [])=true) (hq:hget hp q=some (te,nb)) (hs1:yiq 50 nb 0 1 K=some [y]) (hnp:purW nb=true) (hy:purW y=true) (hbq:b≠q) (hbn:b<nw) (hqn:q<nw) (hi:i<=(u.getD []).length) (hb:((u.getD []).length+1)*BY<=140737488355328) (hb2:(u.getD []).length+1<=70368744177664)
  (P:HpW) (hP:∀c z,hget P c=some z->c≠q/\c≠b/\hget hp c=some z) (hPn:∀p∈P,p.1≠nw) (hnd:(P.map (·.1)).Nodup)
  (h:∀L,L=(u.getD []).take i++y::(u.getD []).drop i->post (oW nw K (some L)) ((nw,te,.arr (L.length*K) K L)::P) (nw+1) R (some .dirty)):Step C G o fr hp nw R post:=by
 have hK0:0<K:=by simpa using hK
 have el:((u.getD []).take i++y::(u.getD []).drop i).length=(u.getD []).length+1:=by
  simp only[List.length_append,List.length_take,List.length_cons,List.length_drop];omega
 have h:=h _ rfl;rw[el] at h;have h:post (.sl nw 0 0 ((u.getD []).take i++y::(u.getD []).drop i).length K none) ((nw,te,.arr (((u.getD []).length+1)*K) K ((u.getD []).take i++(y::(u.getD []).drop i)))::P) (nw+1) R (some .dirty):=h;rw[el] at h
 have hsub:∀c z,hget ((nw,te,W.arr (((u.getD []).length+1)*K) K ((u.getD []).take i++(y::(u.getD []).drop i)))::P) c=some z->(c=nw/\z=(te,.arr (((u.getD []).length+1)*K) K ((u.getD []).take i++(y::(u.getD []).drop i))))\/(c≠nw/\c≠q/\c≠b/\hget hp c=some z):=λc z hz=>by
  rw[zaq] at hz;split at hz
  ·rename_i e;cases hz;exact .inl ⟨e.symm,rfl⟩
  ·rename_i e;obtain⟨p1,p2,p3⟩:=hP c z hz;exact .inr ⟨λq=>e q.symm,p1,p2,p3⟩
 have hnd2:(((nw,te,W.arr (((u.getD []).length+1)*K) K ((u.getD []).take i++(y::(u.getD []).drop i)))::P:HpW).map (·.1)).Nodup:=by
  rw[List.map_cons,List.nodup_cons];refine⟨λhm=>?_,hnd⟩;obtain⟨p,hp,e⟩:=List.mem_map.1 hm;exact hPn p hp e
 cases u with
 |none=>
  exact step_ins (olds:=[]) (news:=[y]) (ob:=.undef) (n:=0) (b:=0) (i:=i) hk hj hd hkt hKk hBk hK true ho hx he hxs (λ_=>⟨rfl,rfl⟩) (λh=>by cases h) hq hs1 hnp hqn hi Xg rfl rfl (by simp[purL,hy]) rfl hb hb2 _ (λc z hz=>(hsub c z hz).imp id λ⟨p1,p2,p3,p4⟩=>⟨p1,p2,λh=>Yw,p4⟩) hnd2 h
 |some L=>
  have hL:purL L=true:=hup;exact step_ins (olds:=L) (news:=[y]) (ob:=.arr (L.length*K) K L) (n:=L.length) (b:=b) (i:=i) hk hj hd hkt hKk hBk hK false ho hx he hxs (λh=>by cases h) (λ_=>⟨hu L rfl,zAq hK0 rfl rfl,rfl,hL,hbq,hbn⟩) hq hs1 hnp hqn hi Xg rfl rfl (by simp[purL,hy]) hL hb hb2 _ (λc z hz=>(hsub c z hz).imp id λ⟨p1,p2,p3,p4⟩=>⟨p1,p2,λ_=>p3,p4⟩) hnd2 h
theorem ins_tx:cfg.known 237=some (insV cfg 35 72 99 120):=by kernel_rfl
theorem QSq(l:Ln)(o:Option (List W))(hpb:purL (o.getD [])=true):renH (numC [] 3) ([(1,133,lnO l.who 2 o),(0,133,lnW l)]++oH 2 72 99 o)=[(4,133,lnO l.who 5 o),(3,133,lnW l)]++oH 5 72 99 o:=by
 rw[ZEq,YWq _ _ _ _ hpb,renH,renH,ZRq,zwq (qqq l)];rfl
theorem put_keep(l:Ln)(x:Tx)(o:Option (List W)):∀c z,hget [(2,133,lnO l.who 5 o),(1,72,txW x),(0,133,lnW l)] c=some z->c≠6/\c≠5/\hget ((6,72,txW x)::([(2,133,lnO l.who 5 o),(1,72,txW x),(0,133,lnW l)]++oH 5 72 99 o)) c=some z:=λc z h=>by
 have hc:c=2\/c=1\/c=0:=Classical.byContradiction λq=>by
  rw[yLq λp hp e=>q (by rcases List.mem_cons.1 hp with rfl|hp;exact .inl e.symm;rcases List.mem_cons.1 hp with rfl|hp;exact .inr (.inl e.symm);simp only[List.mem_cons,List.not_mem_nil,or_false] at hp;subst hp;exact .inr (.inr e.symm))] at h;cases h
 refine⟨by omega,by omega,?_⟩;rw[zaq,if_neg Xd];exact vvq h
theorem ins_pur{l:List W}{i:Nat}{y:W}(h:purL l=true)(hy:purW y=true):purL (l.take i++y::l.drop i)=true:=by
 rw[<-List.take_append_drop i l,keq,Bool.and_eq_true] at h;rw[keq,h.1];show(true&&(purW y&&purL (l.drop i)))=true;rw[hy,h.2];rfl
section
variable (l:Ln) (x:Tx) (hx:∀y∈l.txs,y.ok) (ok:x.ok) (hm:LnM l) (ho:OwnX x l.who)
include hx ok hm ho
theorem put_fee{y:Tx}(hy:l.txs[ahN l.txs x.nonce]? =some y)(hn:y.nonce=x.nonce)(hf:x.fee<=y.fee):PS cfg glK 206 [lnW l,txW x] (.tup [ln0,.nils,.int .i64 190]):=by
 have hlen:=hm.1;have e:(l.txs.map txW).length=l.txs.length:=List.length_map _;have hat:=y7q hy;refine gIv 14 rfl (λR k0=>gC 0 rfl (zvq (w':=.int .i64 0) (kdq l hx Xd) Yi) (gF 0 rfl (congrArg not (eqI_iff.2 (rfl))) (gC 9 rfl (zvq (w':=.bool true) (own_s x ok l.who) Yh) (gC 11 rfl (Zcq l) (gC 2 rfl (JAq l.txs false x.nonce hm.srt Xd) (zdq 6 rfl ?_))))))
 (refine zUq rfl (qfq (y3q rfl rfl rfl rfl rfl Yb (Q3q l Xd) ?_));rintro w hp1 nw1 ⟨⟨o,hoo,rfl,rfl⟩,rfl⟩;have hpb:purL (o.getD [])=true:=(by rw[hoo];exact yOq _);rw[ZRq,QSq l o hpb,show numC [] 3 2=5 from rfl];refine⟨_,uQq (n:=3) (ZTq (l:=[2,1,0]) rfl Xg) Xm (λp hp=>by rw[xfq p hp];simp),vqq (qTq (l:=[2,1,0]) rfl Xg) (show [2,1,0].Nodup by decide),?_⟩)
 exact zsq 9 rfl (gZ 0 rfl e (gT 0 rfl (ltI_iff.2 Xd) (gP 4 rfl (zGq (i:=ahN l.txs x.nonce) rfl rfl rfl rfl rfl rfl rfl (zlq txW hy)) (gT 4 rfl (eqI_iff.2 Xd) (gP 12 rfl (zGq (i:=ahN l.txs x.nonce) rfl rfl rfl rfl rfl rfl rfl (zlq txW hy)) (gT 2 rfl (congrArg not (ltI_not.2 Xd)) (zdq 14 rfl (jkq Qm rfl (.pur rfl)))))))))
theorem put_set{y:Tx}(hy:l.txs[ahN l.txs x.nonce]? =some y)(hn:y.nonce=x.nonce)(hf:¬x.fee<=y.fee):PS cfg glK 206 [lnW l,txW x] (.tup [lnW (putB l x),.fz [txW y] 99 false,.int .i64 0]):=by
 have hlen:=hm.1;have e:(l.txs.map txW).length=l.txs.length:=List.length_map _;have hat:=y7q hy;have e2:(putB l x).txs.map txW=(l.txs.map txW).set (ahN l.txs x.nonce) (txW x):=List.map_set;have hps:purL ((l.txs.map txW).set (ahN l.txs x.nonce) (txW x))=true:=e2▸yOq _
 refine gIv 14 rfl (λR k0=>gC 0 rfl (zvq (w':=.int .i64 0) (kdq l hx Xd) Yi) (gF 0 rfl (congrArg not (eqI_iff.2 (rfl))) (gC 9 rfl (zvq (w':=.bool true) (own_s x ok l.who) Yh) (gC 11 rfl (Zcq l) (gC 2 rfl (JAq l.txs false x.nonce hm.srt Xd) (zdq 6 rfl ?_))))))
 (refine zUq rfl (qfq (y3q rfl rfl rfl rfl rfl Yb (Q3q l Xd) ?_));rintro w hp1 nw1 ⟨⟨o,hoo,rfl,rfl⟩,rfl⟩;have hpb:purL (o.getD [])=true:=(by rw[hoo];exact yOq _);rw[ZRq,QSq l o hpb,show numC [] 3 2=5 from rfl];refine⟨_,uQq (n:=3) (ZTq (l:=[2,1,0]) rfl Xg) Xm (λp hp=>by rw[xfq p hp];simp),vqq (qTq (l:=[2,1,0]) rfl Xg) (show [2,1,0].Nodup by decide),?_⟩;obtain rfl:o=some (l.txs.map txW):=(by cases o with|none=>exact absurd (hoo.symm▸e:([]:List W).length=_) Ql|some L=>exact congrArg some hoo))
 refine zsq 9 rfl (gZ 0 rfl e (gT 0 rfl (ltI_iff.2 Xd) (gP 4 rfl (zGq (i:=ahN l.txs x.nonce) rfl rfl rfl rfl rfl rfl rfl (zlq txW hy)) (gT 4 rfl (eqI_iff.2 Xd) (gP 12 rfl (zGq (i:=ahN l.txs x.nonce) rfl rfl rfl rfl rfl rfl rfl (zlq txW hy)) (gF 2 rfl (congrArg not (ltI_iff.2 Xd)) (gP 11 rfl (jYq (i:=ahN l.txs x.nonce) rfl rfl rfl rfl rfl rfl rfl (by rw[e];exact hat)) ?_)))))))
 (refine zUq rfl (utq (n:=(l.txs.map txW).length) (e:=99) rfl rfl rfl rfl rfl rfl rfl (zlq txW hy) rfl rfl rfl rfl Xg ?_))
 refine zsq 8 rfl (gP 0 rfl (zGq (i:=ahN l.txs x.nonce) rfl rfl rfl rfl rfl rfl rfl (zlq txW hy)) (zdq 1 rfl (fl_mem rfl rfl Xl (fl_mem rfl (jAq rfl rfl rfl rfl rfl rfl rfl) Xl (qHq 6 rfl ?_)))));refine jkq Qm rfl (.tup (.cons (.agg (.cons (.pur (qWq _)) (.cons ?_ .nil))) (.cons ?_ (.cons (.pur rfl) .nil))))
 ·rw[e2];exact .sl (full:=false) (c:=.arr ((l.txs.map txW).length*99) 99 ((l.txs.map txW).set (ahN l.txs x.nonce) (txW x))) rfl hps (zAq Xg (by rw[List.length_set]) rfl) Xi
 ·exact .sl (full:=false) (c:=txW y) rfl (jQq y) rfl Xi
theorem put_ins(h256:l.txs.length<256)(hn:∀y,l.txs[ahN l.txs x.nonce]? =some y->y.nonce≠x.nonce):PS cfg glK 206 [lnW l,txW x] (.tup [lnW (putA l x),.nils,.int .i64 0]):=by
 have e:(l.txs.map txW).length=l.txs.length:=List.length_map _;by_cases hat:ahN l.txs x.nonce<l.txs.length
 ·obtain⟨y,hy⟩:∃y,l.txs[ahN l.txs x.nonce]? =some y:=⟨_,List.getElem?_eq_getElem hat⟩
  have hny:=hn y hy;refine gIv 14 rfl (λR k0=>gC 0 rfl (zvq (w':=.int .i64 0) (kdq l hx Xd) Yi) (gF 0 rfl (congrArg not (eqI_iff.2 (rfl))) (gC 9 rfl (zvq (w':=.bool true) (own_s x ok l.who) Yh) (gC 11 rfl (Zcq l) (gC 2 rfl (JAq l.txs false x.nonce hm.srt Xd) (zdq 6 rfl ?_))))))
  (refine zUq rfl (qfq (y3q rfl rfl rfl rfl rfl Yb (Q3q l Xd) ?_));rintro w hp1 nw1 ⟨⟨o,hoo,rfl,rfl⟩,rfl⟩;have hpb:purL (o.getD [])=true:=(by rw[hoo];exact yOq _);rw[ZRq,QSq l o hpb,show numC [] 3 2=5 from rfl];refine⟨_,uQq (n:=3) (ZTq (l:=[2,1,0]) rfl Xg) Xm (λp hp=>by rw[xfq p hp];simp),vqq (qTq (l:=[2,1,0]) rfl Xg) (show [2,1,0].Nodup by decide),?_⟩)
  refine zsq 9 rfl (gZ 0 rfl e (gT 0 rfl (ltI_iff.2 Xd) (gP 4 rfl (zGq (i:=ahN l.txs x.nonce) rfl rfl rfl rfl rfl rfl rfl (zlq txW hy)) (gF 4 rfl (eqI_not.2 Xd) (gZ 11 rfl e (gF 0 rfl (eqI_not.2 Xd) (gM 8 rfl (yEq rfl rfl rfl lnO_g) (zdq 3 rfl ?_))))))))
  (refine zUq rfl (Zsq (j:=ti35) (k:=ti72) (y:=txW x) (nb:=txW x) (b:=5) ins_tx rfl rfl rfl rfl rfl rfl rfl rfl rfl rfl (zpq Xg (zpq Xg (vpq (qTq (l:=[1,0]) rfl Xg)))) hpb rfl rfl (jQq x) (jQq x) Xg Xg Xg (by rw[hoo,e];exact ahN_le _ _) (by rw[hoo,e];show _*120<=_;omega) (by rw[hoo,e];omega) [(2,133,lnO l.who 5 o),(1,72,txW x),(0,133,lnW l)] (put_keep l x o) Xm Xm ?_);intro L hL)
  refine yBq rfl rfl (op_mem rfl (jAq rfl rfl rfl rfl rfl lnO_p rfl) ?_);refine zsq 11 rfl ?_;refine jkq Qm rfl (.tup (.cons (.agg (.cons (.pur (qWq _)) (.cons ?_ .nil))) (.cons (.pur rfl) (.cons (.pur rfl) .nil))));rw[show(putA l x).txs.map txW=L from by rw[hL,hoo,putA,List.map_append,List.map_take,List.map_cons,List.map_drop]];exact .sl (full:=false) (c:=.arr (L.length*99) 99 L) rfl (show purL L=true by rw[hL];exact ins_pur hpb (jQq x)) (zAq Xg rfl rfl) Xi
 ·skip
  refine gIv 14 rfl (λR k0=>gC 0 rfl (zvq (w':=.int .i64 0) (kdq l hx Xd) Yi) (gF 0 rfl (congrArg not (eqI_iff.2 (rfl))) (gC 9 rfl (zvq (w':=.bool true) (own_s x ok l.who) Yh) (gC 11 rfl (Zcq l) (gC 2 rfl (JAq l.txs false x.nonce hm.srt Xd) (zdq 6 rfl ?_))))))
  (refine zUq rfl (qfq (y3q rfl rfl rfl rfl rfl Yb (Q3q l Xd) ?_));rintro w hp1 nw1 ⟨⟨o,hoo,rfl,rfl⟩,rfl⟩;have hpb:purL (o.getD [])=true:=(by rw[hoo];exact yOq _);rw[ZRq,QSq l o hpb,show numC [] 3 2=5 from rfl];refine⟨_,uQq (n:=3) (ZTq (l:=[2,1,0]) rfl Xg) Xm (λp hp=>by rw[xfq p hp];simp),vqq (qTq (l:=[2,1,0]) rfl Xg) (show [2,1,0].Nodup by decide),?_⟩)
  refine zsq 9 rfl (gZ 0 rfl e (gF 0 rfl (ltI_not.2 Xd) (gZ 21 rfl e (gF 0 rfl (eqI_not.2 Xd) (gM 8 rfl (yEq rfl rfl rfl lnO_g) (zdq 3 rfl ?_))))))
  (refine zUq rfl (Zsq (j:=ti35) (k:=ti72) (y:=txW x) (nb:=txW x) (b:=5) ins_tx rfl rfl rfl rfl rfl rfl rfl rfl rfl rfl (zpq Xg (zpq Xg (vpq (qTq (l:=[1,0]) rfl Xg)))) hpb rfl rfl (jQq x) (jQq x) Xg Xg Xg (by rw[hoo,e];exact ahN_le _ _) (by rw[hoo,e];show _*120<=_;omega) (by rw[hoo,e];omega) [(2,133,lnO l.who 5 o),(1,72,txW x),(0,133,lnW l)] (put_keep l x o) Xm Xm ?_);intro L hL)
  refine yBq rfl rfl (op_mem rfl (jAq rfl rfl rfl rfl rfl lnO_p rfl) ?_);refine zsq 11 rfl ?_;refine jkq Qm rfl (.tup (.cons (.agg (.cons (.pur (qWq _)) (.cons ?_ .nil))) (.cons (.pur rfl) (.cons (.pur rfl) .nil))));rw[show(putA l x).txs.map txW=L from by rw[hL,hoo,putA,List.map_append,List.map_take,List.map_cons,List.map_drop]];exact .sl (full:=false) (c:=.arr (L.length*99) 99 L) rfl (show purL L=true by rw[hL];exact ins_pur hpb (jQq x)) (zAq Xg rfl rfl) Xi
end
end
section
attribute [local irreducible] CoW OpW FlW Step Spec
variable {G:Nat->Option W}
theorem tw_eq{α:Type}{q:α->Bool}:∀{l:List α} {k:Nat},k<=l.length->(∀(j:Nat) x,j<k->l[j]? =some x->q x=true) ->(∀x,l[k]? =some x->q x=false) ->(l.takeWhile q).length=k
 |[],k,h,_,_=>by
  simp only[List.length_nil] at h;obtain rfl:k=0:=by omega
  rfl
 |x::l,0,_,_,h2=>by
  have:=h2 x rfl;simp[this]
 |x::l,k+1,h,h1,h2=>by
  rw[List.takeWhile_cons_of_pos (h1 0 x Xd rfl),List.length_cons,tw_eq (k:=k) (by simpa using h) (λj y hj hy=>h1 (j+1) y Xd (by simpa using hy)) (λy hy=>h2 y (by simpa using hy))]
noncomputable def fndK(s:Shd)(k:Dig):Nat:=(s.takeWhile λl=>ypq l.who k).length
theorem fndK_le(s:Shd)(k:Dig):fndK s k<=s.length:=by
 unfold fndK;exact(List.takeWhile_sublist _).length_le
def IsAt(s:Shd)(k:Dig):Prop:=∃l,s[fndK s k]? =some l/\l.who=k
noncomputable instance(s:Shd)(k:Dig):Decidable (IsAt s k):=Classical.propDecidable _
theorem find1_s(l:Ln)(k:Dig):PS cfg G 259 [lnW l,.fel (dW k)] (.bool (!ypq l.who k)):=by
 exact gI 11 rfl (λR k0=>gC 0 rfl (Jzq l.who k) (gQa 5 rfl))
theorem ixln_k(s:Shd)(f:Bool)(k:Dig)(hn:s.length<=1000000000):PS cfg G 145 [.fz (s.map lnW) 33 f,.fn 259 [] [.fel (dW k)]] (.int .i64 (if fndK s k<s.length then(fndK s k:Int) else-1)):=by
 have e:(s.map lnW).length=s.length:=List.length_map _;refine gI 9 rfl (λR k0=>gZ 0 rfl e ?_);refine gLo (α:=Nat) 4 (λi=>i<=s.length/\∀(j:Nat) x,j<i->s[j]? =some x->ypq x.who k=true) (λi=>[(8,.int .i64 (i:Int))]) [0,1,4,7] (λi=>s.length-i) (0) rfl (⟨Nat.zero_le _,λj x h=>by omega⟩) (λi hI=>?_);obtain⟨g1,g2⟩:=hI;refine gS 6 rfl (λh1=>?_) (λh1=>?_)
 ·obtain⟨x,hx⟩:∃x,s[i]? =some x:=⟨_,List.getElem?_eq_getElem Xd⟩
  skip
  cases hk:ypq x.who k with
  |false=>
   have hf:fndK s k=i:=tw_eq g1 g2 (λy hy=>by obtain rfl:=Option.some.inj (hx.symm.trans hy);exact hk);exact zQq 15 rfl (gP 0 rfl (zGq (i:=i) rfl rfl rfl rfl rfl rfl rfl (zlq lnW hx)) (gC 1 rfl (zvq (w':=.bool true) (find1_s x k) (by rw[hk];rfl)) (gO 12 rfl (gQ 2 rfl (by rw[hf,if_pos Xd])))))
  |true=>
   exact zQq 15 rfl (gP 0 rfl (zGq (i:=i) rfl rfl rfl rfl rfl rfl rfl (zlq lnW hx)) (gC 1 rfl (zvq (w':=.bool false) (find1_s x k) (by rw[hk];rfl)) (gA 7 rfl (i+1) (gAg 2 rfl (i+1) (⟨by omega,λj y hj hy=>by rcases Nat.lt_succ_iff_lt_or_eq.1 hj with q|rfl;exact g2 j y q hy;exact Option.some.inj (hx.symm.trans hy)▸hk⟩) Xd))))
 ·have hf:fndK s k=s.length:=tw_eq (Nat.le_refl _) (λj x hj hx=>g2 j x Xd hx) (λy hy=>by have:=y7q hy;omega);exact gO 2 rfl (gQ 8 rfl (by rw[hf,if_neg Xd]))
theorem Qcq(s:Shd)(k:Dig)(hn:s.length<=1000000000):PS cfg G 238 [.fel (shdW s),dW k] (.tup [.int .i64 (fndK s k:Int),.bool (decide (IsAt s k))]):=by
 have e:(s.map lnW).length=s.length:=List.length_map _;have hps:=qEq s;have hv:∀{hp:HpW},blkA hp 0=some (dW k) ->ViewL (blkA hp) [.fz (s.map lnW) 33 false,.fn 259 [] [.ptr 0 0]] [.fz (s.map lnW) 33 false,.fn 259 [] [.fel (dW k)]]:=λq=>.cons (.pur hps) (.cons (.fn .nil (.cons (yIq q (qWq k) rfl) .nil)) .nil)
 have hpa:purL [.fz (s.map lnW) 33 false,.fn 259 [] [.fel (dW k)]]=true:=by simp[purL,purW]
 by_cases h0:fndK s k<s.length
 ·obtain⟨l,hl⟩:∃l,s[fndK s k]? =some l:=⟨_,List.getElem?_eq_getElem h0⟩
  by_cases hw:l.who=k
  ·skip
   exact gI 15 rfl (λR k0=>uIq rfl rfl rfl rfl rfl (hv rfl) (zvq (w':=.int .i64 (fndK s k:Int)) (ixln_k s false k hn) (by rw[if_pos h0])) hpa rfl (zsq 7 rfl (gF 0 rfl (ltI_not.2 Xd) (gP 14 rfl (zGq (i:=fndK s k) rfl rfl rfl rfl rfl rfl rfl (zlq lnW hl)) (zdq 3 rfl (vRq (w':=.bool true) rfl (q4q rfl rfl rfl rfl (j3q rfl rfl rfl rfl rfl rfl l.who k 250)) (by rw[decide_eq_true hw]) (qHq 5 rfl (gQ 0 rfl (by rw[decide_eq_true (show IsAt s k from⟨l,hl,hw⟩)])))))))))
  ·skip
   exact gI 15 rfl (λR k0=>uIq rfl rfl rfl rfl rfl (hv rfl) (zvq (w':=.int .i64 (fndK s k:Int)) (ixln_k s false k hn) (by rw[if_pos h0])) hpa rfl (zsq 7 rfl (gF 0 rfl (ltI_not.2 Xd) (gP 14 rfl (zGq (i:=fndK s k) rfl rfl rfl rfl rfl rfl rfl (zlq lnW hl)) (zdq 3 rfl (vRq (w':=.bool false) rfl (q4q rfl rfl rfl rfl (j3q rfl rfl rfl rfl rfl rfl l.who k 250)) (by rw[decide_eq_false hw]) (qHq 5 rfl (gQ 0 rfl (by rw[decide_eq_false (show¬IsAt s k from λ⟨y,hy,q⟩=>hw (by obtain rfl:=Option.some.inj (hl.symm.trans hy);exact q))])))))))))
 ·have h1:fndK s k=s.length:=Nat.le_antisymm (fndK_le s k) Xd;exact gI 15 rfl (λR k0=>uIq rfl rfl rfl rfl rfl (hv rfl) (zvq (w':=.int .i64 (-1)) (ixln_k s false k hn) (by rw[if_neg h0])) hpa rfl (zsq 7 rfl (gT 0 rfl (ltI_iff.2 Xd) (gZ 10 rfl e (gQ 6 rfl (by rw[decide_eq_false (show¬IsAt s k from λ⟨y,hy,_⟩=>h0 (y7q hy)),h1]))))))
noncomputable def jtq(s:Shd)(k:Dig):Ln:=match s[fndK s k]? with
 |some l=>if l.who=k then l else⟨k,[]⟩
 |none=>⟨k,[]⟩
theorem line_s(s:Shd)(k:Dig)(hn:s.length<=1000000000):PS cfg G 207 [.fel (shdW s),dW k] (lnW (jtq s k)):=by
 have hps:=qEq s;by_cases h:IsAt s k
 ·obtain⟨l,hl,hw⟩:=h;have el:jtq s k=l:=by unfold jtq;rw[hl];exact if_pos hw
  refine gIv 10 rfl (λR k0=>gC 0 rfl (zvq (w':=.tup [.int .i64 (fndK s k:Int),.bool true]) (Qcq s k hn) (by rw[decide_eq_true (show IsAt s k from⟨l,hl,hw⟩)])) (gP 25 rfl (zGq (i:=fndK s k) rfl rfl rfl rfl rfl rfl rfl (zlq lnW hl)) (zdq 5 rfl ?_)));rw[el];exact jkq Qm rfl (.pur (qqq l))
 ·have el:jtq s k=⟨k,[]⟩:=by
   unfold jtq;split
   ·rename_i l hl;exact if_neg λhw=>h ⟨l,hl,hw⟩
   ·rfl
  refine gIv 10 rfl (λR k0=>gC 0 rfl (zvq (w':=.tup [.int .i64 (fndK s k:Int),.bool false]) (Qcq s k hn) (by rw[decide_eq_false h])) (zdq 24 rfl ?_));rw[el];exact jkq Qm rfl (.agg (.cons (.pur (qWq k)) (.cons .nilfz .nil)))
noncomputable def ptO(b:Nat)(o:Option (List W)):W:=.agg 1 [oW b 33 o]
theorem jUq(τ:Nat->Nat)(b:Nat)(o:Option (List W)):renW τ (ptO b o)=ptO (τ b) o:=by
 show W.agg 1 [renW τ (oW b 33 o)]=_;rw[ren_o];rfl
theorem jsq{n b:Nat}{o:Option (List W)}(h:b<n):refB n (ptO b o)=true:=by
 show(refB n (oW b 33 o)&&true)=true;rw[ref_o h];rfl
theorem ptO_g{b:Nat}{o:Option (List W)}:zWq 50 (ptO b o) 0 1 false=some (oW b 33 o):=by cases o<;>rfl
theorem ptO_p{b c:Nat}{o:Option (List W)}{L:List W}:yDq 50 (ptO b o) 0 (oW c 33 (some L))=some (ptO c (some L)):=by cases o<;>rfl
theorem k8q{hp:HpW}{b c:Nat}{o:Option (List W)}{s:Shd}(h0:blkA hp b=some (ptO c o))(ho:o.getD []=s.map lnW)(hi:oIn hp c 133 33 o):View (blkA hp) (.ptr b 0) (.fel (shdW s)):=
 .ptr2 (n:=1) (ag:=true) (c':=shdW s) h0 (.agg (.cons (by have:=view_o Xg (by rw[ho];exact qEq s) hi;rw[ho] at this;exact this) .nil)) rfl
theorem shtwo_s(s:Shd)(hl:s.length<=1000000000)(hx:∀l∈s,l.txs.length<=1000000000):qmq cfg G 149 0 [shdW s] [] λw hp nw=>(∃o:Option (List W),o.getD []=s.map lnW/\w=ptO 2 o/\hp=[(1,131,ptO 2 o),(0,131,shdW s)]++oH 2 133 33 o)/\nw=3:=by
 have hpp:=Q4q s;have hps:=qEq s;have e:(s.map lnW).length=s.length:=List.length_map _;intro R;refine gIs 10 rfl (λk0=>?_);skip
 refine gSo 0 rfl (y3q rfl rfl rfl rfl rfl Yb (lncl_s s false hl) ?_);rintro w hp1 nw1 (⟨rfl,rfl,rfl,rfl⟩|⟨rfl,rfl,rfl⟩)
 ·skip
  skip
  refine gL 10 rfl ?_;refine gLo (α:=Nat) 4 (λi=>i=0) (λi=>[(12,.int .i64 (i:Int))]) [2,3,11] (λi=>0) (0) rfl (rfl) (λi hI=>?_);subst hI;exact gO 9 rfl (zdq 9 rfl (fin Qm (qdq (nw2:=3) (fr2:=[(2,.ptr 1 0)]) (hp2:=[(1,131,ptO 2 none),(0,131,shdW [])]) Xg (Nat.le_refl _) ⟨rfl,trivial⟩ rfl (yKq ⟨⟨by decide,rfl,rfl⟩,⟨by decide,rfl,rfl⟩,trivial⟩) Xm) rfl ⟨rfl,⟨none,rfl,rfl,rfl⟩,rfl⟩))
 ·rw[kwq hpp];refine gL 10 rfl ?_;refine gLo (α:=Nat) 4 (λi=>i<=s.length) (λi=>[(12,.int .i64 (i:Int))]) [2,3,11] (λi=>s.length-i) (0) rfl (Nat.zero_le _) (λi hI=>?_);refine gS 6 rfl (λh1=>?_) (λh1=>?_)
  ·have hi:i<s.length:=by omega
   obtain⟨x,hxi⟩:∃x,s[i]? =some x:=⟨_,List.getElem?_eq_getElem hi⟩
   refine gP 17 rfl (jYq (i:=i) rfl rfl rfl rfl rfl rfl rfl hi) ?_
   (refine qrq rfl (step_getl (n:=s.length) (e:=33) rfl rfl rfl rfl rfl rfl e (zlq lnW hxi) rfl rfl Xg ?_);refine⟨by kernel_rfl,?_⟩)
   refine fl_pq (lntw_s x (hx x (List.mem_of_getElem? hxi))) (jvq rfl (jYq (i:=i) rfl rfl rfl rfl rfl rfl rfl hi) ?_)
   (refine qrq rfl (utq (n:=s.length) (e:=33) rfl rfl rfl rfl rfl rfl e (zlq lnW hxi) rfl rfl rfl rfl Xg ?_);rw[xyq (zlq lnW hxi)];refine⟨by kernel_rfl,?_⟩)
   exact qHq 4 rfl (gA 0 rfl (i+1) (gAg 2 rfl (i+1) (hi) Xd))
  ·exact gO 2 rfl (zdq 9 rfl (fin Qm (qdq (nw2:=3) (fr2:=[(2,.ptr 1 0)]) (hp2:=[(1,131,ptO 2 (some (s.map lnW))),(0,131,shdW s),(2,133,.arr ((s.map lnW).length*33) 33 (s.map lnW))]) Xg Xg ⟨rfl,trivial⟩ rfl (yKq ⟨⟨by decide,by show some (_,W.agg 1 [W.sl 2 0 0 s.length 33 none])=some (_,W.agg 1 [W.sl 2 0 0 (s.map lnW).length 33 none]);rw[e],rfl⟩,⟨by decide,rfl,zeq (yUq s)⟩,⟨by decide,by rw[e];rfl,zeq (show purW (.arr _ 33 (s.map lnW))=true from hps)⟩,trivial⟩) Xm) rfl ⟨rfl,⟨some (s.map lnW),rfl,rfl,rfl⟩,rfl⟩))
end
theorem pw_of{α:Type}{R:α->α->Prop}(tr:∀{a b c},R a b->R b c->R a c):∀{l:List α},(∀(i:Nat) a b,l[i]? =some a->l[i+1]? =some b->R a b) ->l.Pairwise R
 |[],_=>.nil
 |[x],_=>.cons (λ_ h=>by cases h) .nil
 |x::y::l,h=>by
  have ih:(y::l).Pairwise R:=pw_of (R:=R) tr (λi a b ha hb=>h (i+1) a b ha hb);have hxy:R x y:=h 0 x y rfl rfl;refine .cons (λz hz=>?_) ih;rcases List.mem_cons.1 hz with rfl|hz
  ·exact hxy
  ·exact tr hxy ((List.pairwise_cons.1 ih).1 z hz)
theorem pw_at{α:Type}{R:α->α->Prop}{l:List α}(h:l.Pairwise R){i j:Nat}{a b:α}(hij:i<j)(ha:l[i]? =some a)(hb:l[j]? =some b):R a b:=by
 obtain⟨hi,rfl⟩:=List.getElem?_eq_some_iff.1 ha;obtain⟨hj,rfl⟩:=List.getElem?_eq_some_iff.1 hb;exact List.pairwise_iff_getElem.1 h i j hi hj hij
theorem tw_take{α:Type}{q:α->Bool}:∀{l:List α},l.take (l.takeWhile q).length=l.takeWhile q
 |[]=>rfl
 |x::l=>by
  cases hq:q x with
  |true=>rw[List.takeWhile_cons_of_pos hq,List.length_cons,List.take_succ_cons,tw_take]
  |false=>rw[List.takeWhile_cons_of_neg (by rw[hq];decide)];rfl
theorem tw_mem{α:Type}{q:α->Bool}{a:α}:∀{l:List α},a∈l.takeWhile q->q a=true
 |[],h=>by cases h
 |x::l,h=>by
  cases hq:q x with
  |true=>
   rw[List.takeWhile_cons_of_pos hq] at h;rcases List.mem_cons.1 h with rfl|h
   ·exact hq
   ·exact tw_mem h
  |false=>rw[List.takeWhile_cons_of_neg (by rw[hq];decide)] at h;cases h
theorem pw_ins{α:Type}{R:α->α->Prop}(tr:∀{a b c},R a b->R b c->R a c){q:α->Bool}{l:List α}{x:α}(h:l.Pairwise R)(h1:∀a∈l,q a=true->R a x)(h2:∀a,l[(l.takeWhile q).length]? =some a->R x a):
  (l.take (l.takeWhile q).length++x::l.drop (l.takeWhile q).length).Pairwise R:=by
 have ht:l.take (l.takeWhile q).length=l.takeWhile q:=tw_take
 have hb:∀b∈l.drop (l.takeWhile q).length,R x b:=λb hb=>by
  obtain⟨j,hj,e⟩:=List.mem_drop_iff_getElem.1 hb;have hk:(l.takeWhile q).length<l.length:=by omega
  have ha:=h2 _ (List.getElem?_eq_getElem hk);rcases Nat.eq_zero_or_pos j with rfl|hp
  ·exact e▸ha
  ·exact tr ha (pw_at h (i:=(l.takeWhile q).length) (j:=(l.takeWhile q).length+j) Xd (List.getElem?_eq_getElem hk) (by rw[List.getElem?_eq_getElem Xd];exact congrArg some e))
 have ha:∀a∈l.take (l.takeWhile q).length,R a x:=λa ha=>by
  rw[ht] at ha;exact h1 a ((List.takeWhile_sublist _).mem ha) (tw_mem ha)
 rw[List.pairwise_append];refine⟨h.sublist (List.take_sublist _ _),.cons hb (h.sublist (List.drop_sublist _ _)),λa qa b qb=>?_⟩;rcases List.mem_cons.1 qb with rfl|qb
 ·exact ha a qa
 ·exact tr (ha a qa) (hb b qb)
theorem mem_ins{α:Type}{l:List α}{n:Nat}{x y:α}:y∈l.take n++x::l.drop n↔y=x\/y∈l:=by
 constructor
 ·intro h;rcases List.mem_append.1 h with h|h
  ·exact .inr (List.mem_of_mem_take h)
  ·rcases List.mem_cons.1 h with h|h
   ·exact .inl h
   ·exact .inr (List.mem_of_mem_drop h)
 ·rintro(rfl|h)
  ·exact List.mem_append_right _ (List.mem_cons_self ..)
  ·rw[<-List.take_append_drop n l] at h;rcases List.mem_append.1 h with h|h
   ·exact List.mem_append_left _ h
   ·exact List.mem_append_right _ (List.mem_cons_of_mem _ h)
theorem mem_set{α:Type}{l:List α}{n:Nat}{x y:α}(h:y∈l.set n x):y=x\/y∈l:=(List.mem_or_eq_of_mem_set h).symm
theorem set_mem{α:Type}{l:List α}{n:Nat}{x y z:α}(hz:l[n]? =some z)(hy:y∈l):y=z\/y∈l.set n x:=by
 obtain⟨j,hj,rfl⟩:=List.mem_iff_getElem.1 hy;by_cases e:n=j
 ·subst e;left
  rw[List.getElem?_eq_getElem hj] at hz;exact Option.some.inj hz
 ·right
  exact List.mem_of_getElem? (by rw[List.getElem?_set_ne e];exact List.getElem?_eq_getElem hj)
theorem tw_at{α:Type}{q:α->Bool}:∀{l:List α} {a:α},l[(l.takeWhile q).length]? =some a->q a=false
 |[],a,h=>by simp at h
 |x::l,a,h=>by
  cases hq:q x with
  |true=>
   rw[List.takeWhile_cons_of_pos hq,List.length_cons] at h;exact tw_at (by simpa using h)
  |false=>
   rw[List.takeWhile_cons_of_neg (by rw[hq];decide)] at h;have h:x=a:=by simpa using h
   rw[<-h];exact hq
noncomputable def setK(s:Shd)(l:Ln):Shd:=if IsAt s l.who then s.set (fndK s l.who) l else s.take (fndK s l.who)++l::s.drop (fndK s l.who)
noncomputable def putL(l:Ln)(x:Tx):Option Ln:=match l.txs[ahN l.txs x.nonce]? with
 |some y=>if y.nonce=x.nonce then(if x.fee<=y.fee then none else some (putB l x)) else some (putA l x)
 |none=>some (putA l x)
noncomputable def putK(s:Shd)(x:Tx):Shd:=match putL (jtq s (keyD x.pub)) x with
 |some l=>setK s l
 |none=>s
structure GoodL(n i m:Nat)(l:Ln):Prop where
 own:∀x∈l.txs,OwnX x l.who/\x.ok
 srt:l.txs.Pairwise λa b=>a.nonce<b.nonce
 len:l.txs.length<=m
 at_:atE l.who n=i
structure GoodS(n i m:Nat)(s:Shd):Prop where
 line:∀l∈s,GoodL n i m l/\l.txs≠[]
 keys:s.Pairwise λa b=>ypq a.who b.who=true
 len:s.length<=m
section
variable {n i m:Nat} {s:Shd} {l:Ln} {x:Tx} {k:Dig}
theorem GoodL.up(h:GoodL n i m l):GoodL n i (m+1) l:=⟨h.own,h.srt,by have:=h.len;omega,h.at_⟩
theorem uNq(s:Shd)(k:Dig):(IsAt s k/\s[fndK s k]? =some (jtq s k)/\(jtq s k).who=k)\/(¬IsAt s k/\jtq s k=⟨k,[]⟩):=by
 by_cases h:IsAt s k
 ·obtain⟨l,hl,hw⟩:=h;have el:jtq s k=l:=by unfold jtq;rw[hl];exact if_pos hw
  rw[el];exact .inl ⟨⟨l,hl,hw⟩,hl,hw⟩
 ·refine .inr ⟨h,?_⟩;unfold jtq;split
  ·rename_i l hl;exact if_neg λhw=>h ⟨l,hl,hw⟩
  ·rfl
theorem uMq(s:Shd)(k:Dig):(jtq s k).who=k:=by
 rcases uNq s k with ⟨_,_,h⟩|⟨_,h⟩
 ·exact h
 ·rw[h]
theorem xFq(h:GoodS n i m s)(hk:atE k n=i):GoodL n i m (jtq s k):=by
 rcases uNq s k with ⟨_,h1,_⟩|⟨_,h1⟩
 ·exact(h.line _ (List.mem_of_getElem? h1)).1
 ·rw[h1];exact⟨λx hx=>by simp at hx,.nil,Nat.zero_le _,hk⟩
theorem putA_good(h:GoodL n i m l)(ho:OwnX x l.who)(hx:x.ok)(hn:∀y,l.txs[ahN l.txs x.nonce]? =some y->y.nonce≠x.nonce):GoodL n i (m+1) (putA l x):=by
 refine⟨λy hy=>?_,?_,?_,h.at_⟩
 ·rcases mem_ins.1 hy with rfl|hy
  ·exact⟨ho,hx⟩
  ·exact h.own y hy
 ·refine pw_ins (q:=λy:Tx=>decide (y.nonce<x.nonce)) (R:=λa b:Tx=>a.nonce<b.nonce) (λh1 h2=>Nat.lt_trans h1 h2) h.srt (λa _ q=>by simpa using q) (λa ha=>?_);have h1:=hn a ha;have h2:decide (a.nonce<x.nonce)=false:=tw_at (q:=λx_1:Tx=>decide (x_1.nonce<x.nonce)) ha;have h2:¬a.nonce<x.nonce:=of_decide_eq_false h2;omega
 ·have:=h.len;show(l.txs.take _++x::l.txs.drop _).length<=_;simp only[List.length_append,List.length_take,List.length_cons,List.length_drop];omega
theorem putB_good(h:GoodL n i m l)(ho:OwnX x l.who)(hx:x.ok){y:Tx}(hy:l.txs[ahN l.txs x.nonce]? =some y)(hn:y.nonce=x.nonce):GoodL n i (m+1) (putB l x):=by
 refine⟨λz hz=>?_,?_,?_,h.at_⟩
 ·rcases mem_set hz with rfl|hz
  ·exact⟨ho,hx⟩
  ·exact h.own z hz
 ·have e:(l.txs.set (ahN l.txs x.nonce) x).map Tx.nonce=l.txs.map Tx.nonce:=by
   rw[List.map_set];exact xyq (by rw[List.getElem?_map,hy,<-hn];rfl)
  have h2:(l.txs.map Tx.nonce).Pairwise (· < ·):=List.pairwise_map.2 h.srt;rw[<-e] at h2;exact List.pairwise_map.1 h2
 ·have:=h.len;show(l.txs.set _ x).length<=_;rw[List.length_set];omega
theorem setK_who{y:Ln}(hy:y∈setK s l):y=l\/y∈s:=by
 unfold setK at hy;split at hy
 ·exact mem_set hy
 ·exact mem_ins.1 hy
theorem setK_has:l∈setK s l:=by
 unfold setK;split
 ·rename_i h;obtain⟨z,hz,_⟩:=h;exact List.mem_of_getElem? (List.getElem?_set_self (y7q hz))
 ·exact mem_ins.2 (.inl rfl)
theorem setK_old{y:Ln}(hy:y∈s):y∈setK s l\/(y.who=l.who/\y=jtq s l.who):=by
 unfold setK;rcases uNq s l.who with ⟨h1,h2,h3⟩|⟨h1,_⟩
 ·rw[if_pos h1];rcases set_mem (x:=l) h2 hy with rfl|h
  ·exact .inr ⟨h3,rfl⟩
  ·exact .inl h
 ·rw[if_neg h1];exact .inl (mem_ins.2 (.inr hy))
theorem setK_good(h:GoodS n i m s)(hl:GoodL n i (m+1) l)(ht:l.txs≠[]):GoodS n i (m+1) (setK s l):=by
 refine⟨λy hy=>?_,?_,?_⟩
 ·rcases setK_who hy with rfl|hy
  ·exact⟨hl,ht⟩
  ·exact⟨(h.line y hy).1.up,(h.line y hy).2⟩
 ·unfold setK;split
  ·rename_i q;obtain⟨z,hz,hw⟩:=q
   have e:(s.set (fndK s l.who) l).map Ln.who=s.map Ln.who:=by
    rw[List.map_set];exact xyq (by rw[List.getElem?_map,hz,<-hw];rfl)
   have h2:(s.map Ln.who).Pairwise (λa b=>ypq a b=true):=List.pairwise_map.2 h.keys;rw[<-e] at h2;exact List.pairwise_map.1 h2
  ·rename_i q;refine pw_ins (R:=λa b:Ln=>ypq a.who b.who=true) (λh1 h2=>Yzq h1 h2) h.keys (λa _ q=>q) (λa ha=>?_);have h1:ypq a.who l.who=false:=tw_at (q:=λl_1:Ln=>ypq l_1.who l.who) ha;rcases YAq (a:=a.who) (b:=l.who) (λe=>q ⟨a,ha,e⟩) with h2|h2
   ·rw[h1] at h2;cases h2
   ·exact h2
 ·have:=h.len;unfold setK;split
  ·rw[List.length_set];omega
  ·simp only[List.length_append,List.length_take,List.length_cons,List.length_drop];omega
theorem GoodS.up(h:GoodS n i m s):GoodS n i (m+1) s:=⟨λl hl=>⟨(h.line l hl).1.up,(h.line l hl).2⟩,h.keys,by have:=h.len;omega⟩
theorem QUq{l':Ln}(h:GoodL n i m l)(ho:OwnX x l.who)(hx:x.ok)(he:putL l x=some l'):GoodL n i (m+1) l'/\l'.txs≠[]/\l'.who=l.who:=by
 unfold putL at he;split at he
 ·rename_i y hy;split at he
  ·rename_i hn;split at he
   ·cases he
   ·cases he;refine⟨putB_good h ho hx hy hn,λq=>?_,rfl⟩;have:(l.txs.set (ahN l.txs x.nonce) x).length=0:=by rw[show l.txs.set (ahN l.txs x.nonce) x=[] from q];rfl
    rw[List.length_set] at this;have:=y7q hy;omega
  ·rename_i hn;cases he;exact⟨putA_good h ho hx (λz hz=>by obtain rfl:=Option.some.inj (hy.symm.trans hz);exact hn),by simp[putA],rfl⟩
 ·rename_i hy;cases he;exact⟨putA_good h ho hx (λz hz=>by rw[hy] at hz;cases hz),by simp[putA],rfl⟩
theorem putK_good(h:GoodS n i m s)(ho:x.sign=jSq x)(hx:x.ok)(hk:atE (keyD x.pub) n=i):GoodS n i (m+1) (putK s x):=by
 unfold putK;split
 ·rename_i l' he;obtain⟨h1,h2,h3⟩:=QUq (xFq h hk) ⟨ho,(uMq s _).symm⟩ hx he;exact setK_good h h1 h2
 ·exact h.up
def Cov(s:Shd)(k:Dig)(n f:Nat):Prop:=∃l∈s,l.who=k/\∃y∈l.txs,y.nonce=n/\f<=y.fee
theorem put_has(h:GoodS n i m s)(ho:x.sign=jSq x)(hx:x.ok)(hk:atE (keyD x.pub) n=i):Cov (putK s x) (keyD x.pub) x.nonce x.fee:=by
 have hw:=uMq s (keyD x.pub);unfold putK;split
 ·rename_i l' he;obtain⟨_,_,h3⟩:=QUq (xFq h hk) ⟨ho,hw.symm⟩ hx he;refine⟨l',setK_has,h3.trans hw,x,?_,rfl,Nat.le_refl _⟩;unfold putL at he;split at he
  ·rename_i y hy;split at he
   ·split at he
    ·cases he
    ·cases he;exact List.mem_of_getElem? (List.getElem?_set_self (y7q hy))
   ·cases he;exact mem_ins.2 (.inl rfl)
  ·cases he;exact mem_ins.2 (.inl rfl)
 ·rename_i he;unfold putL at he;split at he
  ·rename_i y hy;split at he
   ·rename_i hn;split at he
    ·rename_i hf;rcases uNq s (keyD x.pub) with ⟨_,h2,_⟩|⟨_,h2⟩
     ·exact⟨_,List.mem_of_getElem? h2,hw,y,List.mem_of_getElem? hy,hn,hf⟩
     ·rw[h2] at hy;simp at hy
    ·cases he
   ·cases he
  ·cases he
theorem put_kept{k:Dig}{c f:Nat}(h:GoodS n i m s)(ho:x.sign=jSq x)(hx:x.ok)(hk:atE (keyD x.pub) n=i)(hc:Cov s k c f):Cov (putK s x) k c f:=by
 have hw:=uMq s (keyD x.pub);unfold putK;split
 ·rename_i l' he;obtain⟨_,_,h3⟩:=QUq (xFq h hk) ⟨ho,hw.symm⟩ hx he;obtain⟨l,hl,hlw,y,hy,hyn,hyf⟩:=hc;rcases setK_old (l:=l') hl with q|⟨q1,q2⟩
  ·exact⟨l,q,hlw,y,hy,hyn,hyf⟩
  ·have hl':l'.who=keyD x.pub:=h3.trans hw;rw[hl'] at q2;subst q2;refine⟨l',setK_has,q1.symm.trans hlw,?_⟩;unfold putL at he;split at he
   ·rename_i z hz;split at he
    ·rename_i hn;split at he
     ·cases he
     ·rename_i hf;cases he;rcases set_mem (x:=x) hz hy with rfl|q
      ·exact⟨x,List.mem_of_getElem? (List.getElem?_set_self (y7q hz)),hn.symm.trans hyn,by omega⟩
      ·exact⟨y,q,hyn,hyf⟩
    ·cases he;exact⟨y,mem_ins.2 (.inr hy),hyn,hyf⟩
   ·cases he;exact⟨y,mem_ins.2 (.inr hy),hyn,hyf⟩
 ·exact hc
end
section
attribute [local irreducible] CoW OpW FlW Step Spec
variable {G:Nat->Option W}
theorem ins_ln:cfg.known 241=some (insV cfg 129 133 33 56):=by kernel_rfl
noncomputable def ptH(c:Nat)(o:Option (List W)):HpW:=(0,358,ptO c o)::oH c 133 33 o
theorem pset_keep{x y z:TypeId×W}{Q:HpW}:∀c u,hget [(2,x),(0,y)] c=some u->c≠3/\c≠1/\hget ((3,z)::(2,x)::(0,y)::Q) c=some u:=λc u hc=>by
 have h:=hc;rw[zaq] at h;split at h
 ·rename_i q;subst q;cases h;exact⟨by decide,by decide,rfl⟩
 ·rw[zaq] at h;split at h
  ·rename_i q;subst q;cases h;exact⟨by decide,by decide,rfl⟩
  ·simp[hget] at h
theorem pset_s(s:Shd)(l:Ln)(o:Option (List W))(ho:o.getD []=s.map lnW)(ht:l.txs≠[])(hl:l.txs.length<=1000)(hn:s.length<=1000):qmq cfg G 210 2 [.ptr 0 0,lnW l] (ptH 1 o) λw hp nw=>w= .tup []/\(∃c o',(c=1\/c=2)/\o'.getD []=(setK s l).map lnW/\hp=ptH c o')/\nw=3:=by
 have e:(s.map lnW).length=s.length:=List.length_map _;have e2:(l.txs.map txW).length=l.txs.length:=List.length_map _;have hps:=qEq s;have hpx:=yOq l.txs;have h0:l.txs.length≠0:=λq=>ht (List.length_eq_zero_iff.1 q)
 have hpa:purL [.fel (shdW s),dW l.who]=true:=by simp[purL,purW]
 intro R;by_cases h:IsAt s l.who
 ·obtain⟨z,hz,hw⟩:=h;have hlt:=y7q hz
  have e3:(setK s l).map lnW=(s.map lnW).set (fndK s l.who) (lnW l):=by
   unfold setK;rw[if_pos ⟨z,hz,hw⟩,List.map_set]
  have hps2:purL ((s.map lnW).set (fndK s l.who) (lnW l))=true:=e3▸qEq _
  obtain rfl:o=some (s.map lnW):=by
   cases o with
   |none=>exact absurd (ho.symm▸e:([]:List W).length=_) Ql
   |some L=>exact congrArg some ho
  refine gIs 17 rfl (λk0=>?_);refine uIq rfl rfl rfl rfl rfl (.cons (k8q rfl ho (zpq Xg (zpq Xg kRq))) (.cons (.pur (qWq l.who)) .nil)) (zvq (w':=.tup [.int .i64 (fndK s l.who:Int),.bool true]) (Qcq s l.who Xd) (by rw[decide_eq_true (show IsAt s l.who from⟨z,hz,hw⟩)])) hpa rfl (zsq 14 rfl (gZ 0 rfl e2 (gF 0 rfl (eqI_not.2 Xd) (gP 20 rfl (jYq (i:=fndK s l.who) rfl rfl rfl rfl rfl rfl rfl (by rw[e];exact hlt)) ?_))))
  (refine qrq rfl (utq (n:=(s.map lnW).length) (e:=33) rfl rfl rfl rfl rfl rfl rfl (zlq lnW hz) rfl rfl rfl rfl Xg ?_);refine⟨by kernel_rfl,?_⟩)
  exact qHq 2 rfl (fin (.inl rfl) (qdq (nw2:=3) (fr2:=[]) (hp2:=ptH 1 (some ((s.map lnW).set (fndK s l.who) (lnW l)))) Xg Xg trivial rfl (yKq ⟨⟨by decide,by show some (_,W.agg 1 [W.sl 1 0 0 (s.map lnW).length 33 none])=some (_,W.agg 1 [W.sl 1 0 0 ((s.map lnW).set (fndK s l.who) (lnW l)).length 33 none]);rw[List.length_set],jsq Xg⟩,⟨by decide,by rw[List.length_set];rfl,zeq (show purW (.arr _ 33 ((s.map lnW).set (fndK s l.who) (lnW l)))=true from hps2)⟩,trivial⟩) (by simp[ptH,oH])) rfl ⟨rfl,rfl,⟨1,some ((s.map lnW).set (fndK s l.who) (lnW l)),.inl rfl,e3.symm,rfl⟩,rfl⟩)
 ·have e3:(setK s l).map lnW=(s.map lnW).take (fndK s l.who)++lnW l::(s.map lnW).drop (fndK s l.who):=by
   unfold setK;rw[if_neg h,List.map_append,List.map_take,List.map_cons,List.map_drop]
  have hle:=fndK_le s l.who;have hop:purL (o.getD [])=true:=ho▸hps
  refine gIs 17 rfl (λk0=>?_);refine uIq rfl rfl rfl rfl rfl (.cons (k8q rfl ho (zpq Xg (zpq Xg kRq))) (.cons (.pur (qWq l.who)) .nil)) (zvq (w':=.tup [.int .i64 (fndK s l.who:Int),.bool false]) (Qcq s l.who Xd) (by rw[decide_eq_false h])) hpa rfl (zsq 32 rfl (gZ 0 rfl e2 (gT 0 rfl (ltI_iff.2 Xd) (gM 10 rfl (yEq rfl rfl rfl ptO_g) (zdq 3 rfl ?_)))))
  (refine qrq rfl (Zsq (j:=ti129) (k:=ti133) (y:=lnW l) (nb:=lnW l) (b:=1) ins_ln rfl rfl rfl rfl rfl rfl rfl rfl rfl rfl (zpq Xg (zpq Xg (zpq Xg kRq))) hop rfl rfl (qqq l) (qqq l) Xg Xg Xg (by rw[ho,e];exact hle) (by rw[ho,e];show _*56<=_;omega) (by rw[ho,e];omega) [(2,133,lnW l),(0,358,ptO 1 o)] pset_keep Xm Xm ?_);intro L hL;refine⟨by kernel_rfl,?_⟩)
  refine qHq 3 rfl (gM 0 rfl (jAq rfl rfl rfl rfl rfl ptO_p rfl) (zdq 2 rfl ?_));have hpl:purW (.arr (L.length*33) 33 L)=true:=by show purL L=true;rw[hL];exact ins_pur hop (qqq l)
  exact fin (.inl rfl) (yVq (b:=2) (k:=4) (fr2:=[]) (hp2:=ptH 2 (some L)) Xg Xg Xg trivial ⟨⟨by decide,by rw[jUq];rfl,jsq Xg⟩,⟨by decide,by rw[zwq hpl];rfl,zeq hpl⟩,trivial⟩ (by simp[ptH,oH])) rfl ⟨rfl,rfl,⟨2,some L,.inr rfl,by rw[e3,<-ho];exact hL,rfl⟩,rfl⟩
end
section
attribute [local irreducible] CoW OpW FlW Step Spec
section
variable {G:Nat->Option W}
theorem line_o(s:Shd)(k:Dig)(o:Option (List W))(ho:o.getD []=s.map lnW)(hn:s.length<=1000000000):qmq cfg G 207 2 [.ptr 0 0,dW k] (ptH 1 o) λw hp nw=>w=lnW (jtq s k)/\hp=(3,133,lnW (jtq s k))::ptH 1 o/\nw=4:=by
 have e:(s.map lnW).length=s.length:=List.length_map _;have hps:=qEq s;have hpo:purL (o.getD [])=true:=ho▸hps
 have hpa:purL [.fel (shdW s),dW k]=true:=by simp[purL,purW]
 have hv:∀{P:HpW},oIn P 1 133 33 o->hget P 0=some (358,ptO 1 o) ->ViewL (blkA P) [.ptr 0 0,dW k] [.fel (shdW s),dW k]:=λh1 h2=>.cons (k8q (by unfold blkA;rw[h2]) ho h1) (.cons (.pur (qWq k)) .nil)
 intro R;rcases uNq s k with ⟨h1,h2,h3⟩|⟨h1,h2⟩
 ·have hlt:=y7q h2
  obtain rfl:o=some (s.map lnW):=by
   cases o with
   |none=>exact absurd (ho.symm▸e:([]:List W).length=_) Ql
   |some L=>exact congrArg some ho
  refine gIs 10 rfl (λk0=>?_);refine uIq rfl rfl rfl rfl rfl (hv (zpq Xg (zpq Xg (zpq Xg kRq))) rfl) (zvq (w':=.tup [.int .i64 (fndK s k:Int),.bool true]) (Qcq s k hn) (by rw[decide_eq_true h1])) hpa rfl (zsq 25 rfl (gP 0 rfl (jYq (i:=fndK s k) rfl rfl rfl rfl rfl rfl rfl (by rw[e];exact hlt)) ?_))
  (refine zUq rfl (step_getl (n:=(s.map lnW).length) (e:=33) rfl rfl rfl rfl rfl rfl rfl (zlq lnW h2) rfl rfl Xg ?_))
  exact zsq 4 rfl (fin Qm (qdq (nw2:=4) (fr2:=[(4,.ptr 3 0)]) (hp2:=(3,133,lnW (jtq s k))::ptH 1 (some (s.map lnW))) Xg Xg ⟨rfl,trivial⟩ rfl (yKq ⟨⟨by decide,rfl,zeq (qqq _)⟩,⟨by decide,rfl,jsq Xg⟩,⟨by decide,rfl,zeq (show purW (.arr _ 33 (s.map lnW))=true from hps)⟩,trivial⟩) (by simp[ptH,oH])) rfl ⟨rfl,rfl,rfl,rfl⟩)
 ·rw[h2];refine gIs 10 rfl (λk0=>?_);refine uIq rfl rfl rfl rfl rfl (hv (zpq Xg (zpq Xg (zpq Xg kRq))) rfl) (zvq (w':=.tup [.int .i64 (fndK s k:Int),.bool false]) (Qcq s k hn) (by rw[decide_eq_false h1])) hpa rfl (zsq 24 rfl ?_);exact fin Qm ((ent_blk (b:=3) (w':=lnW ⟨k,[]⟩) rfl (λΓ v hq=>jqq (Γ:=Γ) (Γ':=Γ) (blk:=λ_=>none) ⟨λ_ h _=>h,λ_ _ _=>rfl,λ_ h=>h,λ_ _=>rfl,λ_ _ _ h=>Yw⟩ (.agg (.cons (.pur (qWq k)) (.cons .nilfz .nil))) hq)).trans (qdq (nw2:=4) (fr2:=[(4,.ptr 3 0)]) (hp2:=(3,133,lnW ⟨k,[]⟩)::ptH 1 o) Xg Xg ⟨rfl,trivial⟩ rfl (yKq ⟨⟨by decide,rfl,zeq (qqq _)⟩,⟨by decide,rfl,jsq Xg⟩,subH_o Xg hpo (zpq Xg (zpq Xg (zpq Xg kRq)))⟩) (by cases o<;>simp[ptH,oH]))) rfl ⟨rfl,rfl,rfl,rfl⟩
end
theorem GoodL.lnm{n i m:Nat}{l:Ln}(h:GoodL n i m l)(hm:m<=256):LnM l:=by
 refine⟨by have:=h.len;omega,λj x hx=>⟨(h.own x (List.mem_of_getElem? hx)).1,λy hj hy=>pw_at h.srt (i:=j-1) (j:=j) Xd hy hx⟩⟩
theorem GoodS.sh{n i m:Nat}{s:Shd}(h:GoodS n i m s)(hm:m<=256):ShM s:=λj l hl=>by
 obtain⟨h1,h2⟩:=h.line l (List.mem_of_getElem? hl);exact⟨⟨λq=>h2 (List.length_eq_zero_iff.1 q),h1.lnm hm⟩,λp hj hp=>pw_at h.keys (i:=j-1) (j:=j) Xd hp hl⟩
noncomputable def bkS(t0:T)(s:Shd)(x:Tx):Shd:=if x.nonce<(kDq t0 (keyD x.pub)).nonce then s else putK s x
noncomputable def bkL(t0:T)(s:Shd)(xs:List Tx):Shd:=xs.foldl (bkS t0) s
theorem bkL_succ(t0:T)(s:Shd){xs:List Tx}{i:Nat}{x:Tx}(h:xs[i]? =some x):bkL t0 s (xs.take (i+1))=bkS t0 (bkL t0 s (xs.take i)) x:=by
 unfold bkL;rw[List.take_add_one,h,List.foldl_append];rfl
def BkX(n i:Nat)(x:Tx):Prop:=x.ok/\x.sign=jSq x/\atE (keyD x.pub) n=i
theorem Juq{n i m:Nat}{t0:T}{s:Shd}{x:Tx}(h:GoodS n i m s)(hx:BkX n i x):GoodS n i (m+1) (bkS t0 s x):=by
 unfold bkS;split
 ·exact h.up
 ·exact putK_good h hx.2.1 hx.1 hx.2.2
theorem Jwq{n i:Nat}{t0:T}:∀{xs:List Tx} {s:Shd} {m:Nat},GoodS n i m s->(∀x∈xs,BkX n i x) ->GoodS n i (m+xs.length) (bkL t0 s xs)
 |[],_,_,h,_=>h
 |x::xs,s,m,h,hx=>by
  have:=Jwq (t0:=t0) (Juq (t0:=t0) h (hx x (List.mem_cons_self ..))) (λy hy=>hx y (List.mem_cons_of_mem _ hy));rw[show m+(x::xs).length=m+1+xs.length by rw[List.length_cons];omega];exact this
theorem sbk1_s(x:Tx)(hx:x.ok):PS cfg glK 215 [txW x] (.bool (decide (Uns x))):=by
 by_cases h:x.sign=jSq x
 ·skip
  exact gI 9 rfl (λR k0=>gC 0 rfl (zvq (w':=.int .i64 0) (qMq x hx) (by rw[if_pos h])) (gF 0 rfl (congrArg not (eqI_iff.2 (rfl))) (gQ 4 rfl (kZq λq=>q h))))
 ·skip
  exact gI 9 rfl (λR k0=>gC 0 rfl (zvq (w':=.int .i64 110) (qMq x hx) (by rw[if_neg h])) (gT 0 rfl (congrArg not (eqI_not.2 Xg)) (gQ 4 rfl (u1q h))))
theorem ent_to{C:Cfg}{G:Nat->Option W}{m k0 nw b k:Nat}{fr fr2:FrW}{hp hp2:HpW}{R:Res}(hm:m<=b)(hb:b<=nw)(hmk:m<=k)(hk:k<nw)(hne:∀p∈hp2,p.1≠k\/k=b)(hf:subR (tau1 b k) (b+1) fr fr2)(hh:vYq (tau1 b k) (b+1) hp hp2)(nd:(hp2.map (·.1)).Nodup):Ent C G m k0 fr hp nw R fr2 hp2 (b+1) R:=by
 have hkey:∀i x,hget hp2 i=some x->i≠k\/k=b:=λi x hx=>Classical.byContradiction λq=>by
  rw[yLq λp hp e=>q (by have:=hne p hp;rw[e] at this;exact this)] at hx;cases hx
 refine ent_num (tau1 b k) Xd (λi hi=>ysq Xd) (λi hi=>?_) (λi h1 h2=>?_) (v4q hf) (jeq hh) (λi j x y hx hy e=>?_) nd
 ·by_cases e:i=b
  ·subst e;rw[qNq];exact hk
  ·rw[ysq e];omega
 ·by_cases e:i=b
  ·subst e;rw[qNq];exact hmk
  ·rw[ysq e];exact h1
 ·have h1:=hkey i x hx;have h2:=hkey j y hy;by_cases e1:i=b<;>by_cases e2:j=b
  ·rw[e1,e2]
  ·subst e1;rw[qNq,ysq e2] at e;omega
  ·subst e2;rw[qNq,ysq e1] at e;omega
  ·rwa[ysq e1,ysq e2] at e
noncomputable def bkH(c:Nat)(s:Shd)(t:Tree)(o:Option (List W)):HpW:=[(6,358,ptO c o),(2,131,.agg 1 [.nils]),(1,28,tW t),(0,131,shdW s)]++oH c 133 33 o
theorem Zkq{c:Nat}{s:Shd}{t:Tree}{o:Option (List W)}:∀p∈bkH c s t o,p.1=6\/p.1=c\/p.1<=2:=λp hp=>by
 unfold bkH at hp;rcases List.mem_append.1 hp with hp|hp
 ·simp only[List.mem_cons,List.not_mem_nil,or_false] at hp;rcases hp with rfl|rfl|rfl|rfl<;>simp
 ·exact .inr (.inl (xfq p hp))
theorem Yuq{c:Nat}{s:Shd}{t:Tree}{o:Option (List W)}(h1:c≠6)(h2:2<c):((bkH c s t o).map (·.1)).Nodup:=by
 cases o<;>simp[bkH,oH]<;>omega
theorem u7q{c:Nat}{s:Shd}{t:Tree}{o:Option (List W)}(h1:c≠6)(h2:2<c):oIn (bkH c s t o) c 133 33 o:=vpq (qTq (l:=[6,2,1,0]) rfl Xo)
theorem bkH_at{c:Nat}{s:Shd}{t:Tree}{o:Option (List W)}(h1:c≠6)(h2:2<c):hget (bkH c s t o) c=hget (oH c 133 33 o) c:=by
 unfold bkH;rw[kgq,yLq (qTq (l:=[6,2,1,0]) rfl Xo)];rfl
theorem keep_ext{hp:HpW}{a b u e:Nat}{ty:TypeId}{X z:TypeId×W}{o:Option (List W)}(ha:hget hp a=some z)(hb:hget hp b=hget (oH b ty e o) b)(hu:hget hp u=none)(hab:a≠b):∀k y,hget hp k=some y->hget (((u,X)::(a,z)::oH b ty e o)++delA [a,b] hp) k=some y:=λk y h=>by
 show hget ((u,X)::(a,z)::(oH b ty e o++delA [a,b] hp)) k=some y;rw[zaq];split
 ·rename_i q;subst q;rw[hu] at h;cases h
 ·rw[zaq];split
  ·rename_i q;subst q;rw[ha] at h;exact h
  ·rename_i q1 q2;rw[kgq];by_cases q3:k=b
   ·subst q3;rw[hb] at h;rw[h];rfl
   ·rw[yLq (λp hp e=>q3 (by rw[xfq p hp] at e;exact e.symm)),delA_ne (λj hj=>by simp only[List.mem_cons,List.not_mem_nil,or_false] at hj;rcases hj with rfl|rfl;exact q2;exact λe=>q3 e.symm),h];rfl
theorem keep_set{c:Nat}{s:Shd}{t:Tree}{o:Option (List W)}{hp:HpW}(h1:c≠6)(h2:2<c)(g2:hget hp 2=some (131,.agg 1 [.nils]))(g1:hget hp 1=some (28,tW t))(g0:hget hp 0=some (131,shdW s)):∀k y,hget (bkH c s t o) k=some y->hget (((6,358,ptO c o)::oH c 133 33 o)++delA [6,7] hp) k=some y:=λk y h=>by
 have tail:∀j,j<3->hget (((6,358,ptO c o)::oH c 133 33 o)++delA [6,7] hp) j=hget hp j:=λj hj=>by
  show hget ((6,_)::(oH c 133 33 o++delA [6,7] hp)) j=_;rw[zaq,if_neg Xd,kgq,yLq (λp hp e=>by rw[xfq p hp] at e;omega),delA_ne (λi hi=>by simp only[List.mem_cons,List.not_mem_nil,or_false] at hi;omega)];cases hget hp j<;>rfl
 have h:hget ((6,358,ptO c o)::(2,131,.agg 1 [.nils])::(1,28,tW t)::(0,131,shdW s)::oH c 133 33 o) k=some y:=h;rw[zaq] at h;split at h
 ·rename_i q;subst q;exact h
 ·rename_i q6;rw[zaq] at h;split at h
  ·rename_i q;subst q;rw[tail _ Xg,g2];exact h
  ·rw[zaq] at h;split at h
   ·rename_i q;subst q;rw[tail _ Xg,g1];exact h
   ·rw[zaq] at h;split at h
    ·rename_i q;subst q;rw[tail _ Xg,g0];exact h
    ·show hget ((6,_)::(oH c 133 33 o++delA [6,7] hp)) k=_;rw[zaq,if_neg q6];exact vvq h
theorem put_none{l:Ln}{x:Tx}(hx:∀y∈l.txs,y.ok)(ok:x.ok)(hm:LnM l)(ho:OwnX x l.who)(he:putL l x=none):PS cfg glK 206 [lnW l,txW x] (.tup [ln0,.nils,.int .i64 190]):=by
 unfold putL at he;split at he
 ·rename_i y hy;split at he
  ·rename_i hn;split at he
   ·rename_i hf;exact put_fee l x hx ok hm ho hy hn hf
   ·cases he
  ·cases he
 ·cases he
theorem put_some{l l':Ln}{x:Tx}(hx:∀y∈l.txs,y.ok)(ok:x.ok)(hm:LnM l)(ho:OwnX x l.who)(hl:l.txs.length<256)(he:putL l x=some l'):∃old,purW old=true/\PS cfg glK 206 [lnW l,txW x] (.tup [lnW l',old,.int .i64 0]):=by
 unfold putL at he;split at he
 ·rename_i y hy;split at he
  ·rename_i hn;split at he
   ·cases he
   ·rename_i hf;cases he;exact⟨_,by simp[purW,purL],put_set l x hx ok hm ho hy hn hf⟩
  ·rename_i hn;cases he;exact⟨_,rfl,put_ins l x hx ok hm ho hl (λz hz=>by obtain rfl:=Option.some.inj (hy.symm.trans hz);exact hn)⟩
 ·rename_i hy;cases he;exact⟨_,rfl,put_ins l x hx ok hm ho hl (λz hz=>by rw[hy] at hz;cases hz)⟩
theorem bk_nd3{s:Shd}{t:Tree}{o:Option (List W)}:¬10∈9::8::(bkH 7 s t o).map (·.1)/\¬9∈8::(bkH 7 s t o).map (·.1)/\¬8∈(bkH 7 s t o).map (·.1)/\((bkH 7 s t o).map (·.1)).Nodup:=by
 have k:∀n,7<n->¬n∈(bkH 7 s t o).map (·.1):=λn hn h=>by
  obtain⟨p,hp,rfl⟩:=List.mem_map.1 h;have:=Zkq p hp;omega
 refine⟨λh=>?_,λh=>?_,k 8 Xg,Yuq Xg Xg⟩
 ·rcases List.mem_cons.1 h with h|h
  ·cases h
  ·rcases List.mem_cons.1 h with h|h
   ·cases h
   ·exact k 10 Xg h
 ·rcases List.mem_cons.1 h with h|h
  ·cases h
  ·exact k 9 Xg h
theorem ptO_pw{b:Nat}{o:Option (List W)}:yDq 50 (.agg 1 [.nils]) 0 (ptO b o)=some (ptO b o):=by cases o<;>rfl
theorem ptO_w{b:Nat}{o:Option (List W)}:zWq 50 (ptO b o) 0 1 true=some (ptO b o):=by cases o<;>rfl
theorem shbk_s(t:Tree)(nt:Nat)(t0:T)(hA:IsA t nt t0){N i m:Nat}{s:Shd}(hs:GoodS N i m s)(xs:List Tx)(f:Bool)(hxs:∀x∈xs,BkX N i x)(hm:m+xs.length<=200):PS cfg glK 174 [shdW s,tW t,.fz (xs.map txW) 99 f] (.tup [shdW (bkL t0 s xs),.int .i64 0]):=by
 have e:(xs.map txW).length=xs.length:=List.length_map _;have hpx:=yOq xs;have hok:∀l∈s,OkL l:=λl hl=>⟨λx hx=>((hs.line l hl).1.own x hx).2,by have:=(hs.line l hl).1.len;omega⟩
 have hsl:=hs.len;have htl:=hA.len;have hc:=cntx_s xs f 215 Uns (λx h=>sbk1_s x (hxs x h).1) rfl Xd;have hq:purW (.fz (xs.map txW) 99 f)=true:=hpx;have hno:¬∃x∈xs,Uns x:=λ⟨x,hx,hu⟩=>hu (hxs x hx).2.1
 refine gIv 13 rfl (λR k0=>gC 0 rfl (zvq (w':=.int .i64 0) (uyq s hok Xd) (by rw[if_pos (hs.sh Xd)])) (gF 0 rfl (congrArg not (eqI_iff.2 (rfl))) (gC 2 rfl (zvq (w':=.int .i64 0) (kjq t Xd) (by rw[if_pos ⟨nt,t0,hA⟩])) (gF 0 rfl (congrArg not (eqI_iff.2 (rfl))) (gC 8 rfl (zvq (w':=.bool false) hc (by rw[decide_eq_false hno])) (zdq 10 rfl ?_))))))
 (refine zUq rfl (qfq (y3q rfl rfl rfl rfl rfl Yb (shtwo_s s Xd (λl hl=>by have:=(hs.line l hl).1.len;omega)) ?_));rintro w hp1 nw1 ⟨⟨o,ho,rfl,rfl⟩,rfl⟩;have hpb:purL (o.getD [])=true:=(by rw[ho];exact qEq s);rw[jUq,show renH (numC [] 3) ([(1,131,ptO 2 o),(0,131,shdW s)]++oH 2 133 33 o)=[(4,131,ptO 5 o),(3,131,shdW s)]++oH 5 133 33 o from(by rw[ZEq,YWq _ _ _ _ hpb,renH,renH,jUq,zwq (yUq s)];rfl),show numC [] 3 2=5 from rfl];refine⟨_,uQq (n:=3) (ZTq (l:=[2,1,0]) rfl Xg) Xm (λp hp=>by rw[xfq p hp];simp),vqq (qTq (l:=[2,1,0]) rfl Xg) (show [2,1,0].Nodup by decide),?_⟩)
 refine yBq rfl ((show _=some (ptO 5 o) from by cases o<;>rfl)) ?_;refine zsq 8 rfl ?_
 (refine vKq (λ_=>ent_to (b:=7) (k:=5) (fr2:=[(4,.ptr 1 0),(6,.ptr 2 0),(7,.int .i64 0),(8,.ptr 6 0),(35,.fz (xs.map txW) 99 f)]) (hp2:=bkH 7 s t o) Xg Xg Xg Xg (λp hp=>by have:=Zkq p hp;omega) ⟨⟨rfl,rfl⟩,⟨rfl,rfl⟩,⟨rfl,rfl⟩,⟨rfl,rfl⟩,⟨by rw[zwq hq];rfl,zeq hq⟩,trivial⟩ ⟨⟨by decide,by rw[jUq];rfl,jsq Xg⟩,⟨by decide,rfl,rfl⟩,⟨by decide,by rw[zwq (qVq t)];rfl,zeq (qVq t)⟩,⟨by decide,by rw[zwq (yUq s)];rfl,zeq (yUq s)⟩,QHq Xg hpb (zpq Xg (vpq (qTq (l:=[2,1,0]) rfl Xg)))⟩ (Yuq Xg Xg)) ?_;refine uHq (w':=.int .i64 ((xs.length:Nat):Int)) rfl rfl Xu ?_)
 refine zsq 4 rfl ?_;refine jKq (α:=Nat×Option (List W)) (λp=>p.1<=xs.length/\p.2.getD []=(bkL t0 s (xs.take p.1)).map lnW) (λp=>[(37,.int .i64 (p.1:Int))]) [(4,_),(6,_),(7,_),(8,_),(35,_),(36,_)] (λp=>bkH 7 s t p.2) (λp=>xs.length-p.1) ((0,o)) ⟨rfl,rfl,rfl,rfl,rfl,rfl,trivial⟩ (⟨Nat.zero_le _,ho⟩) ⟨rfl,trivial⟩ (rfl) (λp hI=>?_);obtain⟨j,o'⟩:=p;obtain⟨g1,g2⟩:=hI;simp only at g1 g2;have hpo:purL (o'.getD [])=true:=g2▸qEq _
 refine ycq 6 rfl ?_;refine gS 0 rfl (λh1=>?_) (λh1=>?_)
 ·have hj:j<xs.length:=by omega
  obtain⟨x,hxj⟩:∃x,xs[j]? =some x:=⟨_,List.getElem?_eq_getElem hj⟩
  obtain⟨x1,x2,x3⟩:=hxs x (List.mem_of_getElem? hxj);have hgood:=Jwq (t0:=t0) hs (λy hy=>hxs y (List.mem_of_mem_take (i:=j) hy));have hsucc:=bkL_succ t0 s hxj;generalize hS:bkL t0 s (xs.take j)=S at hgood hsucc g2;skip
  by_cases hn:x.nonce<(kDq t0 (keyD x.pub)).nonce
  ·refine gP 6 rfl (zGq (i:=j) rfl rfl rfl rfl rfl rfl rfl (zlq txW hxj)) (gC 8 rfl (uSq x) (gC 9 rfl (aget_s t nt t0 hA (keyD x.pub)) (gT 14 rfl (ltI_iff.2 Xd) (gA 8 rfl (j+1) (zdq 2 rfl ?_)))));skip
   refine yYq (j+1,o') ⟨hj,by rw[hsucc,g2];unfold bkS;rw[if_pos hn]⟩ Xz ?_;simp only;exact qdq Xg Xg ⟨rfl,rfl,rfl,rfl,rfl,rfl,rfl,trivial⟩ (kNq ⟨rfl,rfl,rfl,rfl,rfl,zeq hq,rfl,trivial⟩) (yKq ⟨⟨by decide,rfl,jsq Xg⟩,⟨by decide,rfl,rfl⟩,⟨by decide,rfl,zeq (qVq t)⟩,⟨by decide,rfl,zeq (yUq s)⟩,subH_o Xg hpo (zpq Xg (zpq Xg (zpq Xg (u7q Xg Xg))))⟩) (Yuq Xg Xg)
  ·have hw:=uMq S (keyD x.pub);have hgl:=xFq hgood x3;have hll:=hgl.len;have htk:(xs.take j).length<=xs.length:=by rw[List.length_take];omega
   have hSl:=hgood.len;have hlm:=hgl.lnm Xd;have hox:OwnX x (jtq S (keyD x.pub)).who:=⟨x2,hw.symm⟩;have hlx:∀y∈(jtq S (keyD x.pub)).txs,y.ok:=λy hy=>(hgl.own y hy).2
   have hpa:purL [.fel (shdW S),dW (keyD x.pub)]=true:=by simp[purL,purW]
   skip
   cases hpl:putL (jtq S (keyD x.pub)) x with
   |none=>
    have hput:=put_none hlx x1 hlm hox hpl;refine zQq 6 rfl (gP 0 rfl (zGq (i:=j) rfl rfl rfl rfl rfl rfl rfl (zlq txW hxj)) (gC 8 rfl (uSq x) (gC 9 rfl (aget_s t nt t0 hA (keyD x.pub)) (gF 14 rfl (ltI_not.2 Xd) (zdq 9 rfl ?_)))))
    (refine qrq rfl (step_and (YQq rfl rfl rfl rfl (.cons (k8q rfl g2 (zpq Xg (zpq Xg (zpq Xg (u7q Xg Xg))))) (.cons (.pur (qWq _)) .nil)) (line_s S (keyD x.pub) Xd) hpa) (qfq (qvq (ext:=[6,7]) (ws:=[.ptr 0 0,dW (keyD x.pub)]) (hp0:=ptH 1 o') rfl rfl rfl rfl (by rw[yXq,yXq,zwq (qWq _)];rfl) (line_o S (keyD x.pub) o' g2 Xd) Xg Xx (by cases o'<;>simp[ptH,oH]) (xMq ⟨⟨by decide,jsq Xg,6,rfl,by rw[jUq];rfl⟩,hd_o rfl hpo (zpq Xg (zpq Xg (zpq Xg (u7q Xg Xg))))⟩) (by show(true&&(refB 2 (dW _)&&true))=true;rw[zeq (qWq _)];rfl) ?_)));rintro w hp1 nw1 ⟨rfl,rfl,rfl⟩;rw[zwq (qqq _),show renH (numC [6,7] 11) ((3,133,lnW (jtq S (keyD x.pub)))::ptH 1 o')=(12,133,lnW (jtq S (keyD x.pub)))::(6,358,ptO 7 o')::oH 7 133 33 o' from(by rw[renH,ptH,renH,YWq _ _ _ _ hpo,jUq,zwq (qqq _)];rfl)];refine⟨_,keep_ext (a:=6) (b:=7) (hp:=(10,49,aW (kDq t0 (keyD x.pub)))::(9,23,dW (keyD x.pub))::(8,72,txW x)::bkH 7 s t o') rfl (by rw[zaq,if_neg Xg,zaq,if_neg Xg,zaq,if_neg Xg];exact bkH_at Xg Xg) Yz Xg,Yq,by kernel_rfl,?_⟩)
    refine fl_mz rfl rfl (fl_pq (hput) (qHq 18 rfl (gF 0 rfl (eqI_not.2 Xg) (gF 6 rfl (eqI_not.2 Xg) (gA 9 rfl (j+1) (zdq 2 rfl ?_))))));skip
    refine yYq (j+1,o') ⟨hj,by rw[hsucc,g2];unfold bkS putK;rw[if_neg hn,hpl]⟩ Xz ?_;simp only;exact qdq Xg Xg ⟨rfl,rfl,rfl,rfl,rfl,rfl,rfl,trivial⟩ (kNq ⟨rfl,rfl,rfl,rfl,rfl,zeq hq,rfl,trivial⟩) (yKq ⟨⟨by decide,rfl,jsq Xg⟩,⟨by decide,rfl,rfl⟩,⟨by decide,rfl,zeq (qVq t)⟩,⟨by decide,rfl,zeq (yUq s)⟩,subH_o Xg hpo (zpq Xg (zpq Xg (zpq Xg (zpq Xg (u7q Xg Xg)))))⟩) (Yuq Xg Xg)
   |some l'=>
    obtain⟨old,hold,hput⟩:=put_some hlx x1 hlm hox Xd hpl;obtain⟨w1,w2,w3⟩:=QUq hgl hox x1 hpl;have hwl:=w1.len;have hpt:purW (.tup [lnW l',old,.int .i64 0])=true:=by simp[purW,purL,hold]
    refine zQq 6 rfl (gP 0 rfl (zGq (i:=j) rfl rfl rfl rfl rfl rfl rfl (zlq txW hxj)) (gC 8 rfl (uSq x) (gC 9 rfl (aget_s t nt t0 hA (keyD x.pub)) (gF 14 rfl (ltI_not.2 Xd) (zdq 9 rfl ?_)))))
    (refine qrq rfl (step_and (YQq rfl rfl rfl rfl (.cons (k8q rfl g2 (zpq Xg (zpq Xg (zpq Xg (u7q Xg Xg))))) (.cons (.pur (qWq _)) .nil)) (line_s S (keyD x.pub) Xd) hpa) (qfq (qvq (ext:=[6,7]) (ws:=[.ptr 0 0,dW (keyD x.pub)]) (hp0:=ptH 1 o') rfl rfl rfl rfl (by rw[yXq,yXq,zwq (qWq _)];rfl) (line_o S (keyD x.pub) o' g2 Xd) Xg Xx (by cases o'<;>simp[ptH,oH]) (xMq ⟨⟨by decide,jsq Xg,6,rfl,by rw[jUq];rfl⟩,hd_o rfl hpo (zpq Xg (zpq Xg (zpq Xg (u7q Xg Xg))))⟩) (by show(true&&(refB 2 (dW _)&&true))=true;rw[zeq (qWq _)];rfl) ?_)));rintro w hp1 nw1 ⟨rfl,rfl,rfl⟩;rw[zwq (qqq _),show renH (numC [6,7] 11) ((3,133,lnW (jtq S (keyD x.pub)))::ptH 1 o')=(12,133,lnW (jtq S (keyD x.pub)))::(6,358,ptO 7 o')::oH 7 133 33 o' from(by rw[renH,ptH,renH,YWq _ _ _ _ hpo,jUq,zwq (qqq _)];rfl)];refine⟨_,keep_ext (a:=6) (b:=7) (hp:=(10,49,aW (kDq t0 (keyD x.pub)))::(9,23,dW (keyD x.pub))::(8,72,txW x)::bkH 7 s t o') rfl (by rw[zaq,if_neg Xg,zaq,if_neg Xg,zaq,if_neg Xg];exact bkH_at Xg Xg) Yz Xg,Yq,by kernel_rfl,?_⟩)
    refine fl_mz rfl rfl (fl_pq (hput) (qHq 18 rfl (gT 0 rfl (eqI_iff.2 (rfl)) (zdq 7 rfl ?_))))
    (refine zUq rfl (qfq (qvq (ext:=[6,7]) (ws:=[.ptr 0 0,lnW l']) (hp0:=ptH 1 o') rfl rfl rfl rfl (by rw[yXq,yXq,zwq (qqq l')];rfl) (pset_s S l' o' g2 w2 Xd Xd) Xg Xx (by cases o'<;>simp[ptH,oH]) (xMq ⟨⟨by decide,jsq Xg,6,rfl,by rw[jUq];rfl⟩,hd_o rfl hpo (zpq Xg (zpq Xg (zpq Xg (zpq Xg (u7q Xg Xg)))))⟩) (by show(true&&(refB 2 (lnW l')&&true))=true;rw[zeq (qqq l')];rfl) ?_));rintro w hp1 nw1 ⟨rfl,⟨c,o2,hc,ho2,rfl⟩,rfl⟩;have hp2:purL (o2.getD [])=true:=(ho2▸qEq _);obtain⟨cN,hcN,hcE⟩:∃cN,(cN=7\/cN=14)/\numC [6,7] 14 c=cN:=(by rcases hc with rfl|rfl;exact⟨7,.inl rfl,rfl⟩;exact⟨14,.inr rfl,rfl⟩);rw[show renH (numC [6,7] (7+1+1+1+1+(4-[6,7].length)+1)) (ptH c o2)=(6,358,ptO cN o2)::oH cN 133 33 o2 from(by show renH (numC [6,7] 14) (ptH c o2)=_;rw[ptH,renH,jUq,YWq _ _ _ _ hp2,hcE];rfl)];refine⟨bkH cN s t o2,keep_set Xd Xd rfl rfl rfl,Yuq Xd Xd,?_⟩)
    refine zsq 5 rfl (gA 0 rfl (j+1) (zdq 2 rfl ?_));skip
    refine yYq (j+1,o2) ⟨hj,by rw[hsucc,ho2];unfold bkS putK;rw[if_neg hn,hpl]⟩ Xz ?_;simp only;rcases hcN with rfl|rfl
    ·exact qdq Xg Xg ⟨rfl,rfl,rfl,rfl,rfl,rfl,rfl,trivial⟩ (kNq ⟨rfl,rfl,rfl,rfl,rfl,zeq hq,rfl,trivial⟩) (yKq ⟨⟨by decide,rfl,jsq Xg⟩,⟨by decide,rfl,rfl⟩,⟨by decide,rfl,zeq (qVq t)⟩,⟨by decide,rfl,zeq (yUq s)⟩,subH_o Xg hp2 (u7q Xg Xg)⟩) (Yuq Xg Xg)
    ·exact yVq (b:=7) (k:=14) Xg Xg Xg ⟨⟨rfl,rfl⟩,⟨rfl,rfl⟩,⟨rfl,rfl⟩,⟨rfl,rfl⟩,⟨rfl,rfl⟩,⟨by rw[zwq hq];rfl,zeq hq⟩,⟨rfl,rfl⟩,trivial⟩ ⟨⟨by decide,by rw[jUq];rfl,jsq Xg⟩,⟨by decide,rfl,rfl⟩,⟨by decide,by rw[zwq (qVq t)];rfl,zeq (qVq t)⟩,⟨by decide,by rw[zwq (yUq s)];rfl,zeq (yUq s)⟩,QHq Xg hp2 (u7q Xg Xg)⟩ (Yuq Xg Xg)
 ·have hjj:j=xs.length:=by omega
  subst hjj;refine zdq 2 rfl (qQq Xi (z0q 7 rfl (gM 0 rfl (yEq rfl rfl rfl ptO_w) (gM 0 rfl (jAq rfl rfl rfl rfl rfl ptO_pw rfl) (zdq 4 rfl ?_)))));rw[List.take_length] at g2;refine jkq Qm rfl (.tup (.cons (.agg (.cons ?_ .nil)) (.cons (.pur (w:=.int .i64 0) rfl) .nil)));have:=view_o (e:=33) Xg hpo (show oIn ([(6,358,ptO 7 o'),(2,131,ptO 7 o'),(1,28,tW t),(0,131,shdW s)]++oH 7 133 33 o') 7 133 33 o' from vpq (qTq (l:=[6,2,1,0]) rfl Xg));rw[g2] at this;exact this
theorem ent_ren{C:Cfg}{G:Nat->Option W}{m k0 nw nw2:Nat}{fr fr2:FrW}{hp hp2:HpW}{R:Res}(b k:Nat)(hm:m<=b)(hb:b<nw2)(hn:nw2<=nw)(hk:nw2<=k)(hk2:k<nw)(hf:subR (tau1 b k) nw2 fr fr2)(hh:vYq (tau1 b k) nw2 hp hp2)(nd:(hp2.map (·.1)).Nodup):Ent C G m k0 fr hp nw R fr2 hp2 nw2 R:=by
 refine ent_num (tau1 b k) Xd (λi hi=>ysq Xd) (λi hi=>?_) (λi h1 h2=>?_) (v4q hf) (jeq hh) (λi j x y hx hy e=>?_) nd
 ·by_cases e:i=b
  ·subst e;rw[qNq];exact hk2
  ·rw[ysq e];omega
 ·by_cases e:i=b
  ·subst e;rw[qNq];omega
  ·rw[ysq e];exact h1
 ·have h1:=(jeq hh i x hx).1;have h2:=(jeq hh j y hy).1;by_cases e1:i=b<;>by_cases e2:j=b
  ·rw[e1,e2]
  ·subst e1;rw[qNq,ysq e2] at e;omega
  ·subst e2;rw[qNq,ysq e1] at e;omega
  ·rwa[ysq e1,ysq e2] at e
section
variable {G:Nat->Option W}
theorem pltwo_s(l:List Shd)(hl:l.length<=1000000)(hx:∀s∈l,s.length<=1000000000/\∀y∈s,y.txs.length<=1000000000):PL cfg G 84 [plW l] 131 1 (l.map shdW):=by
 have e:(l.map shdW).length=l.length:=List.length_map _;intro R;refine gIs 14 rfl (λk0=>?_);refine gZ 0 rfl e (zdq 4 rfl ?_);refine Zjq (α:=Nat) (λi=>i<=l.length) 3 (λi=>(l.take i).map shdW) 131 1 (λi=>[(8,.int .i64 (i:Int))]) [(2,_),(6,_),(7,_)] _ (λi=>l.length-i) (0) ⟨rfl,rfl,rfl,trivial⟩ (Nat.zero_le _) ⟨rfl,trivial⟩ rfl rfl rfl (λi hI=>?_);refine ycq 6 rfl ?_;refine gS 0 rfl (λh1=>?_) (λh1=>?_)
 ·have hi:i<l.length:=by omega
  obtain⟨x,hxi⟩:∃x,l[i]? =some x:=⟨_,List.getElem?_eq_getElem hi⟩
  obtain⟨b1,b2⟩:=hx x (List.mem_of_getElem? hxi);have hlt:((l.take i).map shdW).length<=1000000:=by rw[List.length_map,List.length_take];omega
  have es:(l.take (i+1)).map shdW=(l.take i).map shdW++[shdW x]:=by rw[List.take_add_one,hxi,List.map_append];rfl
  have ep:=jEq (l.take i);have ep2:purL ((l.take i).map shdW++[shdW x])=true:=by rw[<-es];exact jEq _
  exact gP 6 rfl (zGq (i:=i) rfl rfl rfl rfl rfl rfl rfl (zlq shdW hxi)) (gC 8 rfl (shtw_s x b1 b2) (gM 1 rfl (yZq rfl rfl (Qrq [_,_] (k:=ti131) (news:=[shdW x]) rfl rfl rfl rfl rfl (uuq rfl rfl rfl rfl) Xm (by show(((l.take i).map shdW).length+1)*24<=_;omega) (by show((l.take i).map shdW).length+1<=_;omega) rfl Xm)) (gA 5 rfl (i+1) (zdq 2 rfl (xCq 3 (i+1) (hi) Xd (Nat.zero_le _) (es) Xv Xd Ym rfl Ya ⟨rfl,trivial⟩ ⟨rfl,rfl,rfl,trivial⟩ Xh Xh rfl Xn Xj Xw)))))
 ·have hi:i=l.length:=by omega
  subst hi;rw[List.take_length];exact zdq 2 rfl (qQq Xi (z0q 9 rfl (fin Qm (qcq (fr2:=[(2,gW 0 1 (l.map shdW))]) ⟨rfl,trivial⟩ rfl rfl) rfl ⟨rfl,rfl,rfl,rfl⟩)))
end
theorem plof_s(x:Tx)(i n:Nat)(hn:1<=n/\n<=8):PS cfg glK 172 [txW x,.int .i64 (i:Int),.int .i64 (n:Int)] (.bool (decide (atE (keyD x.pub) n=i))):=by
 obtain⟨m,rfl⟩:∃m,n=m+1:=⟨n-1,by omega⟩
 by_cases h:atE (keyD x.pub) (m+1)=i
 ·skip
  exact gI 9 rfl (λR k0=>gC 0 rfl (uSq x) (gC 1 rfl (plat_s (keyD x.pub) m Xd) (gT 11 rfl (eqI_iff.2 Xd) (gQ 4 rfl (u1q h)))))
 ·skip
  exact gI 9 rfl (λR k0=>gC 0 rfl (uSq x) (gC 1 rfl (plat_s (keyD x.pub) m Xd) (gF 11 rfl (eqI_not.2 Xd) (gQ 4 rfl (kZq h)))))
theorem plask_s(ps:List Shd)(hx:∀s∈ps,s.length<=1000000000/\∀l∈s,OkL l)(hp:PlM ps)(t:Tree)(nt:Nat)(t0:T)(hA:IsA t nt t0):PS cfg glK 151 [plW ps,tW t] (.int .i64 0):=by
 have hl:=hA.len;have hpp:=xeq ps;exact gI 9 rfl (λR k0=>gC 0 rfl (zvq (w':=.int .i64 0) (plchk_s ps hx) (by rw[if_pos hp])) (gC 1 rfl (zvq (w':=.int .i64 0) (kjq t Xd) (by rw[if_pos ⟨nt,t0,hA⟩])) (gQa 5 rfl)))
theorem plturn_s(ps:List Shd)(i:Nat)(s s':Shd)(hi:ps[i]? =some s)(F:FuncId)(cs:List W)(hcs:purL cs=true)(rest:W)(hr:purW rest=true)(hF:PS cfg glK F (shdW s::cs) (.tup [shdW s',rest,.int .i64 0]))(hF0:cfg.ext F=none)(hl:ps.length<=1000000)(hx:∀s∈ps,s.length<=1000000000/\∀y∈s,y.txs.length<=1000000000):PS cfg glK 152 [plW ps,.int .i64 (i:Int),.fn F [] cs] (.tup [plW (ps.set i s'),rest,.int .i64 0]):=by
 have e:(ps.map shdW).length=ps.length:=List.length_map _;have hlt:=y7q hi;have hpp:=xeq ps;have hps:purL (ps.map shdW)=true:=jEq ps;have hpf:purW (.fn F [] cs)=true:=by show(true&&purL cs)=true;rw[hcs];rfl
 have hpt:purW (.tup [shdW s',rest,.int .i64 0])=true:=by simp[purW,purL,hr]
 have hpc:purL (shdW s::cs)=true:=by simp[purL,hcs]
 have hne:ps.map shdW≠[]:=λq=>by rw[q] at e;simp only[List.length_nil] at e;omega
 have e2:(ps.set i s').map shdW=(ps.map shdW).set i (shdW s'):=List.map_set;have hps2:purL ((ps.map shdW).set i (shdW s'))=true:=e2▸jEq _
 refine gIv 16 rfl (λR k0=>gF 0 rfl (ltI_not.2 Xd) (gZ 3 rfl e (gF 0 rfl (congrArg not (ltI_iff.2 Xd)) (gP 11 rfl (zGq (i:=i) rfl rfl rfl rfl rfl rfl rfl (zlq shdW hi)) (zdq 1 rfl (jGq rfl rfl rfl hF0 rfl rfl hF (zsq 14 rfl (gF 0 rfl (congrArg not (eqI_iff.2 (rfl))) (zdq 8 rfl ?_)))))))))
 (refine zUq rfl (step_pl rfl rfl rfl rfl rfl Yb (pltwo_s ps hl hx) hps ?_);rw[ZZq hne,Z0q hne])
 refine zsq 8 rfl (gP 0 rfl (jYq (i:=i) rfl rfl rfl rfl rfl rfl rfl (by rw[e];exact hlt)) ?_)
 (refine zUq rfl (utq (n:=(ps.map shdW).length) (e:=1) rfl rfl rfl rfl rfl rfl rfl (zlq shdW hi) rfl rfl rfl rfl Xg ?_))
 refine zsq 12 rfl ?_;refine jkq Qm rfl (.tup (.cons ?_ (.cons (.pur hr) (.cons (.pur (w:=.int .i64 0) rfl) .nil))));show View _ _ (.fz ((ps.set i s').map shdW) 1 false);rw[e2];exact .sl (full:=false) (c:=.arr ((ps.map shdW).length*1) 1 ((ps.map shdW).set i (shdW s'))) rfl hps2 (zAq Xg (by rw[List.length_set]) rfl) Xi
noncomputable def ownX(n i:Nat)(xs:List Tx):List Tx:=xs.filter λx=>decide (atE (keyD x.pub) n=i)
noncomputable def resX(n i:Nat)(xs:List Tx):List Tx:=xs.filter λx=>!decide (atE (keyD x.pub) n=i)
noncomputable def bk2H(s:Shd)(o1 o2:Option (List W)):HpW:=[(1,131,.agg 1 [.nils]),(0,131,shdW s)]++(oH 2 72 99 o1++oH 3 72 99 o2)
theorem bk2_nd{s:Shd}{o1 o2:Option (List W)}:((bk2H s o1 o2).map (·.1)).Nodup:=by
 cases o1<;>cases o2<;>simp[bk2H,oH]
theorem bk2_in1{s:Shd}{o1 o2:Option (List W)}:oIn (bk2H s o1 o2) 2 72 99 o1:=zpq Xg (zpq Xg oin_here)
theorem bk2_in2{s:Shd}{o1 o2:Option (List W)}:oIn (bk2H s o1 o2) 3 72 99 o2:=zpq Xg (zpq Xg (oin_skip Xg kRq))
theorem bk2_sub{τ:Nat->Nat}{n:Nat}{hp:HpW}{s:Shd}{o1 o2:Option (List W)}(hn:3<n)(h1:hget hp (τ 1)=some (131,.agg 1 [.nils]))(h0:hget hp (τ 0)=some (131,shdW s))(l1:purL (o1.getD [])=true)(l2:purL (o2.getD [])=true)(i1:oIn hp (τ 2) 72 99 o1)(i2:oIn hp (τ 3) 72 99 o2):vYq τ n hp (bk2H s o1 o2):=
 ⟨⟨by show 1<n;omega,h1,rfl⟩,⟨by show 0<n;omega,by rw[zwq (yUq s)];exact h0,zeq (yUq s)⟩,(show vYq τ n hp (oH 2 72 99 o1++oH 3 72 99 o2) from Zqq (QHq Xd l1 i1) (QHq Xd l2 i2))⟩
theorem plback1_s(ps:List Shd)(h8:1<=ps.length/\ps.length<=8)(i:Nat){m:Nat}{s:Shd}(hs:GoodS ps.length i m s)(t:Tree)(nt:Nat)(t0:T)(hA:IsA t nt t0)(xs:List Tx)(hxs:∀x∈xs,x.ok/\x.sign=jSq x)(hm:m+xs.length<=200):PS cfg glK 173 [shdW s,.fel (.fz (xs.map txW) 99 false),.fel (.fn 172 [] []),.fel (.int .i64 (i:Int)),.fel (plW ps),.fel (tW t)] (.tup [shdW (bkL t0 s (ownX ps.length i xs)),.fz ((resX ps.length i xs).map txW) 99 false,.int .i64 0]):=by
 have e:(xs.map txW).length=xs.length:=List.length_map _;have ep:(ps.map shdW).length=ps.length:=List.length_map _;have hq:purW (.fz (xs.map txW) 99 false)=true:=yOq xs;have hqp:=xeq ps
 have hback:=shbk_s t nt t0 hA hs (ownX ps.length i xs) false (λx hx=>by
  obtain⟨h1,h2⟩:=List.mem_filter.1 hx;exact⟨(hxs x h1).1,(hxs x h1).2,of_decide_eq_true h2⟩) (by have:=List.length_filter_le (λx:Tx=>decide (atE (keyD x.pub) ps.length=i)) xs;unfold ownX;omega)
 refine gIv 18 rfl (λR k0=>?_)
 (refine vKq (λ_=>(ent_up (fr2:=[(1,.fel (.fz (xs.map txW) 99 false)),(2,.fel (.fn 172 [] [])),(3,.fel (.int .i64 (i:Int))),(4,.fel (plW ps)),(5,.fel (tW t)),(6,.ptr 0 0),(7,.ptr 1 0),(8,.nils),(9,.int .i64 0),(10,.nils),(11,.nils),(15,.fz (xs.map txW) 99 false)]) ⟨rfl,rfl,rfl,rfl,rfl,rfl,rfl,rfl,rfl,rfl,rfl,rfl,trivial⟩).trans (ent_up (fr2:=[(1,.fel (.fz (xs.map txW) 99 false)),(2,.fel (.fn 172 [] [])),(3,.fel (.int .i64 (i:Int))),(4,.fel (plW ps)),(5,.fel (tW t)),(6,.ptr 0 0),(7,.ptr 1 0),(8,.nils),(9,.int .i64 0),(10,.nils),(11,.nils),(15,.fz (xs.map txW) 99 false)]) ⟨rfl,rfl,rfl,rfl,rfl,rfl,rfl,rfl,rfl,rfl,rfl,rfl,trivial⟩)) ?_;refine uHq (w':=.int .i64 ((xs.length:Nat):Int)) rfl rfl Xu ?_)
 refine zsq 4 rfl ?_;refine jKq (α:=Nat×Option (List W)×Option (List W)) (λp=>p.1<=xs.length/\p.2.1.getD []=(ownX ps.length i (xs.take p.1)).map txW/\p.2.2.getD []=(resX ps.length i (xs.take p.1)).map txW) (λp=>[(17,.int .i64 (p.1:Int)),(10,oW 2 99 p.2.1),(11,oW 3 99 p.2.2)]) [(2,_),(3,_),(4,_),(5,_),(6,_),(7,_),(8,_),(9,_),(15,_),(16,_)] (λp=>bk2H s p.2.1 p.2.2) (λp=>xs.length-p.1) ((0,none,none)) ⟨rfl,rfl,rfl,rfl,rfl,rfl,rfl,rfl,rfl,rfl,trivial⟩ (⟨Nat.zero_le _,rfl,rfl⟩) ⟨rfl,rfl,rfl,trivial⟩ (rfl) (λp hI=>?_);obtain⟨j,o1,o2⟩:=p;obtain⟨g1,g2,g3⟩:=hI;simp only at g1 g2 g3;have hp1:purL (o1.getD [])=true:=g2▸yOq _
 have hp2:purL (o2.getD [])=true:=g3▸yOq _
 refine ycq 6 rfl ?_;refine gS 0 rfl (λh1=>?_) (λh1=>?_)
 ·have hj:j<xs.length:=by omega
  obtain⟨x,hxj⟩:∃x,xs[j]? =some x:=⟨_,List.getElem?_eq_getElem hj⟩
  have ht:xs.take (j+1)=xs.take j++[x]:=by rw[List.take_add_one,hxj];rfl
  have hl1:(o1.getD []).length<=200:=by
   rw[g2,List.length_map];have:=List.length_filter_le (λx:Tx=>decide (atE (keyD x.pub) ps.length=i)) (xs.take j);have h2:(xs.take j).length<=xs.length:=by rw[List.length_take];omega
   unfold ownX;omega
  have hl2:(o2.getD []).length<=200:=by
   rw[g3,List.length_map];have:=List.length_filter_le (λx:Tx=>!decide (atE (keyD x.pub) ps.length=i)) (xs.take j);have h2:(xs.take j).length<=xs.length:=by rw[List.length_take];omega
   unfold resX;omega
  skip
  by_cases hat:atE (keyD x.pub) ps.length=i
  ·have e1:(ownX ps.length i (xs.take (j+1))).map txW=(ownX ps.length i (xs.take j)).map txW++[txW x]:=by
    rw[ht,ownX,List.filter_append,List.map_append];simp[hat,ownX]
   have e2:resX ps.length i (xs.take (j+1))=resX ps.length i (xs.take j):=by
    rw[ht,resX,List.filter_append];simp[hat,resX]
   refine gP 6 rfl (zGq (i:=j) rfl rfl rfl rfl rfl rfl rfl (zlq txW hxj)) (gZ 11 rfl ep (gC 0 rfl (zvq (w':=.bool true) (plof_s x i ps.length h8) (by rw[decide_eq_true (hat)])) (zdq 7 rfl ?_)))
   (refine zUq rfl (step_appo (b:=2) (news:=[txW x]) (k:=ti72) (e:=99) rfl rfl rfl rfl rfl rfl rfl rfl (uuq rfl rfl rfl rfl) (by show((o1.getD []).length+1)*120<=_;omega) (by show(o1.getD []).length+1<=_;omega) (zpq Xg (zpq Xg bk2_in1)) Xg ?_);intro c hp3 nw3 q)
   refine zsq 5 rfl (gA 0 rfl (j+1) (zdq 2 rfl ?_));skip
   obtain rfl:c=6:=by
    rcases q.num with ⟨h,_⟩|⟨_,h⟩
    ·cases h
    ·exact h
   have hpl:purL ((oA o1 [txW x]).getD [])=true:=by rw[oA_get,keq,hp1];simp[purL]
   refine yYq (j+1,oA o1 [txW x],o2) ⟨hj,by rw[oA_get,g2,e1],by rw[g3,e2]⟩ Xz ?_;simp only;exact ent_ren 2 6 Xg Xg (by have:=q.lt;omega) Xg q.lt ⟨⟨rfl,rfl⟩,⟨by rw[ren_o];rfl,ref_o Xg⟩,⟨by rw[ren_o];rfl,ref_o Xg⟩,⟨rfl,rfl⟩,⟨rfl,rfl⟩,⟨by rw[zwq (show purW (.fel (plW ps))=true from hqp)];rfl,zeq (show purW (.fel (plW ps))=true from hqp)⟩,⟨by rw[zwq (show purW (.fel (tW t))=true from qVq t)];rfl,zeq (show purW (.fel (tW t))=true from qVq t)⟩,⟨rfl,rfl⟩,⟨rfl,rfl⟩,⟨rfl,rfl⟩,⟨rfl,rfl⟩,⟨by rw[zwq hq];rfl,zeq hq⟩,⟨rfl,rfl⟩,trivial⟩ (bk2_sub Xg (q.old 1 _ Xg Xg rfl) (q.old 0 _ Xg Xg rfl) hpl hp2 q.is (oin_old (b:=3) q Xg Xg (zpq Xg (zpq Xg bk2_in2)))) bk2_nd
  ·have e1:ownX ps.length i (xs.take (j+1))=ownX ps.length i (xs.take j):=by
    rw[ht,ownX,List.filter_append];simp[hat,ownX]
   have e2:(resX ps.length i (xs.take (j+1))).map txW=(resX ps.length i (xs.take j)).map txW++[txW x]:=by
    rw[ht,resX,List.filter_append,List.map_append];simp[hat,resX]
   refine gP 6 rfl (zGq (i:=j) rfl rfl rfl rfl rfl rfl rfl (zlq txW hxj)) (gZ 11 rfl ep (gC 0 rfl (zvq (w':=.bool false) (plof_s x i ps.length h8) (by rw[decide_eq_false (hat)])) (zdq 7 rfl ?_)))
   (refine zUq rfl (step_appo (b:=3) (news:=[txW x]) (k:=ti72) (e:=99) rfl rfl rfl rfl rfl rfl rfl rfl (uuq rfl rfl rfl rfl) (by show((o2.getD []).length+1)*120<=_;omega) (by show(o2.getD []).length+1<=_;omega) (zpq Xg (zpq Xg bk2_in2)) Xg ?_);intro c hp3 nw3 q)
   refine zsq 5 rfl (gA 0 rfl (j+1) (zdq 2 rfl ?_));skip
   obtain rfl:c=6:=by
    rcases q.num with ⟨h,_⟩|⟨_,h⟩
    ·cases h
    ·exact h
   have hpl:purL ((oA o2 [txW x]).getD [])=true:=by rw[oA_get,keq,hp2];simp[purL]
   refine yYq (j+1,o1,oA o2 [txW x]) ⟨hj,by rw[g2,e1],by rw[oA_get,g3,e2]⟩ Xz ?_;simp only;exact ent_ren 3 6 Xg Xg (by have:=q.lt;omega) Xg q.lt ⟨⟨rfl,rfl⟩,⟨by rw[ren_o];rfl,ref_o Xg⟩,⟨by rw[ren_o];rfl,ref_o Xg⟩,⟨rfl,rfl⟩,⟨rfl,rfl⟩,⟨by rw[zwq (show purW (.fel (plW ps))=true from hqp)];rfl,zeq (show purW (.fel (plW ps))=true from hqp)⟩,⟨by rw[zwq (show purW (.fel (tW t))=true from qVq t)];rfl,zeq (show purW (.fel (tW t))=true from qVq t)⟩,⟨rfl,rfl⟩,⟨rfl,rfl⟩,⟨rfl,rfl⟩,⟨rfl,rfl⟩,⟨by rw[zwq hq];rfl,zeq hq⟩,⟨rfl,rfl⟩,trivial⟩ (bk2_sub Xg (q.old 1 _ Xg Xg rfl) (q.old 0 _ Xg Xg rfl) hp1 hpl (oin_old (b:=2) q Xg Xg (zpq Xg (zpq Xg bk2_in1))) q.is) bk2_nd
 ·have hjj:j=xs.length:=by omega
  subst hjj;rw[List.take_length] at g2 g3
  have hv:∀{blk:Nat->Option W},blk 3=none->View blk (oW 3 99 o2) (oW 3 99 o2):=λhb=>by
   cases o2 with
   |none=>exact .pur rfl
   |some L=>exact .slK hb
  have hvh:∀{blk:Nat->Option W} {P:HpW},blk 3=none->oIn P 3 72 99 o2->subVH blk 2 P (oH 3 72 99 o2):=λhb hi=>by
   cases o2 with
   |none=>trivial
   |some L=>exact⟨⟨by decide,_,hi L rfl,.pur hp2⟩,trivial⟩
  refine zdq 2 rfl (qQq Xi (z0q 6 rfl ?_))
  (refine vKq (λ_=>(show Ent cfg glK 0 _ _ _ _ _ [(6,.ptr 0 0),(7,.ptr 1 0),(10,.fz ((ownX ps.length i xs).map txW) 99 false),(11,oW 3 99 o2),(37,shdW s),(38,tW t)] ([(1,131,.agg 1 [.nils]),(0,131,shdW s)]++oH 3 72 99 o2) _ _ from by cases o1 with|none=>exact ent_view _ ⟨⟨_,rfl,.ptrK rfl⟩,⟨_,rfl,.ptrK rfl⟩,⟨_,rfl,by rw[<-g2];exact .nilfz⟩,⟨_,rfl,hv rfl⟩,⟨_,rfl,.pur (yUq s)⟩,⟨_,rfl,.pur (qVq t)⟩,trivial⟩|some L=>exact ent_fr1 2 _ _ rfl hp1 Xg ⟨⟨_,rfl,.ptrK rfl⟩,⟨_,rfl,.ptrK rfl⟩,⟨_,rfl,by rw[<-g2];exact .sl (full:=false) (c:=.arr (L.length*99) 99 L) rfl hp1 (zAq Xg rfl rfl) Xi⟩,⟨_,rfl,hv rfl⟩,⟨_,rfl,.pur (yUq s)⟩,⟨_,rfl,.pur (qVq t)⟩,trivial⟩ ⟨⟨by decide,_,rfl,.pur rfl⟩,⟨by decide,_,rfl,.pur (yUq s)⟩,hvh rfl bk2_in2⟩ (by cases o2<;>simp[oH]))) ?_;refine yBq rfl rfl ?_)
  refine op_pq (hback) (zsq 18 rfl ?_);refine jkq Qm rfl (.tup (.cons (.pur (yUq _)) (.cons ?_ (.cons (.pur (w:=.int .i64 0) rfl) .nil))));have:=view_o (e:=99) Xg hp2 (show oIn ([(1,131,shdW (bkL t0 s (ownX ps.length i xs))),(0,131,shdW (bkL t0 s (ownX ps.length i xs)))]++oH 3 72 99 o2) 3 72 99 o2 from vpq (qTq (l:=[1,0]) rfl Xg));rw[g3] at this;exact this
end
section
attribute [local irreducible] CoW OpW FlW Step Spec
variable {G:Nat->Option W}
noncomputable def rlW(h:Int):W:=.agg 35 [.int .u8 3,.arr 32 1 (List.replicate 32 (.int .u8 0)),.int .u64 0,.int .i64 h]
noncomputable def mvR(h:Int):W:=.agg 38 [.int .u8 2,.nils,rlW h,.int .i64 0]
noncomputable def mvB(i:Int):W:=.agg 38 [.int .u8 3,.nils,.agg 35 [.int .u8 0,.arr 32 1 (List.replicate 32 (.int .u8 0)),.int .u64 0,.int .i64 0],.int .i64 i]
set_option maxRecDepth 100000 in
theorem askB_s(a:Au)(i:Nat)(hi:i<a.pool.length):PS cfg G 33 [amW a,mvB (i:Int)] (.bool true):=by
 have e:(a.pool.map shdW).length=a.pool.length:=List.length_map _;exact gI 11 rfl (λR k0=>gT 0 rfl (congrArg not (ltI_not.2 Xd)) (gZ 5 rfl e (gT 0 rfl (ltI_iff.2 Xd) (gF 14 rfl (eqI_not.2 Xg) (gT 7 rfl (eqI_iff.2 (rfl)) (gQa 16 rfl))))))
end
section
attribute [local irreducible] CoW OpW FlW Step Spec
noncomputable def rpE(e:Int):W:=.agg 240 [.int .u8 0,.int .i64 e,.int .i64 0,zd32,.agg 2 [.int .u64 0,.int .u64 0],.agg 34 [.int .u8 0,zd32,.int .i64 0],.agg 67 [zd32,.int .u8 0,zd32,.nils,.nils],.int .i64 0,itZw]
theorem rpE_pur(e:Int):purW (rpE e)=true:=by
 have h:purW (rpE 0)=true:=by kernel_rfl
 exact h
@[simp] theorem mvR_pur(h:Int):purW (mvR h)=true:=by
 have q:purW (mvR 0)=true:=by kernel_rfl
 exact q
noncomputable def bkP(t0:T)(ps:List Shd)(i:Nat)(s:Shd)(xs:List Tx):List Shd:=ps.set i (bkL t0 s (ownX ps.length i xs))
theorem plback_s(ps:List Shd)(hok:∀s∈ps,s.length<=1000000000/\∀l∈s,OkL l)(hsm:∀s∈ps,s.length<=1000000000/\∀y∈s,y.txs.length<=1000000000)(hp:PlM ps)(i:Nat){m:Nat}{s:Shd}(hi:ps[i]? =some s)(hs:GoodS ps.length i m s)(t:Tree)(nt:Nat)(t0:T)(hA:IsA t nt t0)(xs:List Tx)(hxs:∀x∈xs,x.ok/\x.sign=jSq x)(hm:m+xs.length<=200):PS cfg glK 101 [plW ps,.int .i64 (i:Int),tW t,.fz (xs.map txW) 99 false] (.tup [plW (bkP t0 ps i s xs),.fz ((resX ps.length i xs).map txW) 99 false,.int .i64 0]):=by
 have hpp:=xeq ps;have hq:purW (.fz (xs.map txW) 99 false)=true:=yOq xs
 have hcs:purL [.fel (.fz (xs.map txW) 99 false),.fel (.fn 172 [] []),.fel (.int .i64 (i:Int)),.fel (plW ps),.fel (tW t)]=true:=by
  show(purW (.fz (xs.map txW) 99 false)&&(true&&(true&&(purW (plW ps)&&(purW (tW t)&&true)))))=true;rw[hq,hpp,qVq];rfl
 have hr:purW (.fz ((resX ps.length i xs).map txW) 99 false)=true:=yOq _;have h8:=hp.1;have hturn:=plturn_s ps i s _ hi 173 _ hcs _ hr (plback1_s ps h8 i hs t nt t0 hA xs hxs hm) rfl Xd hsm;refine gI 16 rfl (λR k0=>gC 0 rfl (plask_s ps hok hp t nt t0 hA) (gF 6 rfl (congrArg not (eqI_iff.2 (rfl))) (zdq 16 rfl ?_)))
 (refine vKq (λ_=>ent_frzA (fr2:=[(19,plW ps),(20,.int .i64 (i:Int)),(21,.fn 173 [] [.fel (.fz (xs.map txW) 99 false),.fel (.fn 172 [] []),.fel (.int .i64 (i:Int)),.fel (plW ps),.fel (tW t)])]) ⟨⟨_,rfl,.pur hpp⟩,⟨_,rfl,.pur rfl⟩,⟨_,rfl,.fn .nil (.cons (yIq rfl hq rfl) (.cons (yIq rfl rfl rfl) (.cons (yIq rfl rfl rfl) (.cons (yIq rfl hpp rfl) (.cons (yIq rfl (qVq t) rfl) .nil)))))⟩,trivial⟩) ?_;refine op_pq hturn ?_)
 exact zsq 9 rfl (gQa 0 rfl)
noncomputable def bkA(t0:T)(a:Au)(i:Nat)(s:Shd):Au:=⟨a.ru,a.vw,bkP t0 a.pool i s a.back,a.drawn,resX a.pool.length i a.back,a.wait,a.count,a.tells,a.hub⟩
set_option maxRecDepth 100000 in
theorem mback_s(a:Au)(i:Nat)(s:Shd)(t0:T)(hb:PS cfg glT 101 [plW a.pool,.int .i64 (i:Int),tW a.vw.ch.tree,.fz (a.back.map txW) 99 false] (.tup [plW (bkP t0 a.pool i s a.back),.fz ((resX a.pool.length i a.back).map txW) 99 false,.int .i64 0])):qmq cfg glT 37 1 [.ptr 0 0,.int .i64 (i:Int)] [(0,119,amW a)] λw hp nw=>w= .int .i64 0/\hp=[(0,119,amW (bkA t0 a i s))]/\nw=1:=by
 have h1:=xeq a.pool;have h2:=yOq a.back;have h3:=xeq (bkP t0 a.pool i s a.back);have h4:=yOq (resX a.pool.length i a.back);intro R;refine gIs 25 rfl (λk0=>?_);exact gC 0 rfl (hb) (gT 13 rfl (eqI_iff.2 (rfl)) (zdq 25 rfl (fin Qm Ent.refl rfl ⟨rfl,rfl,rfl,rfl⟩)))
@[simp] theorem mvB_pur(i:Int):purW (mvB i)=true:=by
 have q:purW (mvB 0)=true:=by kernel_rfl
 exact q
set_option maxRecDepth 100000 in
theorem doB_s(a:Au)(ok:OkAu a)(sm:SmAu a)(V:Prop) [Decidable V](hv:PS cfg glT 29 [vwG a.vw] (.int .i64 (if V then 0 else 8)))(hm:AuM V a)(hd:a.vw.down=false)(ht:PS cfg glT 83 [vwG a.vw] (vwG a.vw))(i:Nat)(hi:i<a.pool.length)(s:Shd)(t0:T)(hb:PS cfg glT 101 [plW a.pool,.int .i64 (i:Int),tW a.vw.ch.tree,.fz (a.back.map txW) 99 false] (.tup [plW (bkP t0 a.pool i s a.back),.fz ((resX a.pool.length i a.back).map txW) 99 false,.int .i64 0])):PS cfg glT 9 [amW a,mvB i] (.tup [amW (bkA t0 a i s),rpE 0,.int .i64 0]):=by
 have hck:=zvq (w':=.int .i64 0) (aucheck_s a ok V hv) Yi;have hak:=askB_s (G:=glT) a i hi;have htw:=autwin_s a sm ht;have hbk:=mback_s a i s t0 hb;have hM:=amW_pur a;have hM2:=amW_pur (bkA t0 a i s);have hdn:zWq 50 (amW a) 39 1 false=some (.bool false):=by show some (W.bool a.vw.down)=_;rw[hd]
 refine gIv 14 rfl (λR k0=>gC 0 rfl (hck) (gF 0 rfl (congrArg not (eqI_iff.2 (rfl))) (gC 8 rfl hak (gC 11 rfl (htw) (gF 11 rfl (eqI_not.2 Xg) (gM 11 rfl (yEq rfl rfl rfl hdn) (gF 8 rfl (eqI_not.2 Xg) (gT 8 rfl (eqI_iff.2 (rfl)) (zdq 8 rfl ?_)))))))))
 (refine zUq rfl (qvq (ext:=[4]) (ws:=[.ptr 0 0,.int .i64 (i:Int)]) rfl rfl rfl rfl rfl hbk Xg Xx Xm (handed1 (by rw[zwq hM];rfl) (zeq hM)) rfl ?_);rintro w hp1 nw1 ⟨rfl,rfl,rfl⟩;rw[kwq hM2])
 exact zsq 18 rfl (jkq Qm rfl (.tup (.cons (.pur hM2) (.cons (.pur (rpE_pur 0)) (.cons (.pur rfl) .nil)))))
end
section
attribute [local irreducible] CoW OpW FlW Step Spec
variable {G:Nat->Option W}
structure OkC(c:Ch):Prop where
 body:∀x∈c.links,BodOk x.ds x.xs
 nodes:c.tree.nodes.length<=4611686018427387903
 len:c.links.length<=4611686018427387903
 recs:∀x∈c.links,x.rs.length<=4611686018427387903
theorem prev_hd(l:List Lk)(i:Nat):∃h r b s,prevW l i= .agg 102 [hdW h,r,b,s]/\(purL [hdW h,r,b,s]=true)/\∀z,0<i->l[i-1]? =some z->h=z.hdr:=by
 cases i with
 |zero=>exact⟨hdZ,_,_,_,rfl,prev_pur l 0,λz h=>absurd h Xg⟩
 |succ i=>
  cases hz:l[i]? with
  |none=>exact⟨hdZ,_,_,_,by show lkA l i=_;unfold lkA;rw[hz];rfl,lkZ_pur,λz _ h=>by rw[Nat.add_sub_cancel,hz] at h;cases h⟩
  |some x=>exact⟨x.hdr,_,_,_,by show lkA l i=_;unfold lkA;rw[hz];rfl,lkG_pur x,λz _ h=>by rw[Nat.add_sub_cancel,hz] at h;cases h;rfl⟩
theorem ccheck_s(c:Ch)(hc:OkC c):PS cfg glK 61 [chG c] (.int .i64 (if MayC c then 0 else 8)):=by
 have e:(c.links.map lkG).length=c.links.length:=List.length_map _;have hl:=hc.len;refine gI 11 rfl (λR k0=>?_);refine gZ 0 rfl e ?_;refine gD 0 rfl (λh1=>?_) (λh1=>?_)
 ·have hno:¬MayC c:=λq=>by have:=q.one;omega
  exact gQ 31 rfl Xr
 obtain⟨z,hz⟩:∃z,c.links[c.links.length-1]? =some z:=⟨_,List.getElem?_eq_getElem Xd⟩
 refine gZ 3 rfl e ?_;refine gD 0 rfl (λh2=>?_) (λh2=>?_)
 ·have hno:¬MayC c:=λq=>by have:=q.len;omega
  exact gQ 26 rfl Xr
 refine gZ 9 rfl e ?_;refine gA 0 rfl (c.links.length-1) ?_;refine gP 0 rfl (zGq (i:=c.links.length-1) rfl rfl rfl rfl rfl rfl rfl (zlq lkG hz)) ?_;refine gU 2 rfl ?_;refine gS 3 rfl (λh3=>?_) (λh3=>?_)
 ·have hno:¬MayC c:=λq=>h3 (q.root z hz)
  exact gQ 7 rfl Xr
 refine gC 13 rfl (ceach_s _ _) ?_;refine zdq 3 rfl ?_;refine co_rangeG (encL c.links) (List.range c.links.length) (λi (a:Nat)=>a=i/\∀j x,j<i->c.links[j]? =some x->LkM c j x) (λa=>[(2,3,.int .i64 (a:Int)),(1,46,.int .i64 0),(0,31,chG c)]) (λ_=>R) (0) rfl Xn (ceach_it c.links false hc.len) (encL_ok c.links) (⟨rfl,λj x h=>by omega⟩) rfl rfl (λi a y hy hI=>?_) (λa hI=>?_)
 ·obtain⟨rfl,hI⟩:=hI;have hi:a<c.links.length:=by have:=y7q hy;simpa using this
  obtain rfl:a=y:=by rw[range_at hi] at hy;exact Option.some.inj hy
  obtain⟨x,hx⟩:∃x,c.links[a]? =some x:=⟨_,List.getElem?_eq_getElem hi⟩
  obtain⟨ph,pr,pb,ps,hp,hpu,hph⟩:=prev_hd c.links a;have hpu:purW (.agg 102 [hdW ph,pr,pb,ps])=true:=hpu;rw[show encL c.links a=[lkG x,.agg 102 [hdW ph,pr,pb,ps]] by unfold encL;rw[lkA_at hx,hp]];have hB:=hc.body x (List.mem_of_getElem? hx);have er:(x.rs.map rcW).length=x.rs.length:=List.length_map _;refine ycq 10 rfl ?_;refine QQq ?_;refine ycq 15 rfl ?_;refine gD 0 rfl (λh4=>?_) (λh4=>?_)
  ·have hno:¬MayC c:=λq=>h4 (q.link a x hx).height
   refine zdq 50 rfl ?_;refine jrq Xi ?_;refine z0q 2 rfl ?_;exact gQ 0 rfl Xr
  refine gC 2 rfl (kUq x.hdr) ?_;refine gD 0 rfl (λh5=>?_) (λh5=>?_)
  ·have hno:¬MayC c:=λq=>h5 (by rw[if_pos (q.link a x hx).hdr])
   refine zdq 46 rfl ?_;refine jrq Xi ?_;refine z0q 2 rfl ?_;exact gQ 0 rfl Xr
  have hok:okH x.hdr:=Classical.byContradiction λq=>h5 (by rw[if_neg q];decide)
  refine gD 3 rfl (λh6=>?_) (λh6=>?_)
  ·refine gC 4 rfl (hfollows_d x.hdr ph) ?_;refine gB 0 rfl (λh7=>?_) (λh7=>?_)
   ·have hF:0<a->∀w,c.links[a-1]? =some w->FolB x.hdr w.hdr:=λh0 w hw=>hph w h0 hw▸h7
    refine gZ 6 rfl er ?_;refine gD 2 rfl (λh8=>?_) (λh8=>?_)
    ·have hno:¬MayC c:=λq=>h8 (q.link a x hx).recs
     refine zdq 27 rfl ?_;refine jrq Xi ?_;refine z0q 2 rfl ?_;exact gQ 0 rfl Xr
    refine gC 4 rfl (cbody_s x.ds x.xs false false hB.tx hB.dl hB.xl) ?_;refine gB 0 rfl (λh9=>?_) (λh9=>?_)
    ·refine gC 7 rfl (ver_s c.tree x.root) ?_;refine gC 0 rfl (kjq (verT c x.root) hc.nodes) ?_;refine gU 0 rfl ?_;refine gS 3 rfl (λh10=>?_) (λh10=>?_)
     ·have hno:¬MayC c:=λq=>h10 (by rw[if_pos (q.link a x hx).tree])
      refine zdq 8 rfl ?_;refine jrq Xi ?_;refine z0q 2 rfl ?_;exact gQ 0 rfl Xr
     ·have hA:MayA (verT c x.root):=Classical.byContradiction λq=>h10 (by rw[if_neg q];decide)
      have hx2:LkM c a x:=⟨by omega,hok,λw h0 hw=>hF h0 w hw,by omega,h9,hA⟩;refine gWr 4 rfl ?_;refine zdq 3 rfl ?_;exact q_roundK (a+1) (⟨rfl,λj w hj hw=>by rcases Nat.lt_succ_iff_lt_or_eq.1 hj with q|rfl;exact hI j w q hw;exact Option.some.inj (hx.symm.trans hw)▸hx2⟩) Xd Xj Xw rfl
    ·have hno:¬MayC c:=λq=>h9 (q.link a x hx).body
     refine zdq 22 rfl ?_;refine jrq Xi ?_;refine z0q 2 rfl ?_;exact gQ 0 rfl Xr
   ·have hno:¬MayC c:=λq=>by
     obtain⟨w,hw⟩:∃w,c.links[a-1]? =some w:=⟨_,List.getElem?_eq_getElem Xd⟩
     exact h7 (hph w Xd hw▸(q.link a x hx).fol w Xd hw)
    refine zdq 37 rfl ?_;refine jrq Xi ?_;refine z0q 2 rfl ?_;exact gQ 0 rfl Xr
  ·have hF:0<a->∀w,c.links[a-1]? =some w->FolB x.hdr w.hdr:=λh0=>absurd h0 Xd
   refine gZ 11 rfl er ?_;refine gD 2 rfl (λh7=>?_) (λh7=>?_)
   ·have hno:¬MayC c:=λq=>h7 (q.link a x hx).recs
    refine zdq 27 rfl ?_;refine jrq Xi ?_;refine z0q 2 rfl ?_;exact gQ 0 rfl Xr
   refine gC 4 rfl (cbody_s x.ds x.xs false false hB.tx hB.dl hB.xl) ?_;refine gB 0 rfl (λh8=>?_) (λh8=>?_)
   ·refine gC 7 rfl (ver_s c.tree x.root) ?_;refine gC 0 rfl (kjq (verT c x.root) hc.nodes) ?_;refine gU 0 rfl ?_;refine gS 3 rfl (λh9=>?_) (λh9=>?_)
    ·have hno:¬MayC c:=λq=>h9 (by rw[if_pos (q.link a x hx).tree])
     refine zdq 8 rfl ?_;refine jrq Xi ?_;refine z0q 2 rfl ?_;exact gQ 0 rfl Xr
    ·have hA:MayA (verT c x.root):=Classical.byContradiction λq=>h9 (by rw[if_neg q];decide)
     have hx2:LkM c a x:=⟨by omega,hok,λw h0 hw=>hF h0 w hw,by omega,h8,hA⟩;refine gWr 4 rfl ?_;refine zdq 3 rfl ?_;exact q_roundK (a+1) (⟨rfl,λj w hj hw=>by rcases Nat.lt_succ_iff_lt_or_eq.1 hj with q|rfl;exact hI j w q hw;exact Option.some.inj (hx.symm.trans hw)▸hx2⟩) Xd Xj Xw rfl
   ·have hno:¬MayC c:=λq=>h8 (q.link a x hx).body
    refine zdq 22 rfl ?_;refine jrq Xi ?_;refine z0q 2 rfl ?_;exact gQ 0 rfl Xr
 ·obtain⟨rfl,hI⟩:=hI;have yes:MayC c:=⟨by omega,by omega,λw hw=>by cases hz.symm.trans hw;omega,λj w hw=>hI j w (by have:=y7q hw;simpa using this) hw⟩;refine z0q 8 rfl ?_;exact gQ 0 rfl Yf
structure SmallC(c:Ch):Prop where
 nodes:c.tree.nodes.length<=1000000
 vals:∀x∈c.tree.nodes,x.val.length<=70368744177664
 len:c.links.length<=1000000
 link:∀x∈c.links,x.ds.length<=1000000/\x.xs.length<=1000000/\x.rs.length<=1000000
def YDq(c:Ch)(n:Nat):Prop:=Qwq c.tree 900\/n<c.links.length\/∃x∈c.links,yrq x.ds x.xs\/40<x.rs.length
noncomputable instance(c:Ch)(n:Nat):Decidable (YDq c n):=Classical.propDecidable _
theorem greatc_s(c:Ch)(n:Nat)(hb:c.tree.nodes.length<=4611686018427387903)(hl:c.links.length<=4611686018427387903):PS cfg G 67 [chG c,.int .i64 (n:Int)] (.bool (decide (YDq c n))):=by
 have e:(c.links.map lkG).length=c.links.length:=List.length_map _;by_cases hg:Qwq c.tree 900
 ·skip
  exact gI 11 rfl (λR k0=>gC 0 rfl (zvq (w':=.bool true) (great_s c.tree 900 hb Xd) (by rw[decide_eq_true (hg)])) (gQ 17 rfl (u1q (.inl hg))))
 refine gI 11 rfl (λR k0=>gC 0 rfl (zvq (w':=.bool false) (great_s c.tree 900 hb Xd) (by rw[decide_eq_false (hg)])) (gZ 3 rfl e (gU 1 rfl ?_)));refine gS 3 rfl (λh1=>?_) (λh1=>?_)
 ·exact gQ 7 rfl (u1q (.inr (.inl Xd)))
 refine gLo (α:=Nat) 9 (λi=>i<=c.links.length/\∀j x,j<i->c.links[j]? =some x->¬(yrq x.ds x.xs\/40<x.rs.length)) (λi=>[(5,.int .i64 (i:Int))]) [2,4] (λi=>c.links.length-i) (0) rfl (⟨Nat.zero_le _,λj x h=>by omega⟩) (λi hI=>?_);obtain⟨g1,g2⟩:=hI;refine gZ 6 rfl e ?_;refine gS 3 rfl (λh2=>?_) (λh2=>?_)
 ·have hi:i<c.links.length:=by omega
  obtain⟨x,hx⟩:∃x,c.links[i]? =some x:=⟨_,List.getElem?_eq_getElem hi⟩
  have er:(x.rs.map rcW).length=x.rs.length:=List.length_map _;refine gP 9 rfl (zGq (i:=i) rfl rfl rfl rfl rfl rfl rfl (zlq lkG hx)) (gC 2 rfl (great16_s x.ds x.xs false false) ?_);refine gB 0 rfl (λh3=>?_) (λh3=>?_)
  ·exact gO 21 rfl (gQ 2 rfl (u1q (.inr (.inr ⟨x,List.mem_of_getElem? hx,.inl h3⟩))))
  ·refine gP 4 rfl (zGq (i:=i) rfl rfl rfl rfl rfl rfl rfl (zlq lkG hx)) (gZ 2 rfl er (gU 0 rfl ?_));refine gS 3 rfl (λh4=>?_) (λh4=>?_)
   ·exact gO 8 rfl (gQ 2 rfl (u1q (.inr (.inr ⟨x,List.mem_of_getElem? hx,.inr Xd⟩))))
   ·exact gA 5 rfl (i+1) (gAg 2 rfl (i+1) (⟨hi,λj y hj hy=>by rcases Nat.lt_succ_iff_lt_or_eq.1 hj with q|rfl;exact g2 j y q hy;exact Option.some.inj (hx.symm.trans hy)▸λq=>q.elim h3 Xd⟩) Xd)
 ·have no:¬YDq c n:=by
   rintro(q|q|⟨x,hx,q⟩)
   ·exact hg q
   ·omega
   ·obtain⟨j,hj⟩:=List.getElem?_of_mem hx;exact g2 j x Yv hj q
  exact gO 2 rfl (gQ 8 rfl (kZq no))
theorem greatv_s(v:Vw)(n:Nat)(hb:v.ch.tree.nodes.length<=4611686018427387903)(hl:v.ch.links.length<=4611686018427387903):PS cfg G 22 [vwG v,.int .i64 (n:Int)] (.bool (decide (YDq v.ch n))):=by
 exact gI 11 rfl (λR k0=>gC 0 rfl (greatc_s v.ch n hb hl) (gQa 4 rfl))
theorem greatc_no{c:Ch}{n:Nat}(h:¬YDq c n):c.tree.nodes.length<=900/\c.links.length<=n/\∀x∈c.links,¬yrq x.ds x.xs/\x.rs.length<=40:=
 ⟨Nat.le_of_not_lt λq=>h (.inl (.inl q)),Nat.le_of_not_lt λq=>h (.inr (.inl q)),λx hx=>⟨λq=>h (.inr (.inr ⟨x,hx,.inl q⟩)),Nat.le_of_not_lt λq=>h (.inr (.inr ⟨x,hx,.inr q⟩))⟩⟩
theorem clink_s(x:Lk)(h:x.ds.length<=1000000/\x.xs.length<=1000000/\x.rs.length<=1000000):PS cfg G 203 [lkG x] (lkG x):=by
 obtain⟨h1,h2,h3⟩:=h;exact gI 11 rfl (λR k0=>gC 0 rfl (cld_s x.ds false Xd) (gC 3 rfl (clx_s x.xs false Xd) (gC 9 rfl (clr_s x.rs false Xd) (gQa 11 rfl))))
theorem ctrn_s(l:List Lk)(f:Bool)(hl:l.length<=1000000)(hs:∀x∈l,x.ds.length<=1000000/\x.xs.length<=1000000/\x.rs.length<=1000000):PL cfg G 202 [.fz (l.map lkG) 102 f,.fn 203 [] []] 88 102 (l.map lkG):=by
 have e:(l.map lkG).length=l.length:=List.length_map _;intro R;refine gIs 14 rfl (λk0=>?_);refine gZ 0 rfl e (zdq 4 rfl ?_);refine Zjq (α:=Nat) (λi=>i<=l.length) 5 (λi=>(l.take i).map lkG) 88 102 (λi=>[(10,.int .i64 (i:Int))]) [(1,_),(4,_),(8,_),(9,_)] _ (λi=>l.length-i) (0) ⟨rfl,rfl,rfl,rfl,trivial⟩ (Nat.zero_le _) ⟨rfl,trivial⟩ rfl rfl rfl (λi hI=>?_);refine ycq 6 rfl ?_;refine gS 0 rfl (λh1=>?_) (λh1=>?_)
 ·have hi:i<l.length:=by omega
  obtain⟨x,hx⟩:∃x,l[i]? =some x:=⟨_,List.getElem?_eq_getElem hi⟩
  have es:(l.take (i+1)).map lkG=(l.take i).map lkG++[lkG x]:=by rw[List.take_add_one,hx,List.map_append];rfl
  have el:((l.take i).map lkG).length=i:=by simp;omega
  have ep:purL ((l.take i).map lkG++[lkG x])=true:=by rw[<-es];exact vrq _
  have ep2:purL ((l.take i).map lkG)=true:=vrq _;exact gP 6 rfl (zGq (i:=i) rfl rfl rfl rfl rfl rfl rfl (zlq lkG hx)) (gC 9 rfl (clink_s x (hs x (List.mem_of_getElem? hx))) (gM 1 rfl (yZq rfl rfl (Qrq [_,_] (k:=ti88) (news:=[lkG x]) rfl rfl rfl rfl rfl (uuq rfl rfl rfl rfl) Xm (by show(((l.take i).map lkG).length+1)*192<=_;omega) (by show((l.take i).map lkG).length+1<=_;omega) rfl Xm)) (gWr 5 rfl (zdq 2 rfl (xCq 3 (i+1) (hi) Xd (Nat.zero_le _) (es) Xv Xd Ym rfl Ya ⟨rfl,trivial⟩ ⟨rfl,rfl,rfl,rfl,trivial⟩ Xh Xh rfl Xn Xj Xw)))))
 ·have hi:i=l.length:=by omega
  subst hi;rw[List.take_length];exact zdq 2 rfl (qQq Xi (z0q 9 rfl (fin Qm (qcq (fr2:=[(4,gW 0 102 (l.map lkG))]) ⟨rfl,trivial⟩ rfl rfl) rfl ⟨rfl,rfl,rfl,rfl⟩)))
theorem SmallC.vl{c:Ch}(h:SmallC c):c.tree.nodes.length<=1000000000:=by have:=h.nodes;omega
noncomputable def ownC(b:Nat)(c:Ch):W:=.agg 3 [tW c.tree,.sl b 0 0 c.links.length 102 none]
noncomputable def ownH(b0 b1 b:Nat)(c:Ch):HpW:=[(b,88,.arr (c.links.length*102) 102 (c.links.map lkG)),(b1,31,ownC b c),(b0,31,chG c)]
theorem ctwin_o(c:Ch)(hs:SmallC c)(hne:c.links≠[]):qmq cfg G 148 0 [chG c] [] λw hp nw=>w=ownC 2 c/\hp=ownH 0 1 2 c/\nw=3:=by
 have hne2:c.links.map lkG≠[]:=by simpa using hne
 have e:(c.links.map lkG).length=c.links.length:=List.length_map _;intro R;refine gIs 10 rfl (λk0=>?_);refine gC 0 rfl (twinp_s c.tree hs.vl hs.vals) (zdq 2 rfl ?_)
 (refine qrq rfl (step_pl rfl rfl rfl rfl rfl (by simp[purL,purW]) (ctrn_s c.links false hs.len hs.link) (vrq _) ?_);refine⟨by first|rfl|kernel_rfl,?_⟩;rw[ZZq hne2,Z0q hne2,e])
 exact qHq 5 rfl (fin Qm Ent.refl rfl ⟨rfl,rfl,rfl,rfl⟩)
theorem ctwin_s(c:Ch)(hs:SmallC c)(hne:c.links≠[]):PS cfg G 148 [chG c] (chG c):=λR=>
 uvq (kxq (ctwin_o c hs hne) (Q:=λw hp _=>View (blkA hp) w (chG c)) (λw hp nw h=>by
  obtain⟨rfl,rfl,rfl⟩:=h;exact .agg (.cons (.pur (qVq _)) (.cons (.sl (full:=false) rfl (vrq _) (zAq Xg (by rw[List.length_map]) rfl) Xi) .nil))) R)
end
section
attribute [local irreducible] CoW OpW FlW Step Spec
def MayV(v:Vw):Prop:=MayC v.ch/\(0<=v.final/\v.final<(v.ch.links.length:Int)/\0<=v.number/\v.number<=1073741823)
noncomputable instance(v:Vw):Decidable (MayV v):=Classical.propDecidable _
theorem vcheck_s(v:Vw)(hc:OkC v.ch):PS cfg glK 29 [vwG v] (.int .i64 (if MayV v then 0 else 8)):=by
 have e:(v.ch.links.map lkG).length=v.ch.links.length:=List.length_map _;by_cases hm:MayC v.ch
 ·skip
  refine gI 11 rfl (λR k0=>gC 0 rfl (zvq (w':=.int .i64 0) (ccheck_s v.ch hc) Yi) (gFa 0 rfl ?_));refine gD 3 rfl (λh1=>?_) (λh1=>?_)
  ·exact gQ 30 rfl Xp
  ·refine gZ 7 rfl e ?_;refine gD 0 rfl (λh2=>?_) (λh2=>?_)
   ·exact gQ 21 rfl Xp
   ·refine gD 4 rfl (λh3=>?_) (λh3=>?_)
    ·exact gQ 16 rfl Xp
    ·refine gU 4 rfl ?_;refine gS 3 rfl (λh4=>?_) (λh4=>?_)
     ·exact gQ 7 rfl Xp
     ·exact gQ 8 rfl Xp
 ·skip
  exact gI 11 rfl (λR k0=>gC 0 rfl (zvq (w':=.int .i64 8) (ccheck_s v.ch hc) (by rw[if_neg hm])) (gTa 0 rfl (gQ 34 rfl (by rw[if_neg λq=>hm q.1]))))
theorem vtwin_s(v:Vw)(hs:SmallC v.ch)(hne:v.ch.links≠[]):PS cfg glK 83 [vwG v] (vwG v):=by
 exact gI 10 rfl (λR k0=>gC 0 rfl (ctwin_s v.ch hs hne) (gQa 11 rfl))
def InV(v:Vw)(h:Int):Prop:=v.final<=h/\h<(v.ch.links.length:Int)
noncomputable instance(v:Vw)(h:Int):Decidable (InV v h):=Classical.propDecidable _
abbrev Bd:=List Depo×List Tx
noncomputable def bdW(b:Bd):W:=bodW b.1 b.2 false false
@[simp] theorem bdW_pur(b:Bd):purW (bdW b)=true:=bodW_pur _ _ _ _
@[simp] theorem bds_pur(l:List Bd):purL (l.map bdW)=true:=yjq bdW_pur l
structure CanRoll(v:Vw)(h:Int):Prop where
 may:MayV v
 num:v.number≠1073741823
 is:InV v h
noncomputable instance(v:Vw)(h:Int):Decidable (CanRoll v h):=Classical.propDecidable _
end
theorem fit_rc{w:W}(h:Fit (.st 34 [.int .u8,.arr 32 1 (.int .u8),.int .i64]) w):∃r:RcI,w=rcW r/\True:=by
 obtain⟨l,rfl,w1,l1,rfl,h1,w2,l2,rfl,h2,w3,l3,rfl,h3,rfl⟩:=h;obtain⟨k,rfl,_⟩:=fit_u8 h1;obtain⟨d,rfl⟩:=j1q h2;obtain⟨c,rfl,_⟩:=y4q h3;exact⟨⟨k,d,c⟩,rfl,trivial⟩
theorem fit_link{w:W}(h:Fit (.st 102 [.st 98 [.int .i64,.arr 32 1 (.int .u8),.arr 32 1 (.int .u8),.arr 32 1 (.int .u8),.int .i64],.int .i64,.st 2 [.sl 34 48 (.st 34 [.int .u64,.arr 32 1 (.int .u8),.int .u64]),.sl 99 120 (.st 99 [.arr 32 1 (.int .u8),.arr 32 1 (.int .u8),.int .u64,.int .u64,.int .u64,.arr 32 1 (.int .u8)])],.sl 34 48 (.st 34 [.int .u8,.arr 32 1 (.int .u8),.int .i64])]) w):∃x:Lk,w=lkG x/\BodOk x.ds x.xs/\x.rs.length<=4611686018427387903:=by
 obtain⟨l,rfl,w1,l1,rfl,h1,w2,l2,rfl,h2,w3,l3,rfl,h3,w4,l4,rfl,h4,rfl⟩:=h;obtain⟨p,rfl,_⟩:=fit_hdr h1;obtain⟨r,rfl,_⟩:=y4q h2;obtain⟨ds,xs,rfl,hB⟩:=fit_body h3;obtain⟨rs,rfl,hl,_⟩:=khq h4 λx hx=>fit_rc hx
 exact⟨⟨p,r,ds,xs,rs⟩,rfl,hB,by show rs.length<=_;omega⟩
theorem fit_chain{w:W}(h:Fit (.st 3 [.st 2 [.sl 36 80 (.st 36 [.bool,.arr 32 1 (.int .u8),.sl 1 1 (.int .u8),.int .i64,.int .i64]),.int .i64],.sl 102 192 (.st 102 [.st 98 [.int .i64,.arr 32 1 (.int .u8),.arr 32 1 (.int .u8),.arr 32 1 (.int .u8),.int .i64],.int .i64,.st 2 [.sl 34 48 (.st 34 [.int .u64,.arr 32 1 (.int .u8),.int .u64]),.sl 99 120 (.st 99 [.arr 32 1 (.int .u8),.arr 32 1 (.int .u8),.int .u64,.int .u64,.int .u64,.arr 32 1 (.int .u8)])],.sl 34 48 (.st 34 [.int .u8,.arr 32 1 (.int .u8),.int .i64])])]) w):∃c:Ch,w=chG c/\OkC c:=by
 obtain⟨l,rfl,w1,l1,rfl,h1,w2,l2,rfl,h2,rfl⟩:=h;obtain⟨t,rfl,ht,_⟩:=fit_tree h1;obtain⟨ls,rfl,hl,hx⟩:=khq h2 λx hx=>fit_link hx
 exact⟨⟨t,ls⟩,rfl,λx h=>(hx x h).1,by show t.nodes.length<=_;omega,by show ls.length<=_;omega,λx h=>(hx x h).2⟩
theorem fit_view{w:W}(h:Fit (.st 6 [.int .i64,.bool,.int .i64,.st 3 [.st 2 [.sl 36 80 (.st 36 [.bool,.arr 32 1 (.int .u8),.sl 1 1 (.int .u8),.int .i64,.int .i64]),.int .i64],.sl 102 192 (.st 102 [.st 98 [.int .i64,.arr 32 1 (.int .u8),.arr 32 1 (.int .u8),.arr 32 1 (.int .u8),.int .i64],.int .i64,.st 2 [.sl 34 48 (.st 34 [.int .u64,.arr 32 1 (.int .u8),.int .u64]),.sl 99 120 (.st 99 [.arr 32 1 (.int .u8),.arr 32 1 (.int .u8),.int .u64,.int .u64,.int .u64,.arr 32 1 (.int .u8)])],.sl 34 48 (.st 34 [.int .u8,.arr 32 1 (.int .u8),.int .i64])])]]) w):∃v:Vw,w=vwG v/\OkC v.ch/\(-9223372036854775808<=v.number/\v.number<=9223372036854775807)/\(-9223372036854775808<=v.final/\v.final<=9223372036854775807):=by
 obtain⟨l,rfl,w1,l1,rfl,h1,w2,l2,rfl,h2,w3,l3,rfl,h3,w4,l4,rfl,h4,rfl⟩:=h;obtain⟨n,rfl,hn⟩:=y4q h1;obtain⟨b,rfl⟩:=uVq h2;obtain⟨f,rfl,hf⟩:=y4q h3;obtain⟨c,rfl,hc⟩:=fit_chain h4;exact⟨⟨n,b,f,c⟩,rfl,hc,hn,hf⟩
theorem fit_ru2{w:W}(h:Fit (.st 38 [.int .i64,.int .i64,.int .i64,.int .i64,.int .i64,.int .i64,.arr 32 1 (.int .u8)]) w):∃r:Ru,w=ruG r:=by
 obtain⟨l,rfl,w1,l1,rfl,h1,w2,l2,rfl,h2,w3,l3,rfl,h3,w4,l4,rfl,h4,w5,l5,rfl,h5,w6,l6,rfl,h6,w7,l7,rfl,h7,rfl⟩:=h;obtain⟨a,rfl,_⟩:=y4q h1;obtain⟨b,rfl,_⟩:=y4q h2;obtain⟨c,rfl,_⟩:=y4q h3;obtain⟨d,rfl,_⟩:=y4q h4;obtain⟨e,rfl,_⟩:=y4q h5;obtain⟨f,rfl,_⟩:=y4q h6;obtain⟨g,rfl⟩:=j1q h7;exact⟨⟨a,b,c,d,e,f,g⟩,rfl⟩
theorem fit_ln{w:W}(h:Fit (.st 33 [.arr 32 1 (.int .u8),.sl 99 120 (.st 99 [.arr 32 1 (.int .u8),.arr 32 1 (.int .u8),.int .u64,.int .u64,.int .u64,.arr 32 1 (.int .u8)])]) w):∃l:Ln,w=lnW l/\OkL l:=by
 obtain⟨l,rfl,w1,l1,rfl,h1,w2,l2,rfl,h2,rfl⟩:=h;obtain⟨k,rfl⟩:=j1q h1;obtain⟨xs,rfl,hl,hx⟩:=khq h2 λx hx=>fit_tx hx
 exact⟨⟨k,xs⟩,rfl,hx,by show xs.length<=_;omega⟩
theorem fit_shd{w:W}(h:Fit (.st 1 [.sl 33 56 (.st 33 [.arr 32 1 (.int .u8),.sl 99 120 (.st 99 [.arr 32 1 (.int .u8),.arr 32 1 (.int .u8),.int .u64,.int .u64,.int .u64,.arr 32 1 (.int .u8)])])]) w):∃s:Shd,w=shdW s/\s.length<=4611686018427387903/\∀l∈s,OkL l:=by
 obtain⟨l,rfl,w1,l1,rfl,h1,rfl⟩:=h;obtain⟨xs,rfl,hl,hx⟩:=khq h1 λx hx=>fit_ln hx
 exact⟨xs,rfl,by omega,hx⟩
theorem fit_eve{w:W}(h:Fit (.st 100 [.int .i64,.bool,.st 98 [.int .i64,.arr 32 1 (.int .u8),.arr 32 1 (.int .u8),.arr 32 1 (.int .u8),.int .i64]]) w):∃e:Eve,w=eveW e/\True:=by
 obtain⟨l,rfl,w1,l1,rfl,h1,w2,l2,rfl,h2,w3,l3,rfl,h3,rfl⟩:=h;obtain⟨n,rfl,_⟩:=y4q h1;obtain⟨b,rfl⟩:=uVq h2;obtain⟨p,rfl,_⟩:=fit_hdr h3;exact⟨⟨n,b,p⟩,rfl,trivial⟩
theorem fit_itm{w:W}(h:Fit (.st 101 [.bool,.st 100 [.int .i64,.bool,.st 98 [.int .i64,.arr 32 1 (.int .u8),.arr 32 1 (.int .u8),.arr 32 1 (.int .u8),.int .i64]]]) w):∃e:Itm,w=itmW e/\True:=by
 obtain⟨l,rfl,w1,l1,rfl,h1,w2,l2,rfl,h2,rfl⟩:=h;obtain⟨b,rfl⟩:=uVq h1;obtain⟨e,rfl,_⟩:=fit_eve h2;exact⟨⟨b,e⟩,rfl,trivial⟩
theorem fit_tap{w:W}(h:Fit (.st 2 [.sl 101 136 (.st 101 [.bool,.st 100 [.int .i64,.bool,.st 98 [.int .i64,.arr 32 1 (.int .u8),.arr 32 1 (.int .u8),.arr 32 1 (.int .u8),.int .i64]]]),.bool]) w):∃t:Tp,w=tpW t/\t.items.length<=4611686018427387903:=by
 obtain⟨l,rfl,w1,l1,rfl,h1,w2,l2,rfl,h2,rfl⟩:=h;obtain⟨xs,rfl,hl,hx⟩:=khq h1 λx hx=>fit_itm hx
 obtain⟨b,rfl⟩:=uVq h2;exact⟨⟨xs,b⟩,rfl,by show xs.length<=_;omega⟩
theorem fit_sb4{w:W}(h:Fit (.st 4 [.int .i64,.int .i64,.st 2 [.sl 101 136 (.st 101 [.bool,.st 100 [.int .i64,.bool,.st 98 [.int .i64,.arr 32 1 (.int .u8),.arr 32 1 (.int .u8),.arr 32 1 (.int .u8),.int .i64]]]),.bool]]) w):∃s:Sb,w=sbW s/\s.tap.items.length<=4611686018427387903:=by
 obtain⟨l,rfl,w1,l1,rfl,h1,w2,l2,rfl,h2,w3,l3,rfl,h3,rfl⟩:=h;obtain⟨n,rfl,_⟩:=y4q h1;obtain⟨b,rfl,_⟩:=y4q h2;obtain⟨t,rfl,ht⟩:=fit_tap h3;exact⟨⟨n,b,t⟩,rfl,ht⟩
theorem fit_hub{w:W}(h:Fit (.st 2 [.int .i64,.sl 4 48 (.st 4 [.int .i64,.int .i64,.st 2 [.sl 101 136 (.st 101 [.bool,.st 100 [.int .i64,.bool,.st 98 [.int .i64,.arr 32 1 (.int .u8),.arr 32 1 (.int .u8),.arr 32 1 (.int .u8),.int .i64]]]),.bool]])]) w):∃s:Hb,w=hbW s/\s.subs.length<=4611686018427387903/\∀x∈s.subs,x.tap.items.length<=4611686018427387903:=by
 obtain⟨l,rfl,w1,l1,rfl,h1,w2,l2,rfl,h2,rfl⟩:=h;obtain⟨n,rfl,_⟩:=y4q h1;obtain⟨xs,rfl,hl,hx⟩:=khq h2 λx hx=>fit_sb4 hx
 exact⟨⟨n,xs⟩,rfl,by show xs.length<=_;omega,hx⟩
structure Fit25(a:Au):Prop where
 ch:OkC a.vw.ch
 pooll:a.pool.length<=4611686018427387903
 pool:∀s∈a.pool,s.length<=4611686018427387903/\∀l∈s,OkL l
 drawn:∀x∈a.drawn,x.ok
 drawl:a.drawn.length<=4611686018427387903
 back:∀x∈a.back,x.ok
 backl:a.back.length<=4611686018427387903
 waitl:a.wait.length<=4611686018427387903
 tells:a.tells.length<=4611686018427387903
 subs:a.hub.subs.length<=4611686018427387903
 taps:∀s∈a.hub.subs,s.tap.items.length<=4611686018427387903
theorem fit_auto{w:W}(h:Fit (.st 52 [.st 38 [.int .i64,.int .i64,.int .i64,.int .i64,.int .i64,.int .i64,.arr 32 1 (.int .u8)],.st 6 [.int .i64,.bool,.int .i64,.st 3 [.st 2 [.sl 36 80 (.st 36 [.bool,.arr 32 1 (.int .u8),.sl 1 1 (.int .u8),.int .i64,.int .i64]),.int .i64],.sl 102 192 (.st 102 [.st 98 [.int .i64,.arr 32 1 (.int .u8),.arr 32 1 (.int .u8),.arr 32 1 (.int .u8),.int .i64],.int .i64,.st 2 [.sl 34 48 (.st 34 [.int .u64,.arr 32 1 (.int .u8),.int .u64]),.sl 99 120 (.st 99 [.arr 32 1 (.int .u8),.arr 32 1 (.int .u8),.int .u64,.int .u64,.int .u64,.arr 32 1 (.int .u8)])],.sl 34 48 (.st 34 [.int .u8,.arr 32 1 (.int .u8),.int .i64])])]],.sl 1 24 (.st 1 [.sl 33 56 (.st 33 [.arr 32 1 (.int .u8),.sl 99 120 (.st 99 [.arr 32 1 (.int .u8),.arr 32 1 (.int .u8),.int .u64,.int .u64,.int .u64,.arr 32 1 (.int .u8)])])]),.sl 99 120 (.st 99 [.arr 32 1 (.int .u8),.arr 32 1 (.int .u8),.int .u64,.int .u64,.int .u64,.arr 32 1 (.int .u8)]),.sl 99 120 (.st 99 [.arr 32 1 (.int .u8),.arr 32 1 (.int .u8),.int .u64,.int .u64,.int .u64,.arr 32 1 (.int .u8)]),.sl 34 48 (.st 34 [.int .u64,.arr 32 1 (.int .u8),.int .u64]),.int .u64,.sl 100 128 (.st 100 [.int .i64,.bool,.st 98 [.int .i64,.arr 32 1 (.int .u8),.arr 32 1 (.int .u8),.arr 32 1 (.int .u8),.int .i64]]),.st 2 [.int .i64,.sl 4 48 (.st 4 [.int .i64,.int .i64,.st 2 [.sl 101 136 (.st 101 [.bool,.st 100 [.int .i64,.bool,.st 98 [.int .i64,.arr 32 1 (.int .u8),.arr 32 1 (.int .u8),.arr 32 1 (.int .u8),.int .i64]]]),.bool]])]]) w):∃a:Au,w=amW a/\Fit25 a:=by
 obtain⟨l,rfl,w1,l1,rfl,h1,w2,l2,rfl,h2,w3,l3,rfl,h3,w4,l4,rfl,h4,w5,l5,rfl,h5,w6,l6,rfl,h6,w7,l7,rfl,h7,w8,l8,rfl,h8,w9,l9,rfl,h9,rfl⟩:=h;obtain⟨r,rfl⟩:=fit_ru2 h1;obtain⟨v,rfl,hc,_,_⟩:=fit_view h2;obtain⟨pl,rfl,pl1,pl2⟩:=khq h3 λx hx=>fit_shd hx
 obtain⟨dr,rfl,dr1,dr2⟩:=khq h4 λx hx=>fit_tx hx
 obtain⟨bk,rfl,bk1,bk2⟩:=khq h5 λx hx=>fit_tx hx
 obtain⟨wt,rfl,wt1,wt2⟩:=khq h6 λx hx=>fit_depo2 hx
 obtain⟨n,rfl,_⟩:=vxq h7;obtain⟨te,rfl,te1,te2⟩:=khq h8 λx hx=>fit_eve hx
 obtain⟨hu,rfl,hu1,hu2⟩:=fit_hub h9;exact⟨⟨r,v,pl,dr,bk,wt,n,te,hu⟩,rfl,hc,by show pl.length<=_;omega,pl2,dr2,by show dr.length<=_;omega,bk2,by show bk.length<=_;omega,by show wt.length<=_;omega,by show te.length<=_;omega,hu1,hu2⟩
structure Few25(a:Au):Prop where
 ch:¬YDq a.vw.ch 6
 pool:a.pool.length<=10/\∀s∈a.pool,s.length<=6/\∀y∈s,y.txs.length<=20
 hub:a.hub.subs.length<=18/\∀s∈a.hub.subs,s.tap.items.length<=20
 drawn:a.drawn.length<=10
 back:a.back.length<=20
 wait:a.wait.length<=20
 tells:a.tells.length<=20
theorem few_ok{a:Au}(hf:Fit25 a)(hg:Few25 a):OkAu a:=
 ⟨λs hs=>⟨by have:=(hg.pool.2 s hs).1;omega,(hf.pool s hs).2⟩,hf.drawn,by have:=hg.drawn;omega,hf.back,by have:=hg.back;omega,by have:=hg.tells;omega,hf.subs,hf.taps⟩
theorem few_sm{a:Au}(hg:Few25 a):SmAu a:=
 ⟨by have:=hg.pool.1;omega,λs hs=>⟨by have:=(hg.pool.2 s hs).1;omega,λy hy=>by have:=(hg.pool.2 s hs).2 y hy;omega⟩,by have:=hg.drawn;omega,by have:=hg.back;omega,by have:=hg.wait;omega,by have:=hg.tells;omega,by have:=hg.hub.1;omega,λs hs=>by have:=hg.hub.2 s hs;omega⟩
end
end Go.Proofs.YtpjfmknefefapaaGreatDoor

/-
  What the proof of ViewReads stands on, part 7. No condition.
-/
import Derived.Test.YtihcioafclhokaaGreatDoorZViewReadsF
set_option linter.unusedSimpArgs false
set_option linter.unusedVariables false
namespace Go.Proofs.YtihcioafclhokaaGreatDoor
section
open Go.RowKit
section
attribute [local irreducible] CoW OpW FlW Step Spec
variable {G:Nat->Option W}
theorem z9q{p:Prop} [Decidable p](h:¬p):W.bool false=W.bool (decide p):=congrArg W.bool (decide_eq_false h).symm
theorem dec_t{p:Prop} [Decidable p](h:p):W.bool true=W.bool (decide p):=congrArg W.bool (decide_eq_true h).symm
theorem dec_c{p q:Prop} [Decidable p] [Decidable q](h:q↔p):W.bool (decide q)=W.bool (decide p):=congrArg W.bool (decide_eq_decide.2 h)
theorem hfollows_d(h p:Hdr):PS cfg glK 82 [hdW h,hdW p] (.bool (decide (FolB h p))):=by
 by_cases hp:okH p
 ·obtain⟨q1,q2,q3,q4⟩:=id hp;by_cases hh:okH h
  ·skip
   refine gI 10 Y (λR k0=>gC 0 Y (hhash_s p ⟨q1,q2,q3,q4⟩) (gTa 11 Y (gC 2 Y (zOq (w':=.int .i64 0) (uxq h) (by rw[if_pos hh])) (gTa 0 Y (gWr 6 Y ?_)))));refine gD 0 Y (λh1=>?_) (λh1=>?_)
   ·exact gUe 5 Y (ysq Y Y Y Y (yBq Y Y Y Y Y Y _ _ 250)) z8q (gQ 5 Y (dec_c ⟨λq=>⟨hh,hp,by simpa using h1,q⟩,λq=>q.2.2.2⟩))
   ·exact gQ 11 Y (z9q λq=>h1 (by simpa using q.2.2.1))
  ·skip
   exact gI 10 Y (λR k0=>gC 0 Y (hhash_s p ⟨q1,q2,q3,q4⟩) (gTa 11 Y (gC 2 Y (zOq (w':=.int .i64 8) (uxq h) (by rw[if_neg hh])) (gFa 0 Y (gQ 19 Y (z9q λq=>hh q.1))))))
 ·skip
  exact gI 10 Y (λR k0=>gC 0 Y (hhash_no p hp) (gFa 11 Y (gQ 23 Y (z9q λq=>hp q.2.1))))
theorem ver_s(t:Tree)(r:Int):PS cfg G 75 [tW t,.int .i64 r] (tW ⟨t.nodes,r⟩):=by
 exact gI 20 Y (λR k0=>gQa 0 Y)
theorem ixtx_s(xs:List Tx)(f:Bool)(F:FuncId)(P:Tx->Prop) [DecidablePred P](hF:∀x∈xs,PS cfg G F [txW x] (.bool (decide (P x))))(hF0:cfg.ext F=none)(hn:xs.length<=1000000000):PE cfg G 242 [.fz (xs.map txW) 99 f,.fn F [] []] (λw=>∃i:Int,w= .int .i64 i/\((∃x∈xs,P x)↔0<=i)):=by
 have e:(xs.map txW).length=xs.length:=List.length_map _;refine gIe 9 Y (λR k0=>gZ 0 Y e ?_);refine gLo (α:=Nat) 4 (λi=>i<=xs.length/\∀j x,j<i->xs[j]? =some x->¬P x) (λi=>[(8,.int .i64 (i:Int))]) [0,1,4,7] (λi=>xs.length-i) (0) rfl (⟨Nat.zero_le _,λj x h=>by omega⟩) (λi hI=>?_);obtain⟨g1,g2⟩:=hI;refine gS 6 Y (λh1=>?_) (λh1=>?_)
 ·obtain⟨x,hx⟩:∃x,xs[i]? =some x:=⟨_,List.getElem?_eq_getElem Xd⟩
  refine gP 15 Y (zrq (i:=i) Y Y Y Y Y Y Y (zoq txW hx)) (zeq 1 Y (op_ps Y Y Y hF0 Y Y (hF x (List.mem_of_getElem? hx)) Xj Xj (zAq 2 Y ?_)));refine gS 0 Y (λh2=>?_) (λh2=>?_)
  ·exact gO 9 Y (zeq 2 Y (fin_vE (w':=.int .i64 (i:Int)) Qx rfl (.pur rfl) rfl ⟨_,rfl,λ_=>by omega,λ_=>⟨x,List.mem_of_getElem? hx,h2⟩⟩))
  ·exact gA 4 Y (i+1) (gAg 2 Y (i+1) (⟨by omega,λj y hj hy=>by rcases Nat.lt_succ_iff_lt_or_eq.1 hj with q|rfl;exact g2 j y q hy;exact Option.some.inj (hx.symm.trans hy)▸h2⟩) Xd)
 ·refine gO 2 Y (zeq 8 Y ?_)
  exact fin_vE (w':=.int .i64 (-1)) Qx rfl (.pur rfl) rfl ⟨_,rfl,λ⟨x,hx,q⟩=>by
   obtain⟨j,hj⟩:=List.getElem?_of_mem hx;exact absurd q (g2 j x (by have:=vsq hj;omega) hj),λh=>absurd h Xn⟩
theorem cntx_s(xs:List Tx)(f:Bool)(F:FuncId)(P:Tx->Prop) [DecidablePred P](hF:∀x∈xs,PS cfg G F [txW x] (.bool (decide (P x))))(hF0:cfg.ext F=none)(hn:xs.length<=1000000000) [Decidable (∃x∈xs,P x)]:PS cfg G 170 [.fz (xs.map txW) 99 f,.fn F [] []] (.bool (decide (∃x∈xs,P x))):=by
 refine gI 9 Y (λR k0=>?_);refine gE 0 Y (ixtx_s xs f F P hF hF0 hn) ?_;rintro w hw ⟨i,rfl,hi⟩;refine gU 0 Y ?_;exact gQ 4 Y (by rw[decide_eq_decide.2 hi])
theorem cbody1_s(x:Tx)(hx:x.ok):PS cfg glK 168 [txW x] (.bool (decide (x.sign≠kXq x))):=by
 by_cases h:x.sign=kXq x
 ·skip
  exact gI 9 Y (λR k0=>gC 0 Y (zOq (w':=.int .i64 0) (txcheck_s x hx) (by rw[if_pos h])) (gFa 0 Y (gQ 4 Y (z9q λq=>q h))))
 ·skip
  exact gI 9 Y (λR k0=>gC 0 Y (zOq (w':=.int .i64 110) (txcheck_s x hx) (by rw[if_neg h])) (gTa 0 Y (gQ 4 Y (dec_t h))))
theorem max_w(a b:Nat):W.int .i64 (match ltI (a:Int) (b:Int) with|true=>(b:Int)|false=>(a:Int))=W.int .i64 ((max a b:Nat):Int):=by
 congr 1
 by_cases h:(a:Int)<(b:Int)
 ·rw[ltI_iff.2 h,Nat.max_eq_right Xd]
 ·rw[ltI_not.2 h,Nat.max_eq_left Xd]
theorem cbody_s(ds:List Depo)(xs:List Tx)(f g:Bool)(hx:∀x∈xs,x.ok)(hd:ds.length<=140737488351232)(hn:xs.length<=140737488351232):PS cfg glK 83 [bodW ds xs f g] (.bool (decide (BodyM ds xs))):=by
 have e1:(ds.map pdW).length=ds.length:=List.length_map _;have e2:(xs.map txW).length=xs.length:=List.length_map _;by_cases hm:ds.length<=16/\xs.length<=16
 ·have hc:=cntx_s (G:=glK) xs g 168 (λx=>x.sign≠kXq x) (λx h=>cbody1_s x (hx x h)) rfl Xd;by_cases hs:∃x∈xs,x.sign≠kXq x
  ·exact gI 15 Y (λR k0=>gZ 0 Y e1 (gZ 2 Y e2 (gV (w':=.int .i64 ((max ds.length xs.length:Nat):Int)) 0 Y (max_w _ _) (gT 0 Y (congrArg not (ltI_not.2 Xd)) (gC 4 Y (zOq (w':=.bool true) (hc) (by rw[decide_eq_true (hs)])) (gQ 6 Y (z9q λq=>by obtain⟨x,h1,h2⟩:=hs;exact h2 (q.2.2 x h1))))))))
  ·exact gI 15 Y (λR k0=>gZ 0 Y e1 (gZ 2 Y e2 (gV (w':=.int .i64 ((max ds.length xs.length:Nat):Int)) 0 Y (max_w _ _) (gT 0 Y (congrArg not (ltI_not.2 Xd)) (gC 4 Y (zOq (w':=.bool false) (hc) (by rw[decide_eq_false (hs)])) (gQ 6 Y (dec_t ⟨hm.1,hm.2,λx h=>Classical.not_not.1 λq=>hs ⟨x,h,q⟩⟩)))))))
 ·exact gI 15 Y (λR k0=>gZ 0 Y e1 (gZ 2 Y e2 (gV (w':=.int .i64 ((max ds.length xs.length:Nat):Int)) 0 Y (max_w _ _) (gF 0 Y (congrArg not (ltI_iff.2 Xd)) (gQ 11 Y (z9q λq=>hm ⟨q.1,q.2.1⟩))))))
noncomputable def bodyN:W:=.agg 2 [.nils,.nils]
noncomputable def lkZ:W:=.agg 102 [hdW hdZ,.int .i64 0,bodyN,.nils]
@[simp] theorem lkZ_pur:purW lkZ=true:=by simp[lkZ,bodyN,purW,purL]
noncomputable def lkA(l:List Lk)(i:Nat):W:=match l[i]? with
 |some x=>lkG x
 |none=>lkZ
noncomputable def prevW(l:List Lk):Nat->W
 |0=>lkZ
 |i+1=>lkA l i
@[simp] theorem lkA_pur(l:List Lk)(i:Nat):purW (lkA l i)=true:=by unfold lkA;split<;>simp
@[simp] theorem prev_pur(l:List Lk)(i:Nat):purW (prevW l i)=true:=by cases i<;>simp[prevW]
noncomputable def encL(l:List Lk)(i:Nat):List W:=[lkA l i,prevW l i]
theorem encL_ok(l:List Lk){n:Nat}:∀y∈List.range n,purL (encL l y)=true/\(encL l y).length=2:=λy _=>⟨by simp[encL,purL],rfl⟩
theorem range_at{n i:Nat}(h:i<n):(List.range n)[i]? =some i:=by rw[List.getElem?_range h]
theorem lkA_at{l:List Lk}{i:Nat}{x:Lk}(h:l[i]? =some x):lkA l i=lkG x:=by unfold lkA;rw[h]
theorem ceach_s(l:List Lk)(f:Bool):PS cfg G 80 [.fz (l.map lkG) 102 f] (.fn 167 [] [.fel (.fz (l.map lkG) 102 f)]):=by
 have hp:=xUq l;refine gI 13 Y (λR k0=>?_);refine qlq (fr2:=[(2,_)]) Xt ?_ Y Y
 (repeat (first|exact trivial|refine And.symm ⟨?_,_,rfl,?_⟩))<;>(repeat (first|exact .nil|refine .cons ?_ ?_|refine .fn ?_ ?_|(refine yPq Y ?_ rfl;(first|rfl|(focus (simp;done))))|(refine .sl Y ?_ rfl Xh;(first|rfl|(focus (simp;done))))|(refine .pur ?_;(first|rfl|(focus (simp;done))))|refine .agg ?_|refine .arr ?_|refine .tup ?_))
theorem prev_agg(l:List Lk)(i:Nat):∃a b c d,prevW l i= .agg 102 [a,b,c,d]:=by
 cases i with
 |zero=>exact⟨_,_,_,_,rfl⟩
 |succ i=>
  show∃a b c d,lkA l i=_
  unfold lkA;split<;>exact⟨_,_,_,_,rfl⟩
theorem ceach_it(l:List Lk)(f:Bool)(hb:l.length<=4611686018427387903):qfq cfg G 167 [.fel (.fz (l.map lkG) 102 f)] ((List.range l.length).map (encL l)):=by
 have e:(l.map lkG).length=l.length:=List.length_map _;refine xdq (fn:=Tryz.f167) Y Y Y (Yb rfl) (λL E R hy k0=>?_);refine z1q 8 Y (gZ 0 Y e (zeq 4 Y (co_ent (ent_blkv (b:=0) (w':=lkZ) rfl (.agg (.cons (.agg (.cons (.pur rfl) (.cons z4q (.cons z4q (.cons z4q (.cons (.pur rfl) .nil)))))) (.cons (.pur rfl) (.cons (.pur rfl) (.cons (.pur rfl) .nil)))))) ?_)));refine co_loopR (α:=Nat×Res) (λp=>p.1<=l.length/\Yl cfg G L E (((List.range l.length).drop p.1).map (encL l)) p.2) (λp=>[(8,.int .i64 (p.1:Int))]) [(0,_),(3,_),(6,_),(7,_)] (λp=>[(0,155,prevW l p.1)]) (λp=>p.2) (λp=>l.length-p.1) ((0,R)) ⟨rfl,rfl,rfl,rfl,trivial⟩ (⟨Nat.zero_le _,hy⟩) ⟨rfl,trivial⟩ Y Y (λp hI=>?_);obtain⟨i,R⟩:=p;obtain⟨hi,hy⟩:=hI;simp only at hi hy⊢;refine z1q 6 Y ?_;refine gS 0 Y (λh1=>?_) (λh1=>?_)
 ·have hi':i<l.length:=by omega
  obtain⟨x,hx⟩:∃x,l[i]? =some x:=⟨_,List.getElem?_eq_getElem hi'⟩
  rw[xnq (range_at hi'),List.map_cons] at hy;have ex:=lkA_at hx;obtain⟨a,b,c,d,hp⟩:=prev_agg l i;have hv:purW (.agg 102 [a,b,c,d])=true:=hp▸prev_pur l i
  rw[show encL l i=[lkG x,.agg 102 [a,b,c,d]] by unfold encL;rw[ex,hp]] at hy;rw[hp];refine gP 6 Y (zrq (i:=i) Y Y Y Y Y Y Y (zoq lkG hx)) ?_;refine gSo 11 Y (qMq Y Y Y (hy) (λb R1 hb=>?_));refine gS 3 Y (λh2=>?_) (λh2=>?_)
  ·cases b with
   |true=>cases h2
   |false=>
    exact yvq 4 Y (y7q Xh (zYq 1 Y (j0q Qx rfl hb)))
  ·cases b with
   |false=>exact absurd rfl h2
   |true=>
    refine yvq 9 Y (gA 0 Y (i+1) (zeq 2 Y ?_));rw[show lkG x=prevW l (i+1) from ex.symm];exact Y7q ((i+1,R1)) (⟨hi',hb⟩) Ya (Nat.zero_le _) ⟨rfl,trivial⟩ ⟨rfl,rfl,rfl,rfl,trivial⟩ Xg Xg Xd Xi Yd rfl
 ·refine zeq 2 Y (y7q Xh (zYq 1 Y ?_));obtain rfl:i=l.length:=by omega
  rw[List.drop_of_length_le Xj] at hy;exact j0q (.inl rfl) rfl hy
structure OkC(c:Ch):Prop where
 body:∀x∈c.links,BodOk x.ds x.xs
 nodes:c.tree.nodes.length<=4611686018427387903
 len:c.links.length<=4611686018427387903
 recs:∀x∈c.links,x.rs.length<=4611686018427387903
theorem prev_hd(l:List Lk)(i:Nat):∃h r b s,prevW l i= .agg 102 [hdW h,r,b,s]/\(purL [hdW h,r,b,s]=true)/\∀z,0<i->l[i-1]? =some z->h=z.hdr:=by
 cases i with
 |zero=>exact⟨hdZ,_,_,_,rfl,prev_pur l 0,λz h=>absurd h Xn⟩
 |succ i=>
  cases hz:l[i]? with
  |none=>exact⟨hdZ,_,_,_,by show lkA l i=_;unfold lkA;rw[hz];rfl,lkZ_pur,λz _ h=>by rw[Nat.add_sub_cancel,hz] at h;cases h⟩
  |some x=>exact⟨x.hdr,_,_,_,by show lkA l i=_;unfold lkA;rw[hz];rfl,lkG_pur x,λz _ h=>by rw[Nat.add_sub_cancel,hz] at h;cases h;rfl⟩
theorem vWq(c:Ch)(hc:OkC c):PS cfg glK 19 [chG c] (.int .i64 (if MayC c then 0 else 8)):=by
 have e:(c.links.map lkG).length=c.links.length:=List.length_map _;have hl:=hc.len;refine gI 11 Y (λR k0=>?_);refine gZ 0 Y e ?_;refine gD 0 Y (λh1=>?_) (λh1=>?_)
 ·have hno:¬MayC c:=λq=>by have:=q.one;omega
  exact gQ 31 Y Yf
 obtain⟨z,hz⟩:∃z,c.links[c.links.length-1]? =some z:=⟨_,List.getElem?_eq_getElem Xd⟩
 refine gZ 3 Y e ?_;refine gD 0 Y (λh2=>?_) (λh2=>?_)
 ·have hno:¬MayC c:=λq=>by have:=q.len;omega
  exact gQ 26 Y Yf
 refine gZ 9 Y e ?_;refine gA 0 Y (c.links.length-1) ?_;refine gP 0 Y (zrq (i:=c.links.length-1) Y Y Y Y Y Y Y (zoq lkG hz)) ?_;refine gU 2 Y ?_;refine gS 3 Y (λh3=>?_) (λh3=>?_)
 ·have hno:¬MayC c:=λq=>h3 (q.root z hz)
  exact gQ 7 Y Yf
 refine gC 13 Y (ceach_s _ _) ?_;refine zeq 3 Y ?_;refine co_rangeG (encL c.links) (List.range c.links.length) (λi (a:Nat)=>a=i/\∀j x,j<i->c.links[j]? =some x->LkM c j x) (λa=>[(2,3,.int .i64 (a:Int)),(1,34,.int .i64 0),(0,27,chG c)]) (λ_=>R) (0) rfl Xk (ceach_it c.links false hc.len) (encL_ok c.links) (⟨rfl,λj x h=>by omega⟩) Y Y (λi a y hy hI=>?_) (λa hI=>?_)
 ·obtain⟨rfl,hI⟩:=hI;have hi:a<c.links.length:=by have:=vsq hy;simpa using this
  obtain rfl:a=y:=by rw[range_at hi] at hy;exact Option.some.inj hy
  obtain⟨x,hx⟩:∃x,c.links[a]? =some x:=⟨_,List.getElem?_eq_getElem hi⟩
  obtain⟨ph,pr,pb,ps,hp,hpu,hph⟩:=prev_hd c.links a;have hpu:purW (.agg 102 [hdW ph,pr,pb,ps])=true:=hpu;rw[show encL c.links a=[lkG x,.agg 102 [hdW ph,pr,pb,ps]] by unfold encL;rw[lkA_at hx,hp]];have hB:=hc.body x (List.mem_of_getElem? hx);have er:(x.rs.map rcW).length=x.rs.length:=List.length_map _;refine z1q 10 Y ?_;refine Z9q ?_;refine z1q 15 Y ?_;refine gD 0 Y (λh4=>?_) (λh4=>?_)
  ·have hno:¬MayC c:=λq=>h4 (q.link a x hx).height
   refine zeq 50 Y ?_;refine joq Xh ?_;refine zYq 2 Y ?_;exact gQ 0 Y Yf
  refine gC 2 Y (uxq x.hdr) ?_;refine gD 0 Y (λh5=>?_) (λh5=>?_)
  ·have hno:¬MayC c:=λq=>h5 (by rw[if_pos (q.link a x hx).hdr])
   refine zeq 46 Y ?_;refine joq Xh ?_;refine zYq 2 Y ?_;exact gQ 0 Y Yf
  have hok:okH x.hdr:=Classical.byContradiction λq=>h5 (by rw[if_neg q];decide)
  refine gD 3 Y (λh6=>?_) (λh6=>?_)
  ·refine gC 4 Y (hfollows_d x.hdr ph) ?_;refine gB 0 Y (λh7=>?_) (λh7=>?_)
   ·have hF:0<a->∀w,c.links[a-1]? =some w->FolB x.hdr w.hdr:=λh0 w hw=>hph w h0 hw▸h7
    refine gZ 6 Y er ?_;refine gD 2 Y (λh8=>?_) (λh8=>?_)
    ·have hno:¬MayC c:=λq=>h8 (q.link a x hx).recs
     refine zeq 27 Y ?_;refine joq Xh ?_;refine zYq 2 Y ?_;exact gQ 0 Y Yf
    refine gC 4 Y (cbody_s x.ds x.xs false false hB.tx hB.dl hB.xl) ?_;refine gB 0 Y (λh9=>?_) (λh9=>?_)
    ·refine gC 7 Y (ver_s c.tree x.root) ?_;refine gC 0 Y (xHq (verT c x.root) hc.nodes) ?_;refine gU 0 Y ?_;refine gS 3 Y (λh10=>?_) (λh10=>?_)
     ·have hno:¬MayC c:=λq=>h10 (by rw[if_pos (q.link a x hx).tree])
      refine zeq 8 Y ?_;refine joq Xh ?_;refine zYq 2 Y ?_;exact gQ 0 Y Yf
     ·have hA:MayA (verT c x.root):=Classical.byContradiction λq=>h10 (by rw[if_neg q];decide)
      have hx2:LkM c a x:=⟨by omega,hok,λw h0 hw=>hF h0 w hw,by omega,h9,hA⟩;refine gWr 4 Y ?_;refine zeq 3 Y ?_;exact q_roundK (a+1) (⟨rfl,λj w hj hw=>by rcases Nat.lt_succ_iff_lt_or_eq.1 hj with q|rfl;exact hI j w q hw;exact Option.some.inj (hx.symm.trans hw)▸hx2⟩) Xd Xi Yd rfl
    ·have hno:¬MayC c:=λq=>h9 (q.link a x hx).body
     refine zeq 22 Y ?_;refine joq Xh ?_;refine zYq 2 Y ?_;exact gQ 0 Y Yf
   ·have hno:¬MayC c:=λq=>by
     obtain⟨w,hw⟩:∃w,c.links[a-1]? =some w:=⟨_,List.getElem?_eq_getElem Xd⟩
     exact h7 (hph w Xd hw▸(q.link a x hx).fol w Xd hw)
    refine zeq 37 Y ?_;refine joq Xh ?_;refine zYq 2 Y ?_;exact gQ 0 Y Yf
  ·have hF:0<a->∀w,c.links[a-1]? =some w->FolB x.hdr w.hdr:=λh0=>absurd h0 Xd
   refine gZ 11 Y er ?_;refine gD 2 Y (λh7=>?_) (λh7=>?_)
   ·have hno:¬MayC c:=λq=>h7 (q.link a x hx).recs
    refine zeq 27 Y ?_;refine joq Xh ?_;refine zYq 2 Y ?_;exact gQ 0 Y Yf
   refine gC 4 Y (cbody_s x.ds x.xs false false hB.tx hB.dl hB.xl) ?_;refine gB 0 Y (λh8=>?_) (λh8=>?_)
   ·refine gC 7 Y (ver_s c.tree x.root) ?_;refine gC 0 Y (xHq (verT c x.root) hc.nodes) ?_;refine gU 0 Y ?_;refine gS 3 Y (λh9=>?_) (λh9=>?_)
    ·have hno:¬MayC c:=λq=>h9 (by rw[if_pos (q.link a x hx).tree])
     refine zeq 8 Y ?_;refine joq Xh ?_;refine zYq 2 Y ?_;exact gQ 0 Y Yf
    ·have hA:MayA (verT c x.root):=Classical.byContradiction λq=>h9 (by rw[if_neg q];decide)
     have hx2:LkM c a x:=⟨by omega,hok,λw h0 hw=>hF h0 w hw,by omega,h8,hA⟩;refine gWr 4 Y ?_;refine zeq 3 Y ?_;exact q_roundK (a+1) (⟨rfl,λj w hj hw=>by rcases Nat.lt_succ_iff_lt_or_eq.1 hj with q|rfl;exact hI j w q hw;exact Option.some.inj (hx.symm.trans hw)▸hx2⟩) Xd Xi Yd rfl
   ·have hno:¬MayC c:=λq=>h8 (q.link a x hx).body
    refine zeq 22 Y ?_;refine joq Xh ?_;refine zYq 2 Y ?_;exact gQ 0 Y Yf
 ·obtain⟨rfl,hI⟩:=hI;have yes:MayC c:=⟨by omega,by omega,λw hw=>by cases hz.symm.trans hw;omega,λj w hw=>hI j w (by have:=vsq hw;simpa using this) hw⟩;refine zYq 8 Y ?_;exact gQ 0 Y Qp
end
theorem fit_rc{w:W}(h:Fit (.st 34 [.int .u8,.arr 32 1 (.int .u8),.int .i64]) w):∃r:RcI,w=rcW r/\True:=by
 obtain⟨l,rfl,w1,l1,rfl,h1,w2,l2,rfl,h2,w3,l3,rfl,h3,rfl⟩:=h;obtain⟨k,rfl,_⟩:=fit_u8 h1;obtain⟨d,rfl⟩:=fit_dig h2;obtain⟨c,rfl,_⟩:=fit_i64 h3;exact⟨⟨k,d,c⟩,rfl,trivial⟩
theorem fit_link{w:W}(h:Fit (.st 102 [.st 98 [.int .i64,.arr 32 1 (.int .u8),.arr 32 1 (.int .u8),.arr 32 1 (.int .u8),.int .i64],.int .i64,.st 2 [.sl 34 48 (.st 34 [.int .u64,.arr 32 1 (.int .u8),.int .u64]),.sl 99 120 (.st 99 [.arr 32 1 (.int .u8),.arr 32 1 (.int .u8),.int .u64,.int .u64,.int .u64,.arr 32 1 (.int .u8)])],.sl 34 48 (.st 34 [.int .u8,.arr 32 1 (.int .u8),.int .i64])]) w):∃x:Lk,w=lkG x/\BodOk x.ds x.xs/\x.rs.length<=4611686018427387903:=by
 obtain⟨l,rfl,w1,l1,rfl,h1,w2,l2,rfl,h2,w3,l3,rfl,h3,w4,l4,rfl,h4,rfl⟩:=h;obtain⟨p,rfl,_⟩:=fit_hdr h1;obtain⟨r,rfl,_⟩:=fit_i64 h2;obtain⟨ds,xs,rfl,hB⟩:=fit_body h3;obtain⟨rs,rfl,hl,_⟩:=fit_sl h4 λx hx=>fit_rc hx
 exact⟨⟨p,r,ds,xs,rs⟩,rfl,hB,by show rs.length<=_;omega⟩
theorem fit_chain{w:W}(h:Fit (.st 3 [.st 2 [.sl 36 80 (.st 36 [.bool,.arr 32 1 (.int .u8),.sl 1 1 (.int .u8),.int .i64,.int .i64]),.int .i64],.sl 102 192 (.st 102 [.st 98 [.int .i64,.arr 32 1 (.int .u8),.arr 32 1 (.int .u8),.arr 32 1 (.int .u8),.int .i64],.int .i64,.st 2 [.sl 34 48 (.st 34 [.int .u64,.arr 32 1 (.int .u8),.int .u64]),.sl 99 120 (.st 99 [.arr 32 1 (.int .u8),.arr 32 1 (.int .u8),.int .u64,.int .u64,.int .u64,.arr 32 1 (.int .u8)])],.sl 34 48 (.st 34 [.int .u8,.arr 32 1 (.int .u8),.int .i64])])]) w):∃c:Ch,w=chG c/\OkC c:=by
 obtain⟨l,rfl,w1,l1,rfl,h1,w2,l2,rfl,h2,rfl⟩:=h;obtain⟨t,rfl,ht,_⟩:=fit_tree h1;obtain⟨ls,rfl,hl,hx⟩:=fit_sl h2 λx hx=>fit_link hx
 exact⟨⟨t,ls⟩,rfl,λx h=>(hx x h).1,by show t.nodes.length<=_;omega,by show ls.length<=_;omega,λx h=>(hx x h).2⟩
theorem fit_view{w:W}(h:Fit (.st 6 [.int .i64,.bool,.int .i64,.st 3 [.st 2 [.sl 36 80 (.st 36 [.bool,.arr 32 1 (.int .u8),.sl 1 1 (.int .u8),.int .i64,.int .i64]),.int .i64],.sl 102 192 (.st 102 [.st 98 [.int .i64,.arr 32 1 (.int .u8),.arr 32 1 (.int .u8),.arr 32 1 (.int .u8),.int .i64],.int .i64,.st 2 [.sl 34 48 (.st 34 [.int .u64,.arr 32 1 (.int .u8),.int .u64]),.sl 99 120 (.st 99 [.arr 32 1 (.int .u8),.arr 32 1 (.int .u8),.int .u64,.int .u64,.int .u64,.arr 32 1 (.int .u8)])],.sl 34 48 (.st 34 [.int .u8,.arr 32 1 (.int .u8),.int .i64])])]]) w):∃v:Vw,w=vwG v/\OkC v.ch/\(-9223372036854775808<=v.number/\v.number<=9223372036854775807)/\(-9223372036854775808<=v.final/\v.final<=9223372036854775807):=by
 obtain⟨l,rfl,w1,l1,rfl,h1,w2,l2,rfl,h2,w3,l3,rfl,h3,w4,l4,rfl,h4,rfl⟩:=h;obtain⟨n,rfl,hn⟩:=fit_i64 h1;obtain⟨b,rfl⟩:=fit_bool h2;obtain⟨f,rfl,hf⟩:=fit_i64 h3;obtain⟨c,rfl,hc⟩:=fit_chain h4;exact⟨⟨n,b,f,c⟩,rfl,hc,hn,hf⟩
theorem p32:(4294967296:Nat)=2^32:=by decide
noncomputable def fz{α:Type}(n:Nat)(c:Nat->α):α:=Nat.rec (c 0) (λm _=>c (Nat.succ m)) n
structure S8.Ok(s:S8):Prop where
 a:s.a<4294967296
 b:s.b<4294967296
 c:s.c<4294967296
 d:s.d<4294967296
 e:s.e<4294967296
 f:s.f<4294967296
 g:s.g<4294967296
 h:s.h<4294967296
theorem xMq(a b:Nat):addN a b<4294967296:=Nat.mod_lt _ Xn
theorem rnd_ok{s:S8}(h:s.Ok)(k w:Nat):(roundN k w s).Ok:=⟨xMq _ _,h.a,h.b,h.c,xMq _ _,h.e,h.f,h.g⟩
noncomputable def wS(bs:Nat->Nat)(i:Nat):Nat:=(yfq bs (i+1)).getD i 0
theorem rounds_ok{s:S8}(h:s.Ok)(ws:List Nat):∀t,(k9q ws s t).Ok
 |0=>h
 |t+1=>rnd_ok (rounds_ok h ws t) _ _
theorem word_eq{b0 b1 b2 b3:Nat}(h0:b0<256)(h1:b1<256)(h2:b2<256)(h3:b3<256):wordN b0 b1 b2 b3=Nat.lor (Nat.lor (Nat.lor (Nat.shiftLeft b0 24) (Nat.shiftLeft b1 16)) (Nat.shiftLeft b2 8)) b3:=by
 have s:∀b n,b<256->n<=24->Nat.shiftLeft b n<4294967296:=λb n hb hn=>by
  show b<<<n<4294967296;rw[Nat.shiftLeft_eq];have:2^n<=2^24:=Nat.pow_le_pow_right Xn hn;have:=Nat.mul_le_mul (show b<=255 by omega) this;omega
 have e:∀b n,b<256->n<=24->shlN (b%4294967296) n=Nat.shiftLeft b n:=λb n hb hn=>by
  unfold shlN;rw[Nat.min_eq_left Xd,Nat.mod_eq_of_lt (show b<4294967296 by omega),Nat.mod_eq_of_lt (s b n hb hn)]
 have o:∀a b,a<4294967296->b<4294967296->orN a b=Nat.lor a b:=λa b ha hb=>by
  unfold orN;rw[Nat.mod_eq_of_lt ha,Nat.mod_eq_of_lt hb]
 have ol:∀a b,a<4294967296->b<4294967296->Nat.lor a b<4294967296:=λa b ha hb=>by
  rw[p32] at*
  exact Nat.or_lt_two_pow ha hb
 unfold wordN;rw[e b0 24 h0 Xn,e b1 16 h1 Xn,e b2 8 h2 Xn,Nat.mod_eq_of_lt (show b3<4294967296 by omega)];rw[o _ _ (s b0 24 h0 Xn) (s b1 16 h1 Xn),o _ _ (ol _ _ (s b0 24 h0 Xn) (s b1 16 h1 Xn)) (s b2 8 h2 Xn),o _ _ (ol _ _ (ol _ _ (s b0 24 h0 Xn) (s b1 16 h1 Xn)) (s b2 8 h2 Xn)) Xd]
noncomputable def small(l:List Nat):Prop:=∀b∈l,b<256
theorem small_at{l:List Nat}(h:small l)(i:Nat):atL l i<256:=by
 unfold atL;rw[List.getD_eq_getElem?_getD];cases hq:l[i]? with
 |none=>show(0:Nat)<256;decide
 |some b=>exact h b (List.mem_of_getElem? hq)
theorem block_ok(s:S8)(bs:Nat->Nat):(q4q bs s).Ok:=⟨xMq _ _,xMq _ _,xMq _ _,xMq _ _,xMq _ _,xMq _ _,xMq _ _,xMq _ _⟩
theorem pad_eq:∀(n:Nat) (r:List Nat),(120-r.length%64)%64<=n->padZ n r=r++List.replicate ((120-r.length%64)%64) 0
 |0,r,h=>by
  rw[Nat.le_zero.1 h];simp[padZ]
 |n+1,r,h=>by
  unfold padZ;cases hb:Nat.beq (r.length%64) 56 with
  |true=>
   have:=Nat.eq_of_beq_eq_true hb;rw[this];simp
  |false=>
   have hne:r.length%64≠56:=λe=>by rw[e] at hb;cases hb
   show padZ n (r++[0])=_;have hl:(r++[0]).length=r.length+1:=by simp
   rw[pad_eq n (r++[0]) (by rw[hl];omega),hl,List.append_assoc];have:(120-r.length%64)%64=(120-(r.length+1)%64)%64+1:=by omega
   rw[this];rfl
section
attribute [local irreducible] CoW OpW FlW Step Spec
variable {G:Nat->Option W}
noncomputable def rotT(x n:Nat):Nat:=orN (shrN x n) (shlN x (32-n))
theorem rotT_eq{x n:Nat}(hn:n<=32):rotT x n=rotN x n:=by
 unfold rotT rotN orN shrN shlN;rw[Nat.min_eq_left hn,Nat.min_eq_left (Nat.sub_le _ _)];exact Nat.or_comm _ _
theorem qAq(n:Nat)(hn:n=2\/n=6\/n=7\/n=11\/n=13\/n=17\/n=18\/n=19\/n=22\/n=25)(x:Nat):PS cfg G 362 [wd x,wd n] (wd (rotN x n)):=by
 have key:∀h,qgq cfg 20 362 [.int .u32 (.ofNat x),.int .u32 (.ofNat n)] h=some (.int .u32 (.ofNat (rotT x n)),h):=by
  intro h;rcases hn with rfl|rfl|rfl|rfl|rfl|rfl|rfl|rfl|rfl|rfl<;>kernel_rfl
 have e:rotT x n=rotN x n:=rotT_eq Xd;rw[e] at key;refine xBq (spec_run key (λΓ us h=>?_) (λΓ=>RV_int.2 rfl)) λw hp nw h=>h.1
 obtain⟨v,vs,rfl,h1,h2⟩:=RVL_cons.1 h;obtain⟨v',vs',rfl,h3,h4⟩:=RVL_cons.1 h2;rw[RVL_nil.1 h4,RV_int.1 h1,RV_int.1 h3]
theorem sub_not{e:Nat}(he:e<4294967296):4294967295-e=notN e:=by
 unfold notN;rw[Nat.mod_eq_of_lt he];have h:=BitVec.toNat_not (x:=BitVec.ofNat 32 e);rw[<-BitVec.allOnes_xor] at h;simp only[BitVec.toNat_xor,BitVec.toNat_allOnes,BitVec.toNat_ofNat] at h;rw[Nat.mod_eq_of_lt (show e<2^32 from he)] at h;exact h.symm
theorem wrap_not{e:Nat}(he:e<4294967296):W.int .u32 (juq .u32 ((4294967295:Int) -Int.ofNat e))=wd (notN e):=by
 rw[<-sub_not he]
 have:(4294967295:Int) -Int.ofNat e=((4294967295-e:Nat):Int):=by
  show(4294967295:Int) -(e:Int)=_;omega
 rw[this];show W.int .u32 (((4294967295-e)%4294967296:Nat):Int)=W.int .u32 ((4294967295-e:Nat):Int);rw[Nat.mod_eq_of_lt Xd]
theorem rround_s(v:S8)(hv:v.Ok)(k w:Nat):PS cfg G 351 [.arr 8 1 v.l,wd k,wd w] (.arr 8 1 (roundN k w v).l):=by
 refine gI 8 Y (λR k0=>?_);refine gX 0 Y ?_;refine gX 1 Y ?_;refine gX 1 Y ?_;refine gX 1 Y ?_;refine gX 1 Y ?_;refine gX 1 Y ?_;refine gX 1 Y ?_;refine gX 1 Y ?_;refine gC 15 Y (qAq _ Xj _) ?_;refine gC 1 Y (qAq _ Xj _) ?_;refine gC 2 Y (qAq _ Xj _) ?_;refine gV (w':=wd (notN v.e)) 6 Y (wrap_not hv.e) ?_;refine gC 14 Y (qAq _ Xj _) ?_;refine gC 1 Y (qAq _ Xj _) ?_;refine gC 2 Y (qAq _ Xj _) ?_;exact gQa 35 Y
theorem words_s:PS cfg G 349 [] (.arr 64 1 (kW.map wd)):=by
 exact gI 12 Y (λR k0=>gQa 0 Y)
noncomputable def horn(bs:Nat->Nat)(t:Nat):Nat->Nat
 |0=>0
 |i+1=>addN (256*horn bs t i%4294967296) (bs (4*t+i))
theorem horn_word{bs:Nat->Nat}(hb:∀i,bs i<256)(t:Nat):horn bs t 4=wordN (bs (4*t)) (bs (4*t+1)) (bs (4*t+2)) (bs (4*t+3)):=by
 have h0:=hb (4*t);have h1:=hb (4*t+1);have h2:=hb (4*t+2);have h3:=hb (4*t+3);rw[word_eq h0 h1 h2 h3];have e1:=Nat.shiftLeft_add_eq_or_of_lt (i:=8) (b:=bs (4*t+1)) Xd (bs (4*t));have s:∀a i:Nat,Nat.shiftLeft a i=a*2^i:=λa i=>Nat.shiftLeft_eq a i
 have o1:Nat.lor (Nat.shiftLeft (bs (4*t)) 24) (Nat.shiftLeft (bs (4*t+1)) 16)=bs (4*t)*16777216+bs (4*t+1)*65536:=by
  have:=Nat.shiftLeft_add_eq_or_of_lt (i:=24) (b:=bs (4*t+1)*65536) Xd (bs (4*t));rw[Nat.shiftLeft_eq] at this;rw[s (bs (4*t+1)) 16];show bs (4*t)<<<24|||(bs (4*t+1)*2^16)=_
  rw[Nat.shiftLeft_eq];exact this.symm
 have o2:Nat.lor (bs (4*t)*16777216+bs (4*t+1)*65536) (Nat.shiftLeft (bs (4*t+2)) 8)=bs (4*t)*16777216+bs (4*t+1)*65536+bs (4*t+2)*256:=by
  have q:bs (4*t)*16777216+bs (4*t+1)*65536=(bs (4*t)*256+bs (4*t+1))*65536:=by rw[Nat.add_mul,Nat.mul_assoc]
  have:=Nat.shiftLeft_add_eq_or_of_lt (i:=16) (b:=bs (4*t+2)*256) Xd (bs (4*t)*256+bs (4*t+1));rw[Nat.shiftLeft_eq,show(2:Nat)^16=65536 from rfl] at this;rw[s];show(bs (4*t)*16777216+bs (4*t+1)*65536)|||(bs (4*t+2)*256)=_
  rw[q];exact this.symm
 have o3:Nat.lor (bs (4*t)*16777216+bs (4*t+1)*65536+bs (4*t+2)*256) (bs (4*t+3))=bs (4*t)*16777216+bs (4*t+1)*65536+bs (4*t+2)*256+bs (4*t+3):=by
  have q:bs (4*t)*16777216+bs (4*t+1)*65536+bs (4*t+2)*256=(bs (4*t)*65536+bs (4*t+1)*256+bs (4*t+2))*256:=by rw[Nat.add_mul,Nat.add_mul,Nat.mul_assoc,Nat.mul_assoc]
  have:=Nat.shiftLeft_add_eq_or_of_lt (i:=8) (b:=bs (4*t+3)) Xd (bs (4*t)*65536+bs (4*t+1)*256+bs (4*t+2));rw[Nat.shiftLeft_eq,show(2:Nat)^8=256 from rfl] at this;show(bs (4*t)*16777216+bs (4*t+1)*65536+bs (4*t+2)*256)|||bs (4*t+3)=_
  rw[q];exact this.symm
 rw[o1,o2,o3];simp only[horn,addN];rw[show 4*t+0=4*t from rfl];omega
noncomputable def bsL(l:List UInt8):Nat->Nat:=atL (l.map UInt8.toNat)
theorem bsL_lt(l:List UInt8)(i:Nat):bsL l i<256:=small_at (λb hb=>by obtain⟨c,_,rfl⟩:=List.mem_map.1 hb;exact c.toNat_lt) i
theorem bsL_at{l:List UInt8}{i:Nat}(h:i<l.length):(zbq l)[i]? =some (.int .u8 ((bsL l i:Nat):Int)):=by
 unfold zbq bsL atL;rw[List.getElem?_map,List.getElem?_eq_getElem h];simp[List.getD,List.getElem?_eq_getElem h]
theorem pad0_snoc{L:List Nat}{n:Nat}(h:L.length<n):pad0 (L++[0]) n=pad0 L n:=by
 unfold pad0;rw[show n-L.length=(n-(L++[0]).length)+1 by simp;omega,List.replicate_succ,List.append_assoc];rfl
theorem pad0_last{L:List Nat}{n x:Nat}(h:L.length<n):((pad0 (L++[x]) n).map wd)[L.length]? =some (wd x):=by
 rw[pad0_at Xj];simp[List.getD]
theorem pad0_turn{L:List Nat}{n x y:Nat}(h:L.length<n):((pad0 (L++[x]) n).map wd).set L.length (wd y)=(pad0 (L++[y]) n).map wd:=by
 rw[<-List.map_set];congr 1
 unfold pad0;rw[show(L++[x]).length=(L++[y]).length by simp,List.append_assoc,List.append_assoc,List.set_append_right _ _ (Nat.le_refl _),Nat.sub_self];rfl
noncomputable def schH(L:List Nat):HpW:=[(1,459,.arr 64 1 ((pad0 L 64).map wd)),(0,459,.arr 64 1 (List.replicate 64 (wd 0)))]
theorem sched_s(l:List UInt8)(f:Bool)(hl:l.length=64):PS cfg G 350 [.fz (zbq l) 1 f] (.arr 64 1 ((yfq (bsL l) 64).map wd)):=by
 obtain⟨bs,eb⟩:∃bs,bsL l=bs:=⟨_,rfl⟩
 have hb:∀i,bs i<256:=λi=>by rw[<-eb];exact bsL_lt l i
 have hat:∀i,i<64->(zbq l)[i]? =some (.int .u8 ((bs i:Nat):Int)):=λi hi=>by rw[<-eb];exact bsL_at Xd
 rw[eb];refine gI 17 Y (λR k0=>?_);refine qeq (α:=Nat) (λt=>t<=16) (λt=>[(4,.int .i64 (t:Int))]) [(0,_),(2,_),(3,_)] (λt=>schH (yfq bs t)) (λt=>16-t) (0) ⟨rfl,rfl,rfl,trivial⟩ (Nat.zero_le _) ⟨rfl,trivial⟩ (rfl) (λt hI=>?_);have hsl:=k8q bs t;refine z1q 7 Y ?_;refine gS 0 Y (λh1=>?_) (λh1=>?_)
 ·have ht:t<16:=by omega
  refine zeq 10 Y ?_;refine qeq (α:=Nat) (λi=>i<=4) (λi=>[(5,.int .i64 (i:Int))]) [(0,_),(2,_),(3,_),(4,_),(9,_),(10,_)] (λi=>schH (yfq bs t++[horn bs t i])) (λi=>4-i) (0) ⟨rfl,rfl,rfl,rfl,rfl,rfl,trivial⟩ (Nat.zero_le _) ⟨rfl,trivial⟩ (by show schH (yfq bs t)=schH (yfq bs t++[0]);unfold schH;rw[pad0_snoc Xd]) (λi hI=>?_);have hc:=hb (4*t+i);have hL:((pad0 (yfq bs t++[horn bs t i]) 64).map wd)[0+t*1]? =some (wd (horn bs t i)):=by have:=pad0_last (L:=yfq bs t) (n:=64) (x:=horn bs t i) Xd;rw[hsl] at this;rw[Nat.zero_add,Nat.mul_one];exact this
  refine z1q 7 Y ?_;refine gS 0 Y (λh2=>?_) (λh2=>?_)
  ·have hi:i<4:=by omega
   have hset:((pad0 (yfq bs t++[horn bs t i]) 64).map wd).set (0+t*1) (wd (horn bs t (i+1)))=(pad0 (yfq bs t++[horn bs t (i+1)]) 64).map wd:=by have:=pad0_turn (L:=yfq bs t) (n:=64) (x:=horn bs t i) (y:=horn bs t (i+1)) Xd;rw[hsl] at this;rw[Nat.zero_add,Nat.mul_one];exact this
   refine gP 7 Y (zHq (i:=t) Y Y Y Y Y Y Xd) (gM 0 Y (yMq Y Y Y (yDq hL rfl)) (gV (w':=wd (256*horn bs t i%4294967296)) 0 Y Y (gA 2 Y (4*t) (gA 1 Y (4*t+i) (gP 0 Y (zrq (i:=4*t+i) Y Y Y Y Y Y Y (hat _ Xd)) (gA 1 Y (bs (4*t+i)) (gV (w':=wd (horn bs t (i+1))) 0 Y Y (gP 0 Y (zHq (i:=t) Y Y Y Y Y Y Xd) (gM 0 Y (jgq Y Y Y Y Y (qcq hL Y Y) rfl) (gA 5 Y (i+1) (zeq 2 Y ?_)))))))))));skip
   exact qTq (i+1) hi Xd ⟨rfl,trivial⟩ ⟨rfl,rfl,rfl,rfl,rfl,rfl,trivial⟩ Qb
  ·have hi:i=4:=by omega
   subst hi
   have hnx:yfq bs (t+1)=yfq bs t++[horn bs t 4]:=by
    rw[horn_word hb];show yfq bs t++[xbq bs (yfq bs t)]=_;unfold xbq;rw[hsl,show Nat.blt t 16=true from Nat.ble_eq_true_of_le ht]
   refine zeq 2 Y (y7q Xh (zYq 5 Y (gA 0 Y (t+1) (zeq 2 Y ?_))));skip
   exact qTq (t+1) ht Xd ⟨rfl,trivial⟩ ⟨rfl,rfl,rfl,trivial⟩ (by rw[hnx])
 ·have ht:t=16:=by omega
  subst ht;refine zeq 2 Y (y7q Xh (zYq 9 Y ?_));refine qeq (α:=Nat) (λu=>16<=u/\u<=64) (λu=>[(6,.int .i64 (u:Int))]) [(2,_),(3,_)] (λu=>schH (yfq bs u)) (λu=>64-u) (16) ⟨rfl,rfl,trivial⟩ (Qw) ⟨rfl,trivial⟩ (rfl) (λu hI=>?_);obtain⟨g1,g2⟩:=hI;have hsu:=k8q bs u;refine z1q 7 Y ?_;refine gS 0 Y (λh2=>?_) (λh2=>?_)
  ·have hu:u<64:=by omega
   obtain⟨L,eL⟩:∃L,yfq bs u=L:=⟨_,rfl⟩
   rw[eL] at hsu⊢;have hat2:∀i,i<u->((pad0 L 64).map wd)[0+i*1]? =some (wd (L.getD i 0)):=λi hi=>by rw[Nat.zero_add,Nat.mul_one];exact pad0_at Xd
   have hge:((pad0 L 64).map wd)[0+u*1]? =some (wd 0):=by have:=pad0_ge (l:=L) (n:=64) Xd;rw[hsu] at this;rw[Nat.zero_add,Nat.mul_one];exact this
   have hnx:xbq bs L=addN (addN (addN (L.getD (u-16) 0) (xorN (xorN (rotN (L.getD (u-15) 0) 7) (rotN (L.getD (u-15) 0) 18)) (shrN (L.getD (u-15) 0) 3))) (L.getD (u-7) 0)) (xorN (xorN (rotN (L.getD (u-2) 0) 17) (rotN (L.getD (u-2) 0) 19)) (shrN (L.getD (u-2) 0) 10)):=by
    have hbl:Nat.blt u 16=false:=by
     cases hq:Nat.blt u 16 with
     |false=>rfl
     |true=>have:=Yb hq;omega
    unfold xbq;rw[hsu,hbl]
   have hset:((pad0 L 64).map wd).set (0+u*1) (wd (xbq bs L))=(pad0 (yfq bs (u+1)) 64).map wd:=by
    have:=pad0_set (l:=L) (n:=64) (x:=xbq bs L) Xd;rw[hsu] at this;rw[Nat.zero_add,Nat.mul_one,this];show _=(pad0 (yfq bs u++[xbq bs (yfq bs u)]) 64).map wd;rw[eL]
   refine gA 7 Y (u-15) (gP 0 Y (zHq (i:=u-15) Y Y Y Y Y Y Xd) (gM 0 Y (yMq Y Y Y (yDq (hat2 (u-15) Xd) rfl)) (gA 1 Y (u-2) (gP 0 Y (zHq (i:=u-2) Y Y Y Y Y Y Xd) (gM 0 Y (yMq Y Y Y (yDq (hat2 (u-2) Xd) rfl)) (gA 7 Y (u-16) (gP 0 Y (zHq (i:=u-16) Y Y Y Y Y Y Xd) (gM 0 Y (yMq Y Y Y (yDq (hat2 (u-16) Xd) rfl)) (gC 1 Y (qAq _ Xj _) (gC 1 Y (qAq _ Xj _) (gA 6 Y (u-7) (gP 0 Y (zHq (i:=u-7) Y Y Y Y Y Y Xd) (gM 0 Y (yMq Y Y Y (yDq (hat2 (u-7) Xd) rfl)) (gC 2 Y (qAq _ Xj _) (gC 1 Y (qAq _ Xj _) (gV (w':=wd (xbq bs L)) 4 Y (by rw[hnx];rfl) (gP 0 Y (zHq (i:=u) Y Y Y Y Y Y Xd) (gM 0 Y (jgq Y Y Y Y Y (qcq hge Y Y) rfl) (gA 5 Y (u+1) (zeq 2 Y ?_))))))))))))))))))));skip
   exact qTq (u+1) ⟨by omega,hu⟩ Xd ⟨rfl,trivial⟩ ⟨rfl,rfl,trivial⟩ Qb
  ·have hu:u=64:=by omega
   subst hu;refine zeq 2 Y (y7q Xh (zYq 9 Y ?_));have ep:pad0 (yfq bs 64) 64=yfq bs 64:=by unfold pad0;rw[hsu];simp
   exact gQ 0 Y (by rw[ep])
theorem half_pow(x:Nat){j:Nat}(h1:1<=j)(h2:j<=7):x/2^(7-j)/2=x/2^(7-(j-1)):=by
 rw[Nat.div_div_eq_div_mul,<-Nat.pow_succ,show(7-j).succ=7-(j-1) by omega]
theorem rat_s(k:Dig)(i:Nat)(h:i<256):PS cfg G 261 [dW k,.int .i64 (i:Int)] (.int .u8 (bitN k i:Nat)):=by
 have hk:=xWq k (i/8);refine gI 9 Y (λR k0=>gA 0 Y (i/8) (e:=(jVq i 8)) (gP 0 Y (zHq (i:=i/8) Y Y Y Y Y Y Xd) (gM 0 Y (yMq Y Y Y (dW_ld k Xd)) ?_)));refine gLo (α:=Nat×Nat) 10 (λp=>p.1<=7/\i%8<=p.1/\p.2=kn k (i/8)/2^(7-p.1)/\p.2<=255) (λp=>[(6,.int .i64 (p.1:Int)),(5,.int .u8 (p.2:Nat))]) [1,4] (λp=>p.1) ((7,kn k (i/8))) rfl (⟨Nat.le_refl _,by show i%8<=7;omega,by simp,hk⟩) (λp hI=>?_);obtain⟨j,c⟩:=p;obtain⟨g1,g2,g3,g4⟩:=hI;simp only at g1 g2 g3 g4⊢;refine gV 5 Y (congrArg (W.int .i64) (kuq i 8)) ?_;refine gS 3 Y (λh1=>?_) (λh1=>?_)
 ·have hj:i%8<j:=by omega
  exact gA 6 Y (c/2) (e:=(jVq c 2)) (gA 6 Y (j-1) (gAg 2 Y ((j-1,c/2)) (⟨by simp only;omega,by simp only;omega,by simp only[g3];exact half_pow _ Xd g1,by simp only;omega⟩) Ya))
 ·have hj:i%8=j:=by omega
  refine gO 2 Y (gV (w':=.int .u8 ((c%2:Nat):Int)) 5 Y (congrArg (W.int .u8) (kuq c 2)) (gQ 4 Y ?_));rw[g3,<-hj];unfold bitN;rfl
theorem rshared_s(a b:Dig):PS cfg G 331 [dW a,dW b] (.int .i64 (ykq a b:Nat)):=by
 refine gI 14 Y (λR k0=>?_);refine gLo (α:=Nat) 0 (λn=>n<=256/\∀j,j<n->bitN a j=bitN b j) (λn=>[(5,.int .i64 (n:Int))]) [2,3,4] (λn=>256-n) (0) rfl (⟨Nat.zero_le _,λj h=>by omega⟩) (λn hI=>?_);obtain⟨g1,g2⟩:=hI;refine gD 4 Y (λh1=>?_) (λh1=>?_)
 ·have hn:n<256:=by omega
  refine gC 3 Y (rat_s _ _ Xd) (gC 2 Y (rat_s _ _ Xd) (gU 0 Y ?_));refine gS 3 Y (λh2=>?_) (λh2=>?_)
  ·exact gA 5 Y (n+1) (gAg 3 Y (n+1) (⟨hn,λj hj=>by rcases Nat.lt_succ_iff_lt_or_eq.1 hj with q|rfl;exact g2 j q;omega⟩) Xd)
  ·refine gO 2 Y (gQ 9 Y ?_);rw[xNq (keq a b) (t:=n) ⟨g2,.inr ⟨hn,by omega⟩⟩]
 ·have hn:n=256:=by omega
  refine gO 14 Y (gQ 9 Y ?_);rw[xNq (keq a b) (t:=n) ⟨g2,.inl hn⟩]
theorem xor_sub:∀x,x<256->∀e,e<8->x/2^e%2=1->2^e<=x/\x^^^2^e=x-2^e:=by decide+kernel
theorem xor_add:∀x,x<256->∀e,e<8->¬x/2^e%2=1->x+2^e<256/\x^^^2^e=x+2^e:=by decide+kernel
theorem rturn_in(k:Dig)(i:Nat)(h:i<256):PS cfg G 333 [dW k,.int .i64 (i:Int)] (.tup [dW (qsq k i),.int .i64 0]):=by
 have hk:=xWq k (i/8);refine gI 11 Y (λR k0=>?_);refine gD 0 Y (λh1=>?_) (λh1=>?_)
 ·exfalso;omega
 refine gU 2 Y ?_;refine gS 3 Y (λh2=>?_) (λh2=>?_)
 ·exfalso;omega
 refine gLo (α:=Nat×Nat) 14 (λp=>p.1<=7/\i%8<=p.1/\p.2=2^(7-p.1)) (λp=>[(7,.int .i64 (p.1:Int)),(6,.int .u8 (p.2:Nat))]) [1,2,4,5] (λp=>p.1) ((7,1)) rfl (⟨Nat.le_refl _,by show i%8<=7;omega,rfl⟩) (λp hI=>?_);obtain⟨j,c⟩:=p;obtain⟨g1,g2,g3⟩:=hI;simp only at g1 g2 g3⊢;refine gV 5 Y (congrArg (W.int .i64) (kuq i 8)) ?_;refine gS 3 Y (λh3=>?_) (λh3=>?_)
 ·have hj:i%8<j:=by omega
  have hc:2*c<=255:=by
   have:=pow_le (j-1);rw[show 7-(j-1)=7-j+1 by omega,Nat.pow_succ] at this;omega
  exact gA 6 Y (2*c) (gA 6 Y (j-1) (gAg 2 Y ((j-1,2*c)) (⟨by simp only;omega,by simp only;omega,by simp only[g3];rw[show 7-(j-1)=7-j+1 by omega,Nat.pow_succ,Nat.mul_comm]⟩) Ya))
 ·have hj:i%8=j:=by omega
  subst hj;refine gO 2 Y (gC 7 Y (rat_s _ _ Xd) ?_);refine gS 3 Y (λh4=>?_) (λh4=>?_)
  ·have hb:kn k (i/8)/2^(7-i%8)%2=1:=by
    have h4:((bitN k i:Nat):Int)=1:=h4;unfold bitN at h4;omega
   obtain⟨q1,q2⟩:=xor_sub _ Xd _ Xd hb;refine gA 2 Y (i/8) (e:=(jVq i 8)) (gP 0 Y (zHq (i:=i/8) Y Y Y Y Y Y Xd) (gM 0 Y (yMq Y Y Y (dW_ld k Xd)) (gA 1 Y (kn k (i/8) -c) (gP 0 Y (zHq (i:=i/8) Y Y Y Y Y Y Xd) (gM 0 Y (jgq Y Y Y Y Y (qcq (i:=0+i/8*1) Ql Y Y) rfl) (gQ 10 Y ?_))))));rw[Nat.zero_add,Nat.mul_one,dW_set k (i/8) Xd,g3,<-q2];unfold qsq;rfl
  ·have hb:¬kn k (i/8)/2^(7-i%8)%2=1:=by
    have h4:¬((bitN k i:Nat):Int)=1:=h4;unfold bitN at h4;omega
   obtain⟨q1,q2⟩:=xor_add _ Xd _ Xd hb;refine gA 2 Y (i/8) (e:=(jVq i 8)) (gP 0 Y (zHq (i:=i/8) Y Y Y Y Y Y Xd) (gM 0 Y (yMq Y Y Y (dW_ld k Xd)) (gA 1 Y (kn k (i/8)+c) (gP 0 Y (zHq (i:=i/8) Y Y Y Y Y Y Xd) (gM 0 Y (jgq Y Y Y Y Y (qcq (i:=0+i/8*1) Ql Y Y) rfl) (gQ 10 Y ?_))))));rw[Nat.zero_add,Nat.mul_one,dW_set k (i/8) Xd,g3,<-q2];unfold qsq;rfl
theorem rvalue_s(l:List UInt8)(f:Bool):PS cfg G 275 [.fz (zbq l) 1 f] (.bool (valB l)):=by
 have e:=zdq l;refine gI 8 Y (λR k0=>gV (w':=.int .i64 (l.length:Int)) 0 Y Xw ?_);refine gD 0 Y (λh1=>?_) (λh1=>?_)
 ·have h0:0<l.length:=by omega
  refine gV (w':=.int .i64 (l.length:Int)) 2 Y Xw (gU 0 Y (gQ 5 Y ?_));unfold valB;rw[decide_eq_true h0,Bool.true_and];exact congrArg W.bool (decide_eq_decide.2 Xd)
 ·have h0:¬0<l.length:=by omega
  refine gQ 9 Y ?_;unfold valB;rw[decide_eq_false h0,Bool.false_and]
theorem YZq(l:List UInt8)(f:Bool)(hl:l.length<=70368744177664):PS cfg G 165 [.fz (zbq l) 1 f] (bW l):=by
 refine ps_inV (fn:=Tryz.f165) Y Y Y (Yb rfl) (λR k0=>?_);cases l with
 |nil=>
  skip
  refine z1q 14 Y (gM 0 Y (ytq Y Y (vYq Y Y Y Y Y)) (zeq 4 Y (y0q Xt Y ?_)))
  (repeat (first|exact .nil|refine .cons ?_ ?_|exact z4q|exact .nilfz|refine .fn ?_ ?_|(refine yPq Y ?_ rfl;(first|rfl|(focus (simp;done))))|(refine .sl Y ?_ rfl Xh;(first|rfl|(focus (simp;done))))|(refine .pur ?_;(first|rfl|(focus (simp;done))))|(refine .fzw ?_;(first|rfl|(focus (simp;done))))|refine .agg ?_|refine .arr ?_|refine .tup ?_))
 |cons c l=>
  simp only[List.length_cons] at hl;exact z1q 14 Y (gM 0 Y (ytq Y Y (xqq (news:=zbq (c::l)) (k:=ti5) Y Y Y Y Y Qg (by show(zbq (c::l)).length*1<=_;rw[zdq];simp only[List.length_cons];omega) (by rw[zdq];simp only[List.length_cons];omega))) (zeq 4 Y (y0q Xt Y (view_sl Xn rfl Xj))))
@[simp] theorem psW_drop(ps:List Pr)(i:Nat):purL ((ps.map pW).drop i)=true:=by rw[<-List.map_drop];exact jpq _
@[simp] theorem psW_take(ps:List Pr)(i:Nat):purL ((ps.map pW).take i)=true:=by rw[<-List.map_take];exact jpq _
def idxP(ps:List Pr)(k:Dig):Int:=match ps.findIdx? (λp=>decide (p.1=k)) with
 |some i=>i
 |none=>-1
theorem rfind_s(ps:List Pr)(f:Bool)(k:Dig)(hb:ps.length<=1000000000):PS cfg G 284 [.fz (ps.map pW) 33 f,dW k] (.int .i64 (idxP ps k)):=by
 have e:(ps.map pW).length=ps.length:=List.length_map _;refine gI 13 Y (λR k0=>?_);refine gLo (α:=Nat) 0 (λi=>i<=ps.length/\∀j x,j<i->ps[j]? =some x->x.1≠k) (λi=>[(5,.int .i64 (i:Int))]) [0,3,4] (λi=>ps.length-i) (0) rfl (⟨Nat.zero_le _,λj x h=>by omega⟩) (λi hI=>?_);obtain⟨g1,g2⟩:=hI;refine gV (w':=.int .i64 (ps.length:Int)) 5 Y Xw ?_;refine gS 3 Y (λh1=>?_) (λh1=>?_)
 ·have hi:i<ps.length:=by omega
  obtain⟨x,hx⟩:∃x,ps[i]? =some x:=⟨_,List.getElem?_eq_getElem hi⟩
  refine gP 8 Y (zrq (i:=i) Y Y Y Y Y Y Y (zoq pW hx)) (gUe 3 Y (ysq Y Y Y Y (yBq Y Y Y Y Y Y _ _ 250)) z8q ?_);refine gS 2 Y (λh2=>?_) (λh2=>?_)
  ·refine gO 9 Y (gQ 2 Y ?_)
   have:ps.findIdx? (λp=>decide (p.1=k))=some i:=by
    rw[List.findIdx?_eq_some_iff_getElem];refine⟨hi,?_,λj hj=>?_⟩
    ·have:=(List.getElem?_eq_some_iff.1 hx).2;rw[this];exact decide_eq_true h2
    ·simp only[decide_eq_true_eq];exact g2 j _ hj (List.getElem?_eq_getElem Xd)
   unfold idxP;rw[this]
  ·exact gA 5 Y (i+1) (gAg 2 Y (i+1) (⟨hi,λj y hj hy=>by rcases Nat.lt_succ_iff_lt_or_eq.1 hj with q|rfl;exact g2 j y q hy;have:=Option.some.inj (hx.symm.trans hy);subst this;exact h2⟩) Xd)
 ·refine gO 2 Y (gQ 8 Y ?_)
  have:ps.findIdx? (λp=>decide (p.1=k))=none:=by
   rw[List.findIdx?_eq_none_iff];intro x hx;obtain⟨j,hj⟩:=List.getElem?_of_mem hx;have:=(List.getElem?_eq_some_iff.1 hj).1;exact decide_eq_false (g2 j x Xd hj)
  unfold idxP;rw[this]
theorem rnumber_s(l:List UInt8)(f:Bool)(hl:l.length<=8):PS cfg G 332 [.fz (zbq l) 1 f] (.int .u64 (numB l:Nat)):=by
 have e:=zdq l;refine gI 17 Y (λR k0=>?_);refine gLo (α:=Nat) 0 (λi=>i<=l.length) (λi=>[(4,.int .i64 (i:Int)),(3,.int .u64 (numB (l.take i):Nat))]) [0,2] (λi=>l.length-i) (0) rfl (Nat.zero_le _) (λi hI=>?_);refine gV (w':=.int .i64 (l.length:Int)) 5 Y Xw ?_;refine gS 3 Y (λh1=>?_) (λh1=>?_)
 ·have hi:i<l.length:=by omega
  obtain⟨c,hc⟩:∃c,l[i]? =some c:=⟨_,List.getElem?_eq_getElem hi⟩
  have hcl:=c.toNat_lt;have hn:=vrq (l:=l) (i:=i) Xd;have ht:=numB_take hc
  have hlt:numB (l.take (i+1))<18446744073709551616:=by
   have h1:=numB_lt (l.take (i+1));have h2:256^(l.take (i+1)).length<=256^(i+1):=Nat.pow_le_pow_right Xd Xo;have h3:=pow256_le (i:=i+1) Xd;omega
  exact gA 6 Y (256*numB (l.take i)) (gP 2 Y (zrq (i:=i) Y Y Y Y Y Y Y (koq hc)) (gA 1 Y (c.toNat) (gA 0 Y (numB (l.take (i+1))) (e:=(by rw[ht];omega)) (gA 6 Y (i+1) (gAg 2 Y (i+1) (hi) Xd)))))
 ·have hi:i=l.length:=by omega
  subst hi;rw[List.take_length];exact gO 2 Y (gQa 9 Y)
theorem jFq(n size:Nat)(hn:n<18446744073709551616)(hs8:size<=8):j9q cfg G 287 0 [.int .u64 (n:Int),.int .i64 (size:Int)] [] λw hp nw=>
  w= .tup [.sl 0 0 0 size 1 none,.bool (decide (n/256^size=0))]/\hp=[(0,5,.arr (size*1) 1 (zbq (beB size n)))]/\nw=1:=by
 intro R;refine gIs 9 Y (λk0=>?_);refine gM 0 Y (Qhq (l:=size) (c:=size) Y Y Y Y Y Y Y Y (Nat.le_refl _) (by show 1*size<=_;omega) Xd Y Y) (zeq 7 Y (op_z ((size:Int) -1-((0:Nat):Int)) Y Y Xd Qw (zAq 4 Y ?_)));refine qeq (α:=Nat×Nat) (λp=>p.1<=size/\p.2=n/256^p.1) (λp=>[(7,.int .i64 ((size:Int) -1-(p.1:Int))),(0,.int .u64 (p.2:Nat))]) [(4,_),(5,_),(6,_)] (λp=>[(0,5,.arr (size*1) 1 (zbq (List.replicate (size-p.1) 0++beB p.1 n)))]) (λp=>size-p.1) ((0,n)) ⟨rfl,rfl,rfl,trivial⟩ (⟨Nat.zero_le _,by simp⟩) ⟨rfl,rfl,trivial⟩ (by simp only[be_zero];rfl) (λp hI=>?_);obtain⟨i,q⟩:=p;obtain⟨g1,g2⟩:=hI;simp only at g1 g2⊢;have hlt:q<18446744073709551616:=by rw[g2];exact Nat.lt_of_le_of_lt (Nat.div_le_self _ _) hn
 refine z1q 7 Y ?_;refine gS 0 Y (λh1=>?_) (λh1=>?_)
 ·have hi:i<size:=by omega
  have hq:q/256=n/256^(i+1):=by rw[g2,Nat.div_div_eq_div_mul,<-Nat.pow_succ]
  have hset:=be_set n size i hi;rw[<-g2] at hset;exact gV (w':=.int .i64 ((size-1-i:Nat):Int)) 7 Y Qr (gV (w':=.int .u64 ((q%256:Nat):Int)) 1 Y (congrArg (W.int .u64) (kuq q 256)) (gA 0 Y (q%256) (gP 0 Y (yTq (i:=size-1-i) Y Y Y Y Y Y Y Xd) (gM 0 Y (jgq Y Y Y Y Y (qcq (be_at n size i hi) Y Y) (congrArg (λL=>[(0,5,W.arr (size*1) 1 L)]) hset)) (gA 4 Y (q/256) (e:=(jVq q 256)) (zeq 6 Y (op_z ((size:Int) -1-((i+1:Nat):Int)) Y Y Xd Qw (run_p 2 Y (qTq ((i+1,q/256)) (⟨hi,hq⟩) Ya ⟨rfl,rfl,trivial⟩ ⟨rfl,rfl,rfl,trivial⟩ rfl)))))))))
 ·have hi:i=size:=by omega
  subst hi;refine zeq 2 Y (y7q Xh (zYq 6 Y (gV (w':=.bool (decide (n/256^i=0))) 0 Y (congrArg W.bool (by rw[Bool.eq_iff_iff,eqI_iff,decide_eq_true_iff,<-g2];omega)) (zeq 5 Y ?_))));refine fin Qx Ent.refl rfl ⟨rfl,rfl,?_,rfl⟩;rw[Nat.sub_self];rfl
theorem raread_s(l:List UInt8)(f:Bool):PS cfg G 277 [.fz (zbq l) 1 f] (.tup [aW (qtq l).1,.int .i64 ((qtq l).2:Nat)]):=by
 have e:=zdq l;refine gIv 10 Y (λR k0=>gV (w':=.int .i64 (l.length:Int)) 0 Y Xw ?_);refine gS 3 Y (λh1=>?_) (λh1=>?_)
 ·have q:qtq l=(.zero,10):=by unfold qtq;rw[if_pos Xd]
  rw[q];refine zeq 9 Y (y0q Xt Y ?_)
  (repeat (first|exact .nil|refine .cons ?_ ?_|exact z4q|exact .nilfz|refine .fn ?_ ?_|(refine yPq Y ?_ rfl;(first|rfl|(focus (simp;done))))|(refine .sl Y ?_ rfl Xh;(first|rfl|(focus (simp;done))))|(refine .pur ?_;(first|rfl|(focus (simp;done))))|(refine .fzw ?_;(first|rfl|(focus (simp;done))))|refine .agg ?_|refine .arr ?_|refine .tup ?_))
 refine gV (w':=.int .i64 (l.length:Int)) 6 Y Xw ?_;refine gS 3 Y (λh2=>?_) (λh2=>?_)
 ·have q:qtq l=(.zero,11):=by unfold qtq;rw[if_neg Xd,if_pos Xd]
  rw[q];refine zeq 9 Y (y0q Xt Y ?_)
  (repeat (first|exact .nil|refine .cons ?_ ?_|exact z4q|exact .nilfz|refine .fn ?_ ?_|(refine yPq Y ?_ rfl;(first|rfl|(focus (simp;done))))|(refine .sl Y ?_ rfl Xh;(first|rfl|(focus (simp;done))))|(refine .pur ?_;(first|rfl|(focus (simp;done))))|(refine .fzw ?_;(first|rfl|(focus (simp;done))))|refine .agg ?_|refine .arr ?_|refine .tup ?_))
 have hl:l.length=16:=by omega
 have q:qtq l=if (⟨numB (l.take 8),numB (l.drop 8)⟩:Acct)= .zero then(.zero,8) else(⟨numB (l.take 8),numB (l.drop 8)⟩,0):=by unfold qtq;rw[if_neg Xd,if_neg Xd]
 rw[q];refine gP 5 Y (cut_fz (ys:=zbq (l.take 8)) (l:=0) (h:=8) Y Y Y Y Y Y Y Xd Xd (by rw[List.drop_zero,ZVq]) rfl) (gC 0 Y (rnumber_s _ _ Xo) (gP 1 Y (cut_fz (ys:=zbq (l.drop 8)) (l:=8) (h:=(zbq l).length) Y Y Y Y Y Y Y Xd (Nat.le_refl _) (by rw[List.take_of_length_le Xj,ZWq]) rfl) (gC 0 Y (rnumber_s _ _ Xo) ?_)));refine gD 10 Y (λh3=>?_) (λh3=>?_)
 ·have z1:numB (l.take 8)=0:=by omega
  refine gU 3 Y ?_;refine gS 3 Y (λh4=>?_) (λh4=>?_)
  ·have z2:numB (l.drop 8)=0:=by omega
   rw[if_pos (by rw[z1,z2];rfl)];refine zeq 9 Y (y0q Xt Y ?_)
   (repeat (first|exact .nil|refine .cons ?_ ?_|exact z4q|exact .nilfz|refine .fn ?_ ?_|(refine yPq Y ?_ rfl;(first|rfl|(focus (simp;done))))|(refine .sl Y ?_ rfl Xh;(first|rfl|(focus (simp;done))))|(refine .pur ?_;(first|rfl|(focus (simp;done))))|(refine .fzw ?_;(first|rfl|(focus (simp;done))))|refine .agg ?_|refine .arr ?_|refine .tup ?_))
  ·have z2:¬numB (l.drop 8)=0:=by omega
   rw[if_neg λh=>z2 (by injection h)];refine zeq 10 Y (y0q Xt Y ?_)
   (repeat (first|exact .nil|refine .cons ?_ ?_|exact z4q|exact .nilfz|refine .fn ?_ ?_|(refine yPq Y ?_ rfl;(first|rfl|(focus (simp;done))))|(refine .sl Y ?_ rfl Xh;(first|rfl|(focus (simp;done))))|(refine .pur ?_;(first|rfl|(focus (simp;done))))|(refine .fzw ?_;(first|rfl|(focus (simp;done))))|refine .agg ?_|refine .arr ?_|refine .tup ?_))
 ·have z1:¬numB (l.take 8)=0:=by omega
  rw[if_neg λh=>z1 (by injection h)];refine zeq 18 Y (y0q Xt Y ?_)
  (repeat (first|exact .nil|refine .cons ?_ ?_|exact z4q|exact .nilfz|refine .fn ?_ ?_|(refine yPq Y ?_ rfl;(first|rfl|(focus (simp;done))))|(refine .sl Y ?_ rfl Xh;(first|rfl|(focus (simp;done))))|(refine .pur ?_;(first|rfl|(focus (simp;done))))|(refine .fzw ?_;(first|rfl|(focus (simp;done))))|refine .agg ?_|refine .arr ?_|refine .tup ?_))
def padJ(l:List UInt8)(j:Nat):List UInt8:=l++[128]++List.replicate j 0
theorem uqq(l:List UInt8)(j:Nat):(padJ l j).length=l.length+1+j:=by simp[padJ];omega
theorem padJ_next(l:List UInt8)(j:Nat):zbq (padJ l (j+1))=zbq (padJ l j)++zbq [0]:=by
 rw[<-yKq];congr 1
 unfold padJ;rw[List.append_assoc (l++[128]),<-List.replicate_succ']
noncomputable def padH(l:List UInt8)(j:Nat):HpW:=[(0,5,.arr (padJ l j).length 1 (zbq (padJ l j)))]
def padR(l:List UInt8):List UInt8:=padJ l ((119-l.length%64)%64)++beB 8 (8*l.length)
theorem padded_s(l:List UInt8)(f:Bool)(hl:l.length<2147483648):PS cfg G 348 [.fz (zbq l) 1 f] (bW (padR l)):=by
 have el:(zbq l).length=l.length:=zdq l;refine gIv 14 Y (λR k0=>?_);refine Zjq (λ_=>ZFq (fr2:=[(0,.fz (zbq l) 1 f),(2,.nils),(7,gW 0 1 []),(8,.fz (zbq l) 1 f)]) ⟨rfl,rfl,rfl,rfl,trivial⟩) ?_;refine op_grow (b:=0) (xs:=[]) (news:=zbq l) (k:=ti5) (H0:=[]) [] [(0,.fz (zbq l) 1 f),(2,.nils)] Y Y Y Y Y Y Y Y Y Y Y (by show(0+(zbq l).length)*1<=_;omega) (by show 0+(zbq l).length<=_;omega) rfl Xj Xd Xd ⟨rfl,rfl,trivial⟩ rfl ⟨zkq (show purW (.fz (zbq l) 1 f)=true from yEq l),rfl,trivial⟩ Xj trivial Xj ?_
 refine zAq 7 Y ?_;refine op_grow (b:=0) (xs:=zbq l) (news:=zbq [128]) (k:=ti5) (H0:=[]) [_] [(0,.fz (zbq l) 1 f),(2,.nils)] Y Y Y Y Y Y Y Y Y Y (yQq Y Y Y Y) (by show((zbq l).length+1)*1<=_;omega) (by show(zbq l).length+1<=_;omega) rfl Xj Xd Xd ⟨rfl,rfl,trivial⟩ rfl ⟨zkq (show purW (.fz (zbq l) 1 f)=true from yEq l),rfl,trivial⟩ (by rw[<-yKq];simp) trivial Xj ?_;refine zAq 5 Y ?_;have e0:zbq l++zbq [128]=zbq (padJ l 0):=by rw[<-yKq];congr 1;simp[padJ]
 have hne:zbq (padJ l 0)≠[]:=λh=>by have:=congrArg List.length h;rw[zdq,uqq] at this;simp at this
 have htm:∀n:Nat,((n:Int)).tmod 64=((n%64:Nat):Int):=λn=>by rw[Int.tmod_eq_emod_of_nonneg Xd];omega
 refine qnq (α:=Nat) (λj=>∀i,i<j->(l.length+1+i)%64≠56) (λj=>[(3,.sl 0 0 0 (padJ l j).length 1 none),(0,.fz (zbq l) 1 f),(2,.nils)]) (λj=>padH l j) (λ_=>1) (λ_=>R) (λj=>64-j) 0 (λi hi=>absurd hi Xd) (z7q ⟨by show some (gW 0 1 (zbq l++zbq [128]))=_;rw[e0,vdq hne,zdq],rfl,rfl,trivial⟩ (by show []++gH 0 5 1 (zbq l++zbq [128])=padH l 0;rw[e0,veq hne,zdq,Nat.mul_one];rfl) rfl) (λj hj=>?_);skip
 have hj64:j<64:=by
  refine Nat.lt_of_not_le λh=>?_
  have:=hj ((56+64-(l.length+1)%64)%64) Xd;omega
 have hlj:=uqq l j;refine z1q 4 Y ?_;refine gZ 0 Y hlj ?_;refine gV 0 Y (congrArg (W.int .i64) (htm _)) ?_;refine gS 3 Y (λh1=>?_) (λh1=>?_)
 ·have h1:¬(((l.length+1+j)%64:Nat):Int)=56:=h1;refine gM 6 Y (ytq Y Y (qqq (k:=ti5) (len:=(padJ l j).length) (news:=zbq [0]) (olds:=zbq (padJ l j)) Y Y Y Y (yQq Y Y Y Y) Qg (by show((padJ l j).length+1)*1<=_;omega) (by show(padJ l j).length+1<=_;omega) rfl (by show(padJ l j).length<0+((padJ l j).length+1)*1;omega) rfl (zpq Xn (zdq _).symm (Nat.mul_one _).symm))) ?_;refine zeq 3 Y ?_;have hl2:(padJ l j).length+1=(padJ l (j+1)).length:=by rw[uqq,uqq];omega
  have hp:purW (.fz (zbq l) 1 f)=true:=yEq l;skip
  refine ypq (j+1) (λi hi=>?_) (show 64-(j+1)<64-j by omega) ?_
  ·rcases Nat.lt_succ_iff_lt_or_eq.1 hi with h|rfl
   ·exact hj i h
   ·omega
  ·refine qdq (b:=0) (k:=2) Xd Xd (by show 2<3;omega) ⟨⟨?_,rfl⟩,⟨by rw[zZq hp];rfl,zkq hp⟩,⟨rfl,rfl⟩,trivial⟩ ⟨⟨by show 0<1;omega,?_,zkq (show purW (.arr _ 1 (zbq _))=true from yEq _)⟩,trivial⟩ (by show([0]:List Nat).Nodup;simp)
   ·show some (W.sl 2 0 0 ((padJ l j).length+1) 1 none)=some (W.sl 2 0 0 (padJ l (j+1)).length 1 none);rw[hl2]
   ·show some (5,W.arr (((padJ l j).length+1)*1) 1 (zbq (padJ l j)++zbq [0]))=some (5,renW _ (W.arr (padJ l (j+1)).length 1 (zbq (padJ l (j+1)))));rw[zZq (show purW (.arr _ 1 (zbq _))=true from yEq _),hl2,padJ_next,Nat.mul_one]
 ·have h56:(l.length+1+j)%64=56:=by omega
  obtain rfl:j=(119-l.length%64)%64:=by omega
  generalize hj0:(119-l.length%64)%64=j at*
  refine zeq 2 Y ?_;refine y7q Xh ?_;refine zYq 5 Y ?_;refine gV (w':=.int .i64 (l.length:Int)) 0 Y (by rw[<-el];rfl) ?_;refine gWr 0 Y ?_;refine gA 0 Y (8*l.length) ?_;refine zeq 15 Y ?_;obtain⟨n,en⟩:∃n,n=8*l.length:=⟨_,rfl⟩
  rw[<-en];have hn:n<18446744073709551616:=by omega
  refine qeq (α:=Nat×Nat) (λp=>p.1<=8/\p.2=n/256^p.1) (λp=>[(6,.int .i64 ((7:Int) -(p.1:Int))),(4,.int .u64 (p.2:Nat))]) [(2,_),(3,_),(5,_)] (λp=>(1,473,.arr 8 1 (zbq (List.replicate (8-p.1) 0++beB p.1 n)))::padH l j) (λp=>8-p.1) ((0,n)) ⟨rfl,rfl,rfl,trivial⟩ (⟨Nat.zero_le _,by simp⟩) ⟨rfl,rfl,trivial⟩ (rfl) (λp hI=>?_);obtain⟨i,q⟩:=p;obtain⟨g1,g2⟩:=hI;simp only at g1 g2⊢;have hlt:q<18446744073709551616:=by rw[g2];exact Nat.lt_of_le_of_lt (Nat.div_le_self _ _) hn
  refine z1q 7 Y ?_;refine gS 0 Y (λh2=>?_) (λh2=>?_)
  ·have hi:i<8:=by omega
   have hq:q/256=n/256^(i+1):=by rw[g2,Nat.div_div_eq_div_mul,<-Nat.pow_succ]
   have hset:=be_set n 8 i hi;rw[<-g2] at hset;refine gV (w':=.int .i64 ((8-1-i:Nat):Int)) 6 Y Qr ?_;refine gV (w':=.int .u64 ((q%256:Nat):Int)) 1 Y (congrArg (W.int .u64) (kuq q 256)) ?_;refine gA 0 Y (q%256) ?_;refine gP 0 Y (zHq (i:=8-1-i) Y Y Y Y Y Y Xd) ?_;refine gM 0 Y (jgq Y Y Y Y Y (qcq (be_at n 8 i hi) Y Y) (congrArg (λL=>(1,473,W.arr 8 1 L)::padH l j) hset)) ?_;refine gA 4 Y (q/256) (e:=(jVq q 256)) ?_;refine zeq 6 Y ?_;refine op_z ((7:Int) -((i+1:Nat):Int)) Y Y Xd Qw ?_;refine run_p 2 Y ?_;exact qTq ((i+1,q/256)) (⟨hi,hq⟩) Ya ⟨rfl,rfl,trivial⟩ ⟨rfl,rfl,rfl,trivial⟩ rfl
  ·have hi:i=8:=by omega
   subst hi;have hN:(zbq (beB 8 n)).length=8:=by rw[zdq,qpq]
   refine zeq 2 Y ?_;refine y7q Xh ?_;refine zYq 6 Y ?_;refine gM 0 Y (ytq Y Y (qqq (k:=ti5) (len:=(padJ l j).length) (news:=zbq (beB 8 n)) (olds:=zbq (padJ l j)) Y Y Y Y (yQq Y Y Y (zpq Xn hN.symm rfl)) Ym (by rw[hN];show(_+8)*1<=_;omega) Qi rfl (by rw[hN];show(padJ l j).length<0+(_+8)*1;omega) rfl (zpq Xn (zdq _).symm (Nat.mul_one _).symm))) ?_;refine zeq 4 Y ?_;have er:zbq (padR l)=zbq (padJ l j)++zbq (beB 8 n):=by unfold padR;rw[hj0,<-en,yKq]
   have el2:(padR l).length=(padJ l j).length+(zbq (beB 8 n)).length:=by rw[<-zdq,er,List.length_append,zdq (padJ l j)]
   exact y0q Qx rfl (.sl (full:=false) (c:=.arr (padR l).length 1 (zbq (padR l))) (xs:=zbq (padR l)) (by show some (W.arr (((padJ l j).length+(zbq (beB 8 n)).length)*1) 1 (zbq (padJ l j)++zbq (beB 8 n)))=_;rw[er,el2,Nat.mul_one]) (show purW (.arr _ 1 (zbq _))=true from yEq _) (by rw[<-el2];exact zpq Xn (zdq _).symm (Nat.mul_one _).symm) Xh)
end
theorem next_congr{bs bs':Nat->Nat}(h:∀i,i<64->bs i=bs' i)(L:List Nat):xbq bs L=xbq bs' L:=by
 unfold xbq;cases hq:Nat.blt L.length 16 with
 |false=>rfl
 |true=>
  have hn:L.length<16:=Yb hq;show wordN (bs (4*L.length)) (bs (4*L.length+1)) (bs (4*L.length+2)) (bs (4*L.length+3))=wordN (bs' (4*L.length)) (bs' (4*L.length+1)) (bs' (4*L.length+2)) (bs' (4*L.length+3));rw[h (4*L.length) Xd,h (4*L.length+1) Xd,h (4*L.length+2) Xd,h (4*L.length+3) Xd]
theorem v4q{bs bs':Nat->Nat}(h:∀i,i<64->bs i=bs' i):∀n,yfq bs n=yfq bs' n
 |0=>rfl
 |n+1=>by
  have ih:=v4q h n;show yfq bs n++[xbq bs (yfq bs n)]=yfq bs' n++[xbq bs' (yfq bs' n)];rw[ih,next_congr h]
theorem ZYq{bs bs':Nat->Nat}(h:∀i,i<64->bs i=bs' i)(s:S8):q4q bs s=q4q bs' s:=by
 unfold q4q;rw[v4q h]
theorem atL_app{a b:List Nat}{i:Nat}(h:i<a.length):atL (a++b) i=atL a i:=by
 unfold atL;simp[List.getD,List.getElem?_append_left h]
theorem eats_app:∀(k:Nat) (s:S8) (b t:List Nat),b.length<=k->1<=t.length->qDq (b++t).length s (b++t)=qDq ((eats s b).2++t).length (eats s b).1 ((eats s b).2++t)
 |0,s,b,t,hb,ht=>by
  have e:eats s b=(s,b):=jyq _ _ _ Xd;rw[e]
 |k+1,s,b,t,hb,ht=>by
  by_cases h:b.length<64
  ·have e:eats s b=(s,b):=jyq _ _ _ h;rw[e]
  ·have h64:64<=b.length:=by omega
   have ed:(b++t).drop 64=b.drop 64++t:=List.drop_append_of_le_length h64;rw[ZHq h64,x5q (by rw[List.length_append];omega),ed,ZYq (λi hi=>atL_app Xd) s];exact eats_app k _ (b.drop 64) t (by rw[List.length_drop];omega) ht
theorem eats_mod:∀(k:Nat) (s:S8) (b:List Nat),b.length<=k->(eats s b).2.length=b.length%64
 |0,s,b,hb=>by
  have e:eats s b=(s,b):=jyq _ _ _ Xd;rw[e];show b.length=_;omega
 |k+1,s,b,hb=>by
  by_cases h:b.length<64
  ·have e:eats s b=(s,b):=jyq _ _ _ h;rw[e];show b.length=_;omega
  ·have h64:64<=b.length:=by omega
   rw[ZHq h64,eats_mod k _ _ (by rw[List.length_drop];omega),List.length_drop];omega
theorem be8_len8{n:Nat}(hn:n<2147483648):(beB 8 (8*n)).map UInt8.toNat=len8 n:=by
 have e:∀i,Nat.shiftRight (8*n%18446744073709551616) i%256=8*n/2^i%256:=λi=>by
  have h8:8*n%18446744073709551616=8*n:=Nat.mod_eq_of_lt Xd;rw[h8];show(8*n)>>>i%256=_;rw[Nat.shiftRight_eq_div_pow]
 have t:∀x:Nat,(UInt8.ofNat (x%256)).toNat=x%256:=λx=>by simp
 simp only[beB,len8,List.map_cons,List.map_nil,e,t]
theorem sha_one(l:List UInt8)(hl:l.length<2147483648):shaN [l.map UInt8.toNat]=digN (qDq ((padR l).map UInt8.toNat).length s0 ((padR l).map UInt8.toNat)):=by
 obtain⟨b,eb⟩:∃b,l.map UInt8.toNat=b:=⟨_,rfl⟩
 have el:b.length=l.length:=by rw[<-eb,List.length_map]
 have ht:yXq [b]=l.length:=by show b.length+0=_;omega
 have hm:=eats_mod b.length s0 b (Nat.le_refl _)
 have er:(padR l).map UInt8.toNat=b++([128]++List.replicate ((119-l.length%64)%64) 0++len8 l.length):=by
  unfold padR padJ;rw[List.map_append,List.map_append,List.map_append,be8_len8 hl,eb,List.append_assoc,List.append_assoc];simp[List.map_replicate]
 have ea:([b].foldl xsq (s0,[]))=eats s0 b:=rfl;rw[eb,er,eats_app b.length s0 b _ (Nat.le_refl _) Xj];have hp:=pad_eq 64 ((eats s0 b).2++[128]) Xd
 have hj:(120-((eats s0 b).2++[128]).length%64)%64=(119-l.length%64)%64:=by
  rw[List.length_append,hm,el];simp only[List.length_cons,List.length_nil];omega
 rw[hj] at hp
 have e2:padZ 64 ((eats s0 b).2++[128])++len8 l.length=(eats s0 b).2++([128]++List.replicate ((119-l.length%64)%64) 0++len8 l.length):=by
  rw[hp,List.append_assoc,List.append_assoc,List.append_assoc]
 have eS:shaN [b]=digN (qDq (padZ 64 (([b].foldl xsq (s0,[])).2++[128])++len8 (yXq [b])).length ([b].foldl xsq (s0,[])).1 (padZ 64 (([b].foldl xsq (s0,[])).2++[128])++len8 (yXq [b]))):=rfl;rw[eS,ea,ht,e2]
section
attribute [local irreducible] CoW OpW FlW Step Spec
variable {G:Nat->Option W}
noncomputable def sumH(s:S8):HpW:=[(2,459,.arr 64 1 (kW.map wd)),(1,418,.arr 8 1 s.l),(0,29,jfq)]
noncomputable def sumH2(v:S8)(ws:List Nat)(L:List W):HpW:=[(4,418,.arr 8 1 v.l),(3,459,.arr 64 1 (ws.map wd)),(2,459,.arr 64 1 (kW.map wd)),(1,418,.arr 8 1 L),(0,29,jfq)]
theorem s0_ok:s0.Ok:=⟨by decide,by decide,by decide,by decide,by decide,by decide,by decide,by decide⟩
theorem padR_len(l:List UInt8):(padR l).length%64=0/\(padR l).length<=l.length+72:=by
 unfold padR;rw[List.length_append,uqq,qpq];omega
theorem bsL_blk(M:List UInt8)(i:Nat):∀k,k<64->bsL ((M.drop (64*i)).take 64) k=atL ((M.map UInt8.toNat).drop (64*i)) k:=λk hk=>by
 unfold bsL atL;rw[List.map_take,List.map_drop,List.getD_eq_getElem?_getD,List.getD_eq_getElem?_getD,List.getElem?_take_of_lt hk]
set_option maxHeartbeats 1600000 in
theorem rsum_s(l:List UInt8)(f:Bool)(hl:l.length<2147483648):PS cfg G 321 [.fz (zbq l) 1 f] (dW (shaD [l])):=by
 have hsha:=sha_one l hl;obtain⟨hm,hle⟩:=padR_len l
 have e3:dW (shaD [l])= .arr 32 1 (bN (shaN [l.map UInt8.toNat])):=by
  show W.arr 32 1 (zbq _)=_;rw[<-bytes_of (shaN_lt _)];rfl
 rw[e3,hsha];have hpad:=padded_s (G:=G) l f hl;generalize padR l=M at*
 obtain⟨MN,eMN⟩:∃MN,M.map UInt8.toNat=MN:=⟨_,rfl⟩
 rw[eMN];have hMN:MN.length=M.length:=by rw[<-eMN,List.length_map]
 have eM:(zbq M).length=M.length:=zdq M;refine gI 15 Y (λR k0=>gC 0 Y (hpad) (gC 5 Y (words_s) (zeq 11 Y ?_)));refine qeq (α:=S8×Nat) (λp=>p.1.Ok/\64*p.2<=M.length/\qDq MN.length s0 MN=qDq (MN.drop (64*p.2)).length p.1 (MN.drop (64*p.2))) (λp=>[(6,.int .i64 ((64*p.2:Nat):Int))]) [(2,_),(3,_),(4,_),(5,_)] (λp=>sumH p.1) (λp=>M.length-64*p.2) ((s0,0)) ⟨rfl,rfl,rfl,rfl,trivial⟩ (⟨s0_ok,Nat.zero_le _,rfl⟩) ⟨rfl,trivial⟩ (rfl) (λp hI=>?_);obtain⟨s,i⟩:=p;obtain⟨hs,hi,heat⟩:=hI;simp only at hs hi heat⊢;refine z1q 5 Y (gV (w':=.int .i64 (M.length:Int)) 0 Y (by rw[<-eM];rfl) ?_);refine gS 3 Y (λh1=>?_) (λh1=>?_)
 ·have h1:((64*i:Nat):Int)<(M.length:Int):=h1;have hi2:64*i+64<=M.length:=by omega
  have hblk:((M.drop (64*i)).take 64).length=64:=by rw[List.length_take,List.length_drop];omega
  have ey:((zbq M).drop (64*i)).take (64*i+64-64*i)=zbq ((M.drop (64*i)).take 64):=by
   rw[show 64*i+64-64*i=64 by omega];simp[zbq,List.map_take,List.map_drop]
  obtain⟨ws,ews⟩:∃ws,yfq (bsL ((M.drop (64*i)).take 64)) 64=ws:=⟨_,rfl⟩
  have hws:ws.length=64:=by rw[<-ews];exact k8q _ _
  have hsch:=λg=>sched_s (G:=G) ((M.drop (64*i)).take 64) g hblk
  rw[ews] at hsch;have hW:∀t,t<64->(ws.map wd)[0+t*1]? =some (wd (ws.getD t 0)):=λt ht=>by rw[Nat.zero_add,Nat.mul_one];exact u9q Xd
  have hK:∀t,t<64->(kW.map wd)[0+t*1]? =some (wd (kW.getD t 0)):=λt ht=>by rw[Nat.zero_add,Nat.mul_one];exact u9q (by rw[kW_len];exact ht)
  have hnew:q4q (bsL ((M.drop (64*i)).take 64)) s=q4q (atL (MN.drop (64*i))) s:=by rw[<-eMN];exact ZYq (bsL_blk M i) s
  have hadd:mix8 s (k9q ws s 64) 8=(q4q (atL (MN.drop (64*i))) s).l:=by rw[<-hnew,<-ews];rfl
  refine gA 9 Y (64*i+64) (gP 0 Y (cut_fz (ys:=zbq ((M.drop (64*i)).take 64)) (l:=64*i) (h:=64*i+64) Y Y Y Y Y Y Y Xd Xd ey rfl) (op_ps Y Y Y Y Y Y (hsch _) Xj (show purL (ws.map wd)=true from yZq (λx=>rfl) ws) (zAq 18 Y ?_)));refine qeq (α:=Nat) (λt=>t<=64) (λt=>[(9,.int .i64 (t:Int))]) [(2,_),(3,_),(4,_),(5,_),(6,_),(7,_),(8,_),(18,_),(19,_),(20,_),(21,_),(24,_),(25,_),(26,_),(27,_),(28,_),(29,_),(30,_)] (λt=>sumH2 (k9q ws s t) ws s.l) (λt=>64-t) (0) ⟨rfl,rfl,rfl,rfl,rfl,rfl,rfl,rfl,rfl,rfl,rfl,rfl,rfl,rfl,rfl,rfl,rfl,rfl,trivial⟩ (Nat.zero_le _) ⟨rfl,trivial⟩ (rfl) (λt hI=>?_);refine z1q 7 Y ?_;refine gS 0 Y (λh2=>?_) (λh2=>?_)
  ·have ht:t<64:=by omega
   obtain⟨v,ev⟩:∃v,k9q ws s t=v:=⟨_,rfl⟩
   have hv:v.Ok:=by rw[<-ev];exact rounds_ok hs ws t
   have hKt:=hK t ht;have hWt:=hW t ht;have hnx:k9q ws s (t+1)=roundN (kW.getD t 0) (ws.getD t 0) v:=by rw[<-ev];rfl
   rw[ev];generalize kW.getD t 0=kt at*
   generalize ws.getD t 0=wt at*
   refine gP 7 Y (zHq (i:=t) Y Y Y Y Y Y Xd) (gM 0 Y (yMq Y Y Y (yDq hKt rfl)) (gP 1 Y (zHq (i:=t) Y Y Y Y Y Y Xd) (gM 0 Y (yMq Y Y Y (yDq hWt rfl)) (fl_ps Y Y Y Y Y Y (rround_s v hv kt wt) Y Y Xq (y4q 6 Y (gA 0 Y (t+1) (zeq 2 Y ?_)))))));skip
   exact qTq (t+1) ht Xd ⟨rfl,trivial⟩ Yn (by rw[hnx];rfl)
  ·have ht:t=64:=by omega
   subst ht;obtain⟨v,ev⟩:∃v,k9q ws s 64=v:=⟨_,rfl⟩
   rw[ev] at hadd⊢;refine zeq 2 Y (y7q Xh (zYq 8 Y ?_));refine qeq (α:=Nat) (λj=>j<=8) (λj=>[(10,.int .i64 (j:Int))]) [(2,_),(3,_),(4,_),(5,_),(6,_),(7,_),(8,_),(9,_),(18,_),(19,_),(20,_),(21,_),(24,_),(25,_),(26,_),(27,_),(28,_),(29,_),(30,_),(31,_),(32,_)] (λj=>sumH2 v ws (mix8 s v j)) (λj=>8-j) (0) ⟨rfl,rfl,rfl,rfl,rfl,rfl,rfl,rfl,rfl,rfl,rfl,rfl,rfl,rfl,rfl,rfl,rfl,rfl,rfl,rfl,rfl,trivial⟩ (Nat.zero_le _) ⟨rfl,trivial⟩ (rfl) (λj hI=>?_);refine z1q 7 Y ?_;refine gS 0 Y (λh3=>?_) (λh3=>?_)
   ·have hj:j<8:=by omega
    have hq:j=0\/j=1\/j=2\/j=3\/j=4\/j=5\/j=6\/j=7:=by omega
    have g1:(mix8 s v j)[0+j*1]? =some (wd (s.get j)):=by rcases hq with rfl|rfl|rfl|rfl|rfl|rfl|rfl|rfl<;>rfl
    have g2:v.l[0+j*1]? =some (wd (v.get j)):=S8_at v hj;have g3:(mix8 s v j).set (0+j*1) (wd (addN (s.get j) (v.get j)))=mix8 s v (j+1):=by rcases hq with rfl|rfl|rfl|rfl|rfl|rfl|rfl|rfl<;>rfl
    generalize s.get j=x at*
    generalize v.get j=y at*
    refine gP 6 Y (zHq (i:=j) Y Y Y Y Y Y Xd) (gM 0 Y (yMq Y Y Y (yDq g1 rfl)) (gP 1 Y (zHq (i:=j) Y Y Y Y Y Y Xd) (gM 0 Y (yMq Y Y Y (yDq g2 rfl)) (gV (w':=wd (addN x y)) 0 Y Y (gP 0 Y (zHq (i:=j) Y Y Y Y Y Y Xd) (gM 0 Y (jgq Y Y Y Y Y (qcq g1 Y Y) rfl) (gA 5 Y (j+1) (zeq 2 Y ?_))))))));skip
    exact qTq (j+1) hj Xd ⟨rfl,trivial⟩ Yn (congrArg (λL=>sumH2 v ws L) g3)
   ·have hj:j=8:=by omega
    subst hj;rw[hadd];refine zeq 2 Y (y7q Xh (zYq 5 Y (gA 0 Y (64*i+64) (zeq 2 Y ?_))));skip
    exact q_againH (q4q (atL (MN.drop (64*i))) s,i+1) ⟨block_ok _ _,by simp only;omega,by rw[heat,x5q Xo,List.drop_drop];rfl⟩ Ya (Nat.zero_le _) ⟨rfl,trivial⟩ Yn Xg Xg Xd Xi (by show([2,1,0]:List Nat).Nodup;decide)
 ·have h1:¬((64*i:Nat):Int)<(M.length:Int):=h1;have hend:qDq MN.length s0 MN=s:=by rw[heat,List.drop_of_length_le Xd];rfl
  rw[hend];refine zeq 2 Y (y7q Xh (zYq 14 Y ?_));refine qeq (α:=Nat) (λa=>a<=8) (λa=>[(12,.int .i64 (a:Int))]) [(2,_),(3,_),(11,_)] (λa=>(3,29,.arr 32 1 (bN (dI s (4*a))))::sumH s) (λa=>8-a) (0) ⟨rfl,rfl,rfl,trivial⟩ (Nat.zero_le _) ⟨rfl,trivial⟩ (rfl) (λa hI=>?_);refine z1q 7 Y ?_;refine gS 0 Y (λh2=>?_) (λh2=>?_)
  ·have ha:a<8:=by omega
   refine zeq 10 Y ?_;refine qeq (α:=Nat) (λb=>b<=4) (λb=>[(13,.int .i64 (b:Int))]) [(2,_),(3,_),(11,_),(12,_),(55,_),(56,_)] (λb=>(3,29,.arr 32 1 (bN (dI s (4*a+b))))::sumH s) (λb=>4-b) (0) ⟨rfl,rfl,rfl,rfl,rfl,rfl,trivial⟩ (Nat.zero_le _) ⟨rfl,trivial⟩ (rfl) (λb hI=>?_);refine z1q 7 Y ?_;refine gS 0 Y (λh3=>?_) (λh3=>?_)
   ·have hb:b<4:=by omega
    have hdv:(4*a+b)/4=a:=by omega
    have hmd:(4*a+b)%4=b:=by omega
    have hset:=dI_set s (i:=4*a+b) Xd;rw[hdv,hmd] at hset;refine gA 6 Y (4*a) (gA 1 Y (4*a+b) (gP 1 Y (zHq (i:=a) Y Y Y Y Y Y Xd) (gM 0 Y (yMq Y Y Y (yDq (S8_at s ha) rfl)) (gA 1 Y (8*b) (gA 0 Y (24-8*b) (gA 0 Y (24-8*b) (gV (w':=wd (Nat.shiftRight (s.get a) (min (24-8*b) 32))) 0 Y Y (gV (w':=.int .u8 (.ofNat (Nat.shiftRight (s.get a) (min (24-8*b) 32)%256))) 0 Y Y (gP 0 Y (zHq (i:=4*a+b) Y Y Y Y Y Y Xd) (gM 0 Y (jgq Y Y Y Y Y (qcq (dI_at s Xd) Y Y) rfl) (gA 5 Y (b+1) (zeq 2 Y ?_))))))))))));skip
    exact qTq (b+1) hb Xd ⟨rfl,trivial⟩ Yn (congrArg (λL=>(3,29,W.arr 32 1 L)::sumH s) hset)
   ·have hb:b=4:=by omega
    subst hb;refine zeq 2 Y (y7q Xh (zYq 5 Y (gA 0 Y (a+1) (zeq 2 Y ?_))));skip
    exact qTq (a+1) ha Xd ⟨rfl,trivial⟩ Yn rfl
  ·have ha:a=8:=by omega
   subst ha;refine zeq 2 Y (y7q Xh (zYq 9 Y ?_));have ed:dI s 32=digN s:=by simp[dI,List.take_of_length_le,uHq]
   exact gQ 0 Y (by rw[<-ed])
theorem rtbytes_s(kind:UInt8)(ps:List (List UInt8))(f:Bool)(hn:ps.length<1000000)(hb:∀p∈ps,p.length<1000000):PS cfg G 322 [.int .u8 (.ofNat kind.toNat),.fz (ps.map bW) 1 f] (bW (tagB kind ps)):=by
 have e:(ps.map bW).length=ps.length:=List.length_map _;have htm:∀n:Nat,n<4294967296->((n:Int)).tmod 4294967296=(n:Int):=λn hn=>by rw[Int.tmod_eq_emod_of_nonneg Xd];omega
 refine gIv 19 Y (λR k0=>?_);refine co_loopG1 (α:=Nat) (λi=>i<=ps.length) 5 (λi=>zbq (kind::(ps.take i).flatMap kHq)) 5 1 (λi=>[(6,.int .i64 (i:Int))]) [(1,_),(4,_)] ([]) 0 0 (λi=>ps.length-i) (0) ⟨rfl,rfl,trivial⟩ (Nat.zero_le _) ⟨rfl,trivial⟩ Xd Xd Yj Qg rfl Qg Xg Xg rfl Xk Xi Yd (λi hI=>?_);refine z1q 5 Y (gV (w':=.int .i64 (ps.length:Int)) 0 Y Xw ?_);refine gS 3 Y (λh1=>?_) (λh1=>?_)
 ·have hi:i<ps.length:=by omega
  obtain⟨x,hx⟩:∃x,ps[i]? =some x:=⟨_,List.getElem?_eq_getElem hi⟩
  have hxl:=hb x (List.mem_of_getElem? hx);have hfl:((ps.take i).flatMap kHq).length<=i*1000004:=Qmq i hb;have hL:(zbq (kind::(ps.take i).flatMap kHq)).length<=1+i*1000004:=by rw[zdq,List.length_cons];omega
  have hN:(zbq (beB 4 x.length)).length=4:=by rw[zdq,qpq]
  have hnx:zbq (kind::(ps.take (i+1)).flatMap kHq)=(zbq (kind::(ps.take i).flatMap kHq)++zbq (beB 4 x.length))++zbq x:=by
   rw[List.take_add_one,hx,<-yKq,<-yKq];congr 1
   simp[kHq,Nat.mod_eq_of_lt (show x.length<4294967296 by omega)]
  skip
  cases x with
  |nil=>
   refine yvq 8 Y (gP 0 Y (zrq (i:=i) Y Y Y Y Y Y Y (zoq bW hx)) (gV (w':=.int .i64 (([]:List UInt8).length:Int)) 1 Y (by show W.int .i64 ((zbq (([]:List UInt8))).length:Int)=_;rw[zdq]) (gV (w':=.int .u64 (([]:List UInt8).length:Int)) 1 Y Y ?_)))
   (refine ycq rfl (jYq Y Y Y Y Y Y (jFq ([]:List UInt8).length 4 Xn Xd) ?_);rintro w hp1 nw1 ⟨rfl,rfl,rfl⟩)
   exact zAq 11 Y (gM 0 Y (ytq Y Y (jSq [_] (k:=ti5) (news:=zbq (beB 4 ([]:List UInt8).length)) Y Y Y Y Y (yQq Y Y Y (zpq Xn hN.symm rfl)) Ym Qn Qi rfl (by simp[numC]))) (gP 7 Y (zrq (i:=i) Y Y Y Y Y Y Y (zoq bW hx)) (gM 1 Y (ytq Y Y (kRq (k:=ti5) Y Y Y Y Y)) (gA 6 Y (i+1) (zeq 2 Y (jdq 2 (i+1) (hi) Xd (Nat.zero_le _) (by rw[hnx];exact List.append_nil _) Xv Xd Yj rfl Xy ⟨rfl,trivial⟩ ⟨rfl,rfl,trivial⟩ Xg Xg rfl Xk Xi Yd))))))
  |cons c x=>
   refine yvq 8 Y (gP 0 Y (zrq (i:=i) Y Y Y Y Y Y Y (zoq bW hx)) (gV (w':=.int .i64 ((c::x).length:Int)) 1 Y (by show W.int .i64 ((zbq ((c::x))).length:Int)=_;rw[zdq]) (gA 0 Y ((c::x).length) (gV (w':=.int .u64 ((c::x).length:Int)) 0 Y (congrArg (W.int .u64) (htm _ Xd)) ?_))))
   (refine ycq rfl (jYq Y Y Y Y Y Y (jFq (c::x).length 4 Xd Xd) ?_);rintro w hp1 nw1 ⟨rfl,rfl,rfl⟩)
   exact zAq 11 Y (gM 0 Y (ytq Y Y (jSq [_] (k:=ti5) (news:=zbq (beB 4 (c::x).length)) Y Y Y Y Y (yQq Y Y Y (zpq Xn hN.symm rfl)) Ym Qn Qi rfl (by simp[numC]))) (gP 7 Y (zrq (i:=i) Y Y Y Y Y Y Y (zoq bW hx)) (gM 1 Y (ytq Y Y (qqq (k:=ti5) (len:=(zbq (kind::(ps.take i).flatMap kHq)++zbq (beB 4 (c::x).length)).length) (news:=zbq (c::x)) (olds:=zbq (kind::(ps.take i).flatMap kHq)++zbq (beB 4 (c::x).length)) Y Y Y Y Y Qg (by rw[List.length_append,hN,zdq (c::x)];show(_+_)*1<=_;omega) (by rw[List.length_append,hN,zdq (c::x)];omega) rfl Yz rfl (zpq Xn Y Y))) (gA 6 Y (i+1) (zeq 2 Y (jdq 3 (i+1) (hi) Xd (Nat.zero_le _) (hnx) Xv Xd Yj rfl Xy ⟨rfl,trivial⟩ ⟨rfl,rfl,trivial⟩ Xg Xg rfl Xk Xi Yd))))))
 ·have hi:i=ps.length:=by omega
  subst hi;refine zeq 2 Y (y7q Xh (zYq 9 Y (y0q Xt Y ?_)));rw[List.take_length];exact xIq (H0:=[]) Xn Xj Xj
theorem Y1q(kind:UInt8)(ps:List (List UInt8))(f:Bool)(hn:ps.length<1000)(hb:∀p∈ps,p.length<1000000):PS cfg G 262 [.int .u8 (.ofNat kind.toNat),.fz (ps.map bW) 1 f] (dW (tagD kind ps)):=by
 have hl:=tag_le kind ps hb;exact gI 9 Y (λR k0=>gC 0 Y (rtbytes_s kind ps f Xd hb) (gC 0 Y (rsum_s (tagB kind ps) false Xd) (gQa 4 Y)))
theorem rtone_s(kind:UInt8)(a:List UInt8)(hb:a.length<1000000):PS cfg G 211 [.int .u8 (.ofNat kind.toNat),bW a] (dW (tagD kind [a])):=by
 refine gI 10 Y (λR k0=>?_);refine Ybq Y Y Y Y Y (by(repeat (first|exact .nil|refine .cons ?_ ?_|(refine .sl Y ?_ rfl Xh;first|rfl|(focus (simp;done)))|(refine yPq Y ?_ rfl;first|rfl|(focus (simp;done)))|(refine .pur ?_;first|rfl|(focus (simp;done)))))) (Y1q kind [a] false Xj Xo) Xk Xk ?_;exact zAq 4 Y (gQa 0 Y)
theorem rtnone_s:PS cfg G 184 [] (dW (tagD 0 [])):=by
 exact gI 7 Y (λR k0=>Ybq Y Y Y Y Y (.cons (.pur rfl) (.cons .nilfz .nil)) (Y1q 0 [] false Xj Xj) Xk Xk (zAq 4 Y (gQa 0 Y)))
theorem rtwo_s(kind:UInt8)(a b:List UInt8)(f g:Bool)(ha:a.length<1000000)(hb:b.length<1000000):PS cfg G 260 [.int .u8 (.ofNat kind.toNat),.fz (zbq a) 1 f,.fz (zbq b) 1 g] (dW (tagD kind [a,b])):=by
 exact gI 11 Y (λR k0=>Ybq Y Y Y Y Y (.cons (.pur rfl) (.cons (.sl2 (full:=false) rfl (.arr (.cons (.fzw Xj) (.cons (.fzw Xj) .nil))) rfl Xh) .nil)) (Y1q kind [a,b] false Xj (by simp[ha,hb])) Xk Xk (zAq 4 Y (gQa 0 Y)))
noncomputable def ofH(A B:List Pr):HpW:=([(0,29,jfq)]++gH 1 191 33 (A.map pW))++gH 2 191 33 (B.map pW)
theorem ofH_l(A:List Pr):ofH A []=[(0,29,jfq)]++gH 1 191 33 (A.map pW):=List.append_nil _
theorem rof_s:∀(t:T) (d:Nat) (b:Dig) (f:Bool),Zr d b->t.ok d b=true->kVq t->t.all.length<=1000000->PS cfg G 183 [.fz (t.all.map pW) 33 f,.int .i64 (d:Int)] (dW (sumD t)):=by
 intro t;induction t with
 |nil=>
  intro d b f hz ok hs hl;refine gI 9 Y (λR k0=>?_);refine gL 0 Y ?_;refine gC 6 Y (rtnone_s) ?_;exact gQa 5 Y
 |leaf k v=>
  intro d b f hz ok hs hl;have hv:v.length<1000000:=hs (k,v) (by simp[T.all]);refine gI 9 Y (λR k0=>?_);refine gL 0 Y ?_;refine gL 10 Y ?_;refine gX 7 Y ?_;refine gX 3 Y ?_;refine zeq 2 Y ?_;refine fl_ps Y Y Y Y Y (by show [_,W.fz (((zbq k.1).drop (0/1)).take 32) 1 true,_]=[_,W.fz (zbq k.1) 1 true,_];rw[show 0/1=0 from rfl,List.drop_zero,List.take_of_length_le (by rw[zdq,k.2];omega)];rfl) (rtwo_s 1 k.1 v true false (by simp[k.2]) hv) Xj Xj Xq ?_;refine y4q 5 Y ?_;exact gQa 0 Y
 |fork tl tr ihL ihR=>
  intro d b f hz ok hs hl;obtain⟨hd,okL,okR,two⟩:=ok_fork.1 ok;obtain⟨b0,b1⟩:=ok_bits hz ok;have sL:kVq tl:=λp hp=>hs p Qa
  have sR:kVq tr:=λp hp=>hs p Qa
  have hall:(T.fork tl tr).all=tl.all++tr.all:=by simp[T.all]
  have cL:=ihL (d+1) b false (k0q hz) okL sL (by rw[hall,List.length_append] at hl;omega);have cR:=ihR (d+1) (qsq b d) false (kZq hz hd) okR sR (by rw[hall,List.length_append] at hl;omega);have hn2:2<=tl.all.length+tr.all.length:=two_len okL okR two;rw[hall] at hl⊢;rw[List.length_append] at hl;generalize tl.all=L at*
  generalize tr.all=Q at*
  have e:((L++Q).map pW).length=L.length+Q.length:=by rw[List.length_map,List.length_append]
  have hat:∀i,i<L.length+Q.length->∃x,(L++Q)[i]? =some x:=λi hi=>⟨_,List.getElem?_eq_getElem (by rw[List.length_append];exact hi)⟩
  refine gI 9 Y (λR k0=>?_);refine gZ 0 Y e ?_;refine gF 0 Y (eqI_not.2 Xd) ?_;refine gZ 9 Y e ?_;refine gF 0 Y (eqI_not.2 Xd) ?_;refine zeq 18 Y ?_;have z0:Q.take (0-L.length)=[]:=by rw[Nat.zero_sub];rfl
  refine qnq (α:=Nat) (λi=>i<=L.length+Q.length) (λi=>[(5,gW 1 33 ((L.take i).map pW)),(7,.int .i64 (i:Int)),(6,gW 2 33 ((Q.take (i-L.length)).map pW)),(0,.fz ((L++Q).map pW) 33 f),(1,.int .i64 (d:Int)),(4,.ptr 0 0)]) (λi=>ofH (L.take i) (Q.take (i-L.length))) (λ_=>3) (λ_=>R) (λi=>L.length+Q.length-i) 0 (Nat.zero_le _) ((ZFq (fr2:=[(5,.nils),(7,.int .i64 0),(6,.nils),(0,.fz ((L++Q).map pW) 33 f),(1,.int .i64 (d:Int)),(4,.ptr 0 0)]) ⟨rfl,rfl,rfl,rfl,rfl,rfl,trivial⟩).trans ((ZFq (fr2:=[(5,.nils),(7,.int .i64 0),(6,.nils),(0,.fz ((L++Q).map pW) 33 f),(1,.int .i64 (d:Int)),(4,.ptr 0 0)]) ⟨rfl,rfl,rfl,rfl,rfl,rfl,trivial⟩).trans (z7q ⟨rfl,rfl,by rw[z0];rfl,rfl,rfl,rfl,trivial⟩ (by rw[z0];rfl) rfl))) (λi hI=>?_);skip
  have hI:i<=L.length+Q.length:=hI;refine z1q 5 Y ?_;refine gZ 0 Y e ?_;refine gS 3 Y (λh1=>?_) (λh1=>?_)
  ·have hi:i<L.length+Q.length:=by omega
   obtain⟨x,hx⟩:=hat i hi;skip
   by_cases hc:i<L.length
   ·have hxl:L[i]? =some x:=by rw[List.getElem?_append_left hc] at hx;exact hx
    have hbit:bitN x.1 d=0:=b0 x (List.mem_of_getElem? hxl);have zq:Q.take (i-L.length)=[]:=by rw[show i-L.length=0 by omega];rfl
    have zq':Q.take (i+1-L.length)=[]:=by rw[show i+1-L.length=0 by omega];rfl
    have hL2:(L.take (i+1)).map pW=(L.take i).map pW++[pW x]:=by rw[List.take_add_one,hxl,List.map_append];rfl
    have hlt:((L.take i).map pW).length<=1000000:=by rw[List.length_map,List.length_take];omega
    rw[zq,ofH_l];refine gP 8 Y (zrq (i:=i) Y Y Y Y Y Y Y (zoq pW hx)) ?_;refine gC 3 Y (rat_s x.1 d hd) ?_;refine gT 0 Y (eqI_iff.2 (by rw[hbit];rfl)) ?_;refine gP 7 Y (zrq (i:=i) Y Y Y Y Y Y Y (zoq pW hx)) ?_;refine gM 2 Y (ytq Y Y (jSq [_,_] (k:=ti191) (news:=[pW x]) Y Y Y Y Y (yQq Y Y Y Y) Xj (by show(((L.take i).map pW).length+1)*56<=_;omega) (by show((L.take i).map pW).length+1<=_;omega) rfl Xj)) ?_;refine gA 6 Y (i+1) ?_;refine zeq 2 Y ?_;skip
    refine ypq (i+1) hi Xd ?_;simp only[zq',ofH_l,hL2];exact(qYq (b:=1) (H0:=[(0,29,jfq)]) (l2:=(L.take i).map pW++[pW x]) (n:=((L.take i).map pW++[pW x]).length) (fr2:=[(7,.int .i64 ((i+1:Nat):Int)),(6,.nils),(0,.fz ((L++Q).map pW) 33 f),(1,.int .i64 (d:Int)),(4,.ptr 0 0)]) 4 5 Xd Xd Qk Xj Y Y ⟨rfl,rfl,rfl,rfl,rfl,trivial⟩ ⟨rfl,rfl,zkq (show purW (.fz ((L++Q).map pW) 33 f)=true from jpq _),rfl,rfl,trivial⟩ rfl Xj ⟨⟨by omega,rfl,rfl⟩,trivial⟩ Xj).trans (ZFq ⟨rfl,rfl,rfl,rfl,rfl,rfl,trivial⟩)
   ·have hxq:Q[i-L.length]? =some x:=by rw[List.getElem?_append_right Xd] at hx;exact hx
    have hbit:bitN x.1 d=1:=b1 x (List.mem_of_getElem? hxq);have zl:L.take i=L:=List.take_of_length_le Xd;have zl':L.take (i+1)=L:=List.take_of_length_le Xd;have hQ2:(Q.take (i+1-L.length)).map pW=(Q.take (i-L.length)).map pW++[pW x]:=by rw[show i+1-L.length=(i-L.length)+1 by omega,List.take_add_one,hxq,List.map_append];rfl
    have hlt:((Q.take (i-L.length)).map pW).length<=1000000:=by rw[List.length_map,List.length_take];omega
    have hnm:∀p∈[((0:Nat),29,jfq)]++gH 1 191 33 (L.map pW),p.1<2:=λp hp=>by
     rcases List.mem_append.1 hp with hp|hp
     ·simp only[List.mem_cons,List.not_mem_nil,or_false] at hp;rw[hp];show 0<2;omega
     ·rw[g_names p hp];omega
    rw[zl];refine gP 8 Y (zrq (i:=i) Y Y Y Y Y Y Y (zoq pW hx)) ?_;refine gC 3 Y (rat_s x.1 d hd) ?_;refine gF 0 Y (eqI_not.2 (by rw[hbit];decide)) ?_;refine gP 7 Y (zrq (i:=i) Y Y Y Y Y Y Y (zoq pW hx)) ?_;refine gM 2 Y (ytq Y Y (jSq ((3,_)::([(0,_)]++gH 1 191 33 (L.map pW))) (k:=ti191) (news:=[pW x]) Y Y Y Y Y (yQq Y Y Y Y) Xj (by show(((Q.take (i-L.length)).map pW).length+1)*56<=_;omega) (by show((Q.take (i-L.length)).map pW).length+1<=_;omega) rfl (λp hp=>by rcases List.mem_cons.1 hp with q|q;(rw[q];show¬3=2;omega);have:=hnm p q;omega))) ?_;refine gA 6 Y (i+1) ?_;refine zeq 2 Y ?_;skip
    refine ypq (i+1) hi Xd ?_;simp only[zl',hQ2];exact(qYq (b:=2) (H0:=[(0,29,jfq)]++gH 1 191 33 (L.map pW)) (l2:=(Q.take (i-L.length)).map pW++[pW x]) (n:=((Q.take (i-L.length)).map pW++[pW x]).length) (fr2:=[(5,gW 1 33 (L.map pW)),(7,.int .i64 ((i+1:Nat):Int)),(0,.fz ((L++Q).map pW) 33 f),(1,.int .i64 (d:Int)),(4,.ptr 0 0)]) 4 6 Xd Xd Qk Xj Y Y ⟨rfl,rfl,rfl,rfl,rfl,trivial⟩ ⟨by cases L.map pW<;>rfl,rfl,zkq (show purW (.fz ((L++Q).map pW) 33 f)=true from jpq _),rfl,rfl,trivial⟩ rfl Xj (YSq ⟨⟨by omega,rfl,rfl⟩,trivial⟩ (subH_g Xd Xj (λx r h=>by rw[h];rfl))) (by cases L.map pW<;>simp[gH])).trans (z7q ⟨rfl,rfl,rfl,rfl,rfl,rfl,trivial⟩ (by unfold ofH;rw[hQ2]) rfl)
  ·have hi:i=L.length+Q.length:=by omega
   have zl:L.take i=L:=List.take_of_length_le Xd;have zq:Q.take (i-L.length)=Q:=List.take_of_length_le Xd;rw[zl,zq];refine zeq 2 Y ?_;refine y7q Xh ?_;refine zYq 6 Y ?_;refine gA 0 Y (d+1) ?_;refine Ybq Y Y Y Y Y (.cons (view_g2 (H0:=[(0,29,jfq)]) Xn Xj Xj) (.cons (.pur rfl) .nil)) cL Xj (flat_dW _) ?_;refine zAq 2 Y ?_;refine gA 0 Y (d+1) ?_;refine Ybq Y Y Y Y Y (.cons (xIq (H0:=[(0,29,jfq)]++gH 1 191 33 (L.map pW)) Xn Xj (λp hp=>by rcases List.mem_append.1 hp with q|q;(simp only[List.mem_cons,List.not_mem_nil,or_false] at q;rw[q];show¬0=2;omega);(rw[g_names p q];omega))) (.cons (.pur rfl) .nil)) cR Xj (flat_dW _) ?_;refine zAq 10 Y ?_;refine fl_lk Y Y Y Y Y (.cons (.pur rfl) (.cons (.sl (full:=false) (xs:=zbq (sumD tl).1) rfl Xj (zpq Xn (by simp[zdq,(sumD tl).2]) rfl) Xh) (.cons (.sl (full:=false) (xs:=zbq (sumD tr).1) rfl Xj (zpq Xn (by simp[zdq,(sumD tr).2]) rfl) Xh) .nil))) (rtwo_s 2 (sumD tl).1 (sumD tr).1 false false (by simp[(sumD tl).2]) (by simp[(sumD tr).2])) Xk Xk Xq ?_;refine y4q 4 Y ?_;exact gQa 0 Y
theorem mayp_val(k:Dig)(v:List UInt8):MayP [(k,v)]↔valB v=true:=by
 constructor
 ·intro h;exact(h.2 0 Xj _ rfl).1
 ·intro h;refine⟨by simp,λi hi x hx=>?_⟩;obtain rfl:i=0:=by simpa using hi
  cases hx;exact⟨h,λy h0=>by omega⟩
theorem rone_s(x:Node)(n:Nat)(hn:n<=4611686018427387903):PS cfg G 279 [nW x,.int .i64 (n:Int)] (.bool (decide (oneB x n))):=by
 have e:=zdq x.val
 have yes:∀{b:Bool},x.leaf=true->b=(valB x.val&&decide (x.left=0)&&decide (x.right=0)) ->W.bool b=W.bool (decide (oneB x n)):=λ{b} h1 hb=>by
  rw[hb];congr 1
  rw[Bool.eq_iff_iff];simp only[Bool.and_eq_true,decide_eq_true_eq,oneB,if_pos h1,mayp_val];exact⟨λ⟨⟨a,b⟩,c⟩=>⟨b,c,a⟩,λ⟨b,c,a⟩=>⟨⟨a,b⟩,c⟩⟩
 have no:¬x.leaf=true->¬((0<=x.left/\x.left<=n)/\(0<=x.right/\x.right<=n)/\0<x.left+x.right) ->W.bool false=W.bool (decide (oneB x n)):=λh1 h=>by
  rw[decide_eq_false];rw[oneB,if_neg h1];exact λq=>h ⟨q.1,q.2.1,q.2.2.2.2⟩
 have fork:∀{b:Bool},¬x.leaf=true->0<=x.left->x.left<=n->0<=x.right->x.right<=n->0<x.left+x.right->b=(decide (x.key=yjq)&&decide (x.val=[])) ->W.bool b=W.bool (decide (oneB x n)):=λ{b} h1 q1 q2 q3 q4 q5 hb=>by
  rw[hb];congr 1
  rw[Bool.eq_iff_iff];simp only[Bool.and_eq_true,decide_eq_true_eq,oneB,if_neg h1];exact⟨λ⟨a,c⟩=>⟨⟨q1,q2⟩,⟨q3,q4⟩,a,c,q5⟩,λh=>⟨h.2.2.1,h.2.2.2.1⟩⟩
 refine gI 13 Y (λR k0=>?_);refine gS 0 Y (λh1=>?_) (λh1=>?_)
 ·refine gC 4 Y (rvalue_s _ _) ?_;refine gB 0 Y (λh2=>?_) (λh2=>?_)
  ·refine gD 3 Y (λh3=>?_) (λh3=>?_)
   ·refine gU 4 Y ?_;exact gQ 6 Y Xz
   ·exact gQ 11 Y Xz
  ·exact gQ 15 Y Xz
 ·refine gD 7 Y (λh2=>?_) (λh2=>?_)
  ·exact gQ 37 Y Xz
  ·refine gD 4 Y (λh3=>?_) (λh3=>?_)
   ·exact gQ 32 Y Xz
   ·refine gD 4 Y (λh4=>?_) (λh4=>?_)
    ·exact gQ 27 Y Xz
    ·refine gD 5 Y (λh5=>?_) (λh5=>?_)
     ·exact gQ 21 Y Xz
     ·refine gD 4 Y (λh6=>?_) (λh6=>?_)
      ·refine gU 3 Y ?_;refine gS 4 Y (λh7=>?_) (λh7=>?_)
       ·exact gQ 7 Y Xz
       ·have h2:¬x.left<0:=h2;have h3:¬(n:Int)<x.left:=h3;have h4:¬x.right<0:=h4;have h5:¬(n:Int)<x.right:=h5;refine gV 6 Y jMq ?_;refine gDe 0 Y (ysq Y Y Y Y (yBq Y Y Y Y Y Y _ _ 250)) z8q (λh8=>?_) (λh8=>?_)
        ·refine gV (w':=.int .i64 (x.val.length:Int)) 3 Y Xw ?_;refine gU 0 Y ?_;refine zeq 5 Y ?_;refine fin_eq Qx rfl (fork h1 Xd Xd Xd Xd Xd ?_);rw[decide_eq_true (by assumption:x.key=yjq),Bool.true_and];refine decide_eq_decide.2 ⟨λq=>List.eq_nil_of_length_eq_zero Xd,λq=>by rw[q];rfl⟩
        ·refine zeq 10 Y ?_;refine fin_eq Qx rfl (fork h1 Xd Xd Xd Xd Xd ?_);rw[decide_eq_false (by assumption:¬x.key=yjq),Bool.false_and]
      ·have h2:¬x.left<0:=h2;have h3:¬(n:Int)<x.left:=h3;have h4:¬x.right<0:=h4;have h5:¬(n:Int)<x.right:=h5;refine gV 15 Y jMq ?_;refine gDe 0 Y (ysq Y Y Y Y (yBq Y Y Y Y Y Y _ _ 250)) z8q (λh7=>?_) (λh7=>?_)
       ·refine gV (w':=.int .i64 (x.val.length:Int)) 3 Y Xw ?_;refine gU 0 Y ?_;refine zeq 5 Y ?_;refine fin_eq Qx rfl (fork h1 Xd Xd Xd Xd Xd ?_);rw[decide_eq_true (by assumption:x.key=yjq),Bool.true_and];refine decide_eq_decide.2 ⟨λq=>List.eq_nil_of_length_eq_zero Xd,λq=>by rw[q];rfl⟩
       ·refine zeq 10 Y ?_;refine fin_eq Qx rfl (fork h1 Xd Xd Xd Xd Xd ?_);rw[decide_eq_false (by assumption:¬x.key=yjq),Bool.false_and]
def cntR(t:T)(d:Nat)(b:Dig):Int:=if t.ok d b=true then(match t with|.nil=>0|.leaf _ _=>1|.fork _ _=>2) else-1
theorem cntR_lt(t:T)(d:Nat)(b:Dig):cntR t d b<0↔¬t.ok d b=true:=by
 unfold cntR;split
 ·rename_i h;cases t<;>simp[h]
 ·rename_i h;simp[h]
theorem cntR_ge(t:T)(d:Nat)(b:Dig):0<=cntR t d b↔t.ok d b=true:=by
 have:=cntR_lt t d b;constructor
 ·intro h;refine Classical.byContradiction λq=>?_
  have:=this.2 q;omega
 ·intro h;refine Int.not_lt.1 λq=>this.1 q h
theorem cntR_fork{l r:T}{d:Nat}{b:Dig}(hd:d<256)(h1:¬cntR l (d+1) b<0)(h2:¬cntR r (d+1) (qsq b d)<0):cntR (.fork l r) d b=if cntR l (d+1) b+cntR r (d+1) (qsq b d)<2 then-1 else 2:=by
 have e1:l.ok (d+1) b=true:=(cntR_ge l _ _).1 Xd;have e2:r.ok (d+1) (qsq b d)=true:=(cntR_ge r _ _).1 Xd;have e:(T.fork l r).ok d b=T.two l r:=by simp only[T.ok];rw[decide_eq_true hd,e1,e2];rfl
 unfold cntR;rw[e,e1,e2];cases l<;>cases r<;>simp[T.two,T.isFork,T.non]
theorem cntR_le(t:T)(d:Nat)(b:Dig):cntR t d b<=2:=by
 unfold cntR;split
 ·cases t<;>simp
 ·omega
theorem cntR_no{l r:T}{d:Nat}{b:Dig}(h:¬(T.fork l r).ok d b=true):cntR (.fork l r) d b=-1:=by unfold cntR;rw[if_neg h]
theorem rright_s(t0:Tree)(hb:t0.nodes.length<=4611686018427387903):∀(t:T) (n d:Nat) (b:Dig),Rep t0.nodes n t->d<=256->PS cfg G 280 [tW t0,.int .i64 (n:Int),.int .i64 (d:Int),dW b] (.int .i64 (cntR t d b)):=by
 intro t;induction t with
 |nil=>
  intro n d b hr hd;obtain rfl:n=0:=by cases hr;rfl
  refine gI 14 Y (λR k0=>?_);refine gS 0 Y (λh1=>?_) (λh1=>?_)
  ·exact gQa 7 Y
  ·exfalso;omega
 |leaf k v=>
  intro n d b hr hd;have hle:=hr.le;cases hr with
  |leaf h=>
  rename_i n l r;refine gI 14 Y (λR k0=>?_);refine gS 0 Y (λh1=>?_) (λh1=>?_)
  ·exfalso;omega
  ·refine gA 7 Y (n) ?_;refine gP 0 Y (zrq (i:=n) Y Y Y Y Y Y Y (zoq nW h)) ?_;refine gC 19 Y (rshared_s _ _) ?_;refine gS 4 Y (λh2=>?_) (λh2=>?_)
   ·refine gQ 8 Y ?_;unfold cntR;rw[if_neg];simp only[T.ok,decide_eq_true_eq];have h2:((ykq k b:Nat):Int)<d:=h2;omega
   ·refine gQ 9 Y ?_;unfold cntR;rw[if_pos];simp only[T.ok,decide_eq_true_eq];have h2:¬((ykq k b:Nat):Int)<d:=h2;omega
 |fork tl tr ihL ihR=>
  intro n d b hr hd;have hle:=hr.le;cases hr with
  |fork h hl hr hL hR=>
  rename_i n l r k v;refine gI 14 Y (λR k0=>?_);refine gS 0 Y (λh1=>?_) (λh1=>?_)
  ·exfalso;omega
  ·refine gA 7 Y (n) ?_;refine gP 0 Y (zrq (i:=n) Y Y Y Y Y Y Y (zoq nW h)) ?_;refine gS 22 Y (λh2=>?_) (λh2=>?_)
   ·refine gQ 7 Y ?_;rw[cntR_no λq=>by have:=(ok_fork.1 q).1;omega]
   ·have hd':d<256:=by omega
    refine gC 6 Y (rturn_in _ _ Xd) ?_;refine gA 14 Y (d+1) ?_;refine zeq 1 Y ?_;refine jiq Y Y Y Y Y Y (ihL l (d+1) b hL Xd) ?_;refine zAq 10 Y ?_;refine gS 0 Y (λh3=>?_) (λh3=>?_)
    ·refine gQ 7 Y ?_;rw[cntR_no λq=>(cntR_lt tl _ _).1 Xp (ok_fork.1 q).2.1]
    ·refine gA 8 Y (d+1) ?_;refine zeq 1 Y ?_;refine jiq Y Y Y Y Y Y (ihR r (d+1) (qsq b d) hR Xd) ?_;refine zAq 7 Y ?_;refine gD 0 Y (λh4=>?_) (λh4=>?_)
     ·refine gQ 16 Y ?_;rw[cntR_no λq=>(cntR_lt tr _ _).1 Xp (ok_fork.1 q).2.2.1]
     ·have hc:=cntR_fork (l:=tl) (r:=tr) hd' h3 h4;have b1:=cntR_le tl (d+1) b;have b2:=cntR_le tr (d+1) (qsq b d);refine gWr 3 Y ?_;refine gU 0 Y ?_;refine gS 3 Y (λh5=>?_) (λh5=>?_)
      ·exact gQ 7 Y (by rw[hc,if_pos Xp])
      ·exact gQ 8 Y (by rw[hc,if_neg Xp])
theorem rmay_s(t:Tree)(hb:t.nodes.length<=4611686018427387903):PS cfg G 201 [tW t] (.bool (decide (MayT t))):=by
 have e:(t.nodes.map nW).length=t.nodes.length:=List.length_map _;refine gI 11 Y (λR k0=>gV (w':=.int .i64 (t.nodes.length:Int)) 0 Y Xw ?_);refine gD 0 Y (λh1=>?_) (λh1=>?_)
 ·have hno:¬MayT t:=λh=>by have:=h.1;omega
  exact gQ 23 Y Yg
 refine gD 3 Y (λh2=>?_) (λh2=>?_)
 ·have hno:¬MayT t:=λh=>by obtain⟨_,_,n,_,h,_⟩:=h;have h2:t.root<0:=h2;omega
  exact gQ 19 Y Yg
 refine gV (w':=.int .i64 (t.nodes.length:Int)) 6 Y Xw (gU 0 Y ?_);refine gS 3 Y (λh3=>?_) (λh3=>?_)
 ·have hno:¬MayT t:=λh=>by obtain⟨_,_,n,_,h,hr,_⟩:=h;have h3:(t.nodes.length:Int)<t.root:=h3;have:=hr.le;omega
  exact gQ 7 Y Yg
 have h2:¬t.root<0:=h2;have h3:¬(t.nodes.length:Int)<t.root:=h3;obtain⟨n0,hn0⟩:=Int.eq_ofNat_of_zero_le (show 0<=t.root by omega);refine gLo (α:=Nat) 9 (λi=>i<=t.nodes.length/\∀j x,j<i->t.nodes[j]? =some x->oneB x j) (λi=>[(3,.int .i64 (i:Int))]) [1,2] (λi=>t.nodes.length-i) (0) rfl (⟨Nat.zero_le _,λj x hj=>by omega⟩) (λi hI=>?_);obtain⟨hi,hI⟩:=hI;refine gV (w':=.int .i64 (t.nodes.length:Int)) 6 Y Xw ?_;refine gS 3 Y (λh4=>?_) (λh4=>?_)
 ·have hi':i<t.nodes.length:=by omega
  obtain⟨x,hx⟩:∃x,t.nodes[i]? =some x:=⟨_,List.getElem?_eq_getElem hi'⟩
  refine gP 9 Y (zrq (i:=i) Y Y Y Y Y Y Y (zoq nW hx)) (gC 2 Y (rone_s _ _ Xd) ?_);refine gS 3 Y (λh5=>?_) (λh5=>?_)
  ·have hno:¬MayT t:=λh=>by have:=h.2.1 i x hx;simp[this] at h5
   exact gO 8 Y (gQ 2 Y Yg)
  ·have h5:oneB x i:=by simpa using h5
   exact gA 5 Y (i+1) (gAg 2 Y (i+1) (⟨hi',λj y hj hy=>by rcases Nat.lt_succ_iff_lt_or_eq.1 hj with h|rfl;exact hI j y h hy;exact(Option.some.inj (hx.symm.trans hy))▸h5⟩) Xd)
 ·have okn:okN t.nodes:=λj x hx=>hI j x (by have:=(List.getElem?_eq_some_iff.1 hx).1;omega) hx
  obtain⟨t0,ht0⟩:=rep_of okn n0 Xd
  have key:MayT t↔t0.ok 0 yjq=true:=by
   constructor
   ·rintro⟨_,_,n,t1,hn,hr,hk⟩;obtain rfl:n=n0:=by omega
    rw[ht0.uniq hr];exact hk
   ·exact λh=>⟨by omega,okn,n0,t0,hn0,ht0,h⟩
  refine gO 2 Y (gV 7 Y jMq (op_ps Y Y Y Y Y (by rw[hn0];rfl) (rright_s t Xd t0 n0 0 yjq ht0 Xd) Xj Xj (op_cz Y Y (zAq 4 Y (gQ 0 Y ?_)))));rw[show decide (MayT t)=decide (0<=cntR t0 0 yjq) from decide_eq_decide.2 (key.trans (cntR_ge t0 0 yjq).symm)]
theorem rfor_s(t0:Tree)(hb:t0.nodes.length<=4611686018427387903):∀(t:T) (n:Nat),Rep t0.nodes n t->t.all.length<=1000000->(∀p∈t.all,p.2.length<=70368744177664) ->PL cfg G 263 [tW t0,.int .i64 (n:Int)] 191 33 (t.all.map pW):=by
 intro t;induction t with
 |nil=>
  intro n hr hl hv R;obtain rfl:n=0:=by cases hr;rfl
  refine gIs 13 Y (λk0=>?_);refine gS 0 Y (λh1=>?_) (λh1=>?_)
  ·exact zeq 7 Y (fin (w:=gW 0 33 []) Qx (Qrq (b:=0) (ty:=191) (l2:=[]) (H0:=[]) (fr2:=[]) 4 Xd Xd rfl trivial trivial (λx r h=>by cases h) rfl trivial List.nodup_nil) rfl ⟨rfl,rfl,rfl,rfl⟩)
  ·exfalso;omega
 |leaf k v=>
  intro n hr hl hv R;have hle:=hr.le;have hvl:=hv (k,v) (by simp[T.all]);simp only at hvl;cases hr with
  |leaf h=>
  rename_i n l r;refine gIs 13 Y (λk0=>?_);refine gS 0 Y (λh1=>?_) (λh1=>?_)
  ·exfalso;omega
  ·exact gA 7 Y (n) (gP 0 Y (zrq (i:=n) Y Y Y Y Y Y Y (zoq nW h)) (zeq 19 Y (fl_ps Y Y Y Y Y Y (YZq v false hvl) Xj Xj Xq (y4q 7 Y (fin (w:=gW 0 33 [pW (k,v)]) Qx (ent_one (b:=0) (x:=pW (k,v)) 2 4 Xd Xd Xd Y Y Y Y Xj) rfl ⟨rfl,rfl,rfl,rfl⟩)))))
 |fork tl tr ihL ihR=>
  intro n hr hl hv R;have hle:=hr.le;cases hr with
  |fork h hl0 hr0 hL hR=>
  rename_i n l r k v;have hlen:tl.all.length+tr.all.length<=1000000:=by simpa[T.all] using hl
  obtain⟨l1,e1⟩:∃q,q=tl.all.map pW:=⟨_,rfl⟩
  obtain⟨l2,e2⟩:∃q,q=tr.all.map pW:=⟨_,rfl⟩
  have P1:PL cfg G 263 [tW t0,.int .i64 (l:Int)] 191 33 l1:=e1▸ihL l hL Xd λp hp=>hv p Qa
  have P2:PL cfg G 263 [tW t0,.int .i64 (r:Int)] 191 33 l2:=e2▸ihR r hR Xd λp hp=>hv p Qa
  have p1:purL l1=true:=by rw[e1];exact jpq _
  have p2:purL l2=true:=by rw[e2];exact jpq _
  have hl1:l1.length<=1000000:=by rw[e1,List.length_map];omega
  have hl2:l2.length<=1000000:=by rw[e2,List.length_map];omega
  have e3:(T.fork tl tr).all.map pW=l1++l2:=by rw[e1,e2];simp[T.all]
  rw[e3];clear e1 e2 e3;refine gIs 13 Y (λk0=>?_);refine gS 0 Y (λh1=>?_) (λh1=>?_)
  ·exfalso;omega
  ·refine gA 7 Y (n) (gP 0 Y (zrq (i:=n) Y Y Y Y Y Y Y (zoq nW h)) (zeq 20 Y ?_));skip
   skip
   cases l1 with
   |nil=>
    cases l2 with
    |nil=>
     (refine yNq rfl (k4q Y Y Y Y Y Xj P1 Xp ?_);refine⟨by first|rfl|kernel_rfl,?_⟩)
     refine y4q 3 Y ?_
     (refine yNq rfl (k4q Y Y Y Y Y Xj P2 Xp ?_);refine⟨by first|rfl|kernel_rfl,?_⟩)
     refine qNq rfl (ytq Y Y (vYq Y Y Y Y Y)) Xq (y4q 4 Y ?_);refine fin (w:=gW 0 33 ([]:List W)) Qx (Qrq (b:=0) (ty:=191) (l2:=[]) (H0:=[]) (fr2:=[]) 4 Xd Xd rfl trivial trivial (λx r h=>by cases h) rfl trivial List.nodup_nil) rfl ⟨rfl,?_,?_,rfl⟩
     ·rfl
     ·rfl
    |cons y2 r2=>
     (refine yNq rfl (k4q Y Y Y Y Y Xj P1 Xp ?_);refine⟨by first|rfl|kernel_rfl,?_⟩)
     refine y4q 3 Y ?_
     (refine yNq rfl (k4q Y Y Y Y Y Xj P2 Xp ?_);refine⟨by first|rfl|kernel_rfl,?_⟩)
     refine qNq rfl (ytq Y Y (xqq (news:=y2::r2) (k:=ti191) Y Y Y Y (yQq Y Y Y (zpq Xn Y Y)) Xj (by show(y2::r2).length*56<=_;omega) Xd)) Xq (y4q 4 Y ?_);refine fin (w:=gW 0 33 (y2::r2)) Qx (qYq (b:=0) (l2:=y2::r2) (H0:=[]) (fr2:=[]) 4 4 Xd Xd Xd Xj Y Y trivial trivial rfl p2 trivial List.nodup_nil) rfl ⟨rfl,?_,?_,rfl⟩
     ·rfl
     ·rfl
   |cons y1 r1=>
    cases l2 with
    |nil=>
     (refine yNq rfl (k4q Y Y Y Y Y Xj P1 Xp ?_);refine⟨by first|rfl|kernel_rfl,?_⟩)
     refine y4q 3 Y ?_
     (refine yNq rfl (k4q Y Y Y Y Y Xj P2 Xp ?_);refine⟨by first|rfl|kernel_rfl,?_⟩)
     refine qNq rfl (ytq Y Y (kRq (k:=ti191) Y Y Y Y Y)) Xq (y4q 4 Y ?_);refine fin (w:=gW 0 33 (y1::r1)) Qx (qYq (b:=0) (l2:=y1::r1) (H0:=[]) (fr2:=[]) 2 4 Xd Xd Xd Xj Y Y trivial trivial rfl p1 trivial List.nodup_nil) rfl ⟨rfl,?_,?_,rfl⟩
     ·rw[List.append_nil]
     ·rw[List.append_nil];rfl
    |cons y2 r2=>
     (refine yNq rfl (k4q Y Y Y Y Y Xj P1 Xp ?_);refine⟨by first|rfl|kernel_rfl,?_⟩)
     refine y4q 3 Y ?_
     (refine yNq rfl (k4q Y Y Y Y Y Xj P2 Xp ?_);refine⟨by first|rfl|kernel_rfl,?_⟩)
     refine qNq rfl (ytq Y Y (qqq (len:=(y1::r1).length) (news:=y2::r2) (olds:=y1::r1) (k:=ti191) Y Y Y Y (yQq Y Y Y (zpq Xn Y Y)) Xj (by show((y1::r1).length+(y2::r2).length)*56<=_;omega) Xd rfl (by show(y1::r1).length*33<0+((y1::r1).length+(y2::r2).length)*33;simp only[List.length_cons];omega) rfl (zpq Xn Y Y))) Xq (y4q 4 Y ?_);refine fin (w:=gW 0 33 ((y1::r1)++(y2::r2))) Qx (qYq (b:=0) (l2:=(y1::r1)++(y2::r2)) (n:=(y1::r1).length+(y2::r2).length) (H0:=[]) (fr2:=[]) 4 4 Xd Xd Xd Xj rfl (by rw[List.length_append]) trivial trivial rfl (by rw[purL_app,p1,p2];rfl) trivial List.nodup_nil) rfl ⟨rfl,?_,?_,rfl⟩
     ·rfl
     ·rfl
theorem g_get(b e:Nat)(l:List W)(r:W):z6q 50 (.agg 2 [gW b e l,r]) 0 1 false=some (gW b e l):=by cases l<;>rfl
theorem g_put(b e:Nat)(l:List W)(r:W)(b' n:Nat):quq 50 (.agg 2 [gW b e l,r]) 0 (.sl b' 0 0 n e none)=some (.agg 2 [.sl b' 0 0 n e none,r]):=by cases l<;>rfl
theorem rttwin_s(t:Tree)(hb:t.nodes.length<=1000000000)(hv:∀x∈t.nodes,x.val.length<=70368744177664):PS cfg G 71 [tW t] (tW t):=by
 have e:(t.nodes.map nW).length=t.nodes.length:=List.length_map _;refine gIv 18 Y (λR k0=>Zjq (λ_=>ZFq (fr2:=[(1,.ptr 0 0),(2,.ptr 1 0),(3,.ptr 2 0)]) ⟨rfl,rfl,rfl,trivial⟩) (zcq Y Y ?_))
 refine zAq 3 Y ?_;refine qeq (α:=Nat) (λi=>i<=t.nodes.length) (λi=>[(4,.int .i64 (i:Int))]) [(1,_),(2,_),(3,_)] (λi=>[(2,24,.agg 2 [gW 3 36 ((t.nodes.take i).map nW),.int .i64 t.root]),(1,24,.agg 2 [.nils,.int .i64 0]),(0,24,tW t)]++gH 3 163 36 ((t.nodes.take i).map nW)) (λi=>t.nodes.length-i) (0) ⟨rfl,rfl,rfl,trivial⟩ (Nat.zero_le _) ⟨rfl,trivial⟩ (rfl) (λi hI=>?_);refine z1q 6 Y (gV (w':=.int .i64 (t.nodes.length:Int)) 0 Y Xw ?_);refine gS 3 Y (λh1=>?_) (λh1=>?_)
 ·have hi:i<t.nodes.length:=by omega
  obtain⟨x,hx⟩:∃x,t.nodes[i]? =some x:=⟨_,List.getElem?_eq_getElem hi⟩
  have hxv:=hv x (List.mem_of_getElem? hx);have el:((t.nodes.take i).map nW).length=i:=by simp;omega
  have es:(t.nodes.take (i+1)).map nW=(t.nodes.take i).map nW++[nW x]:=by rw[List.take_add_one,hx,List.map_append];rfl
  have ep:purL ((t.nodes.take i).map nW++[nW x])=true:=by rw[<-es];exact yZq nW_pur _
  refine gP 9 Y (zrq (i:=i) Y Y Y Y Y Y Y (zoq nW hx)) (zeq 9 Y (jiq Y Y Y Y Y Y (YZq x.val false hxv) (zAq 6 Y (gM 0 Y (yMq Y Y Y (g_get 3 36 _ _)) (gM 2 Y (ytq Y Y (jSq [_,_,_,_,_] (k:=ti163) (news:=[nW x]) Y Y Y Y Y (yQq Y Y Y Y) Xj (by show(((t.nodes.take i).map nW).length+1)*80<=_;omega) (by show((t.nodes.take i).map nW).length+1<=_;omega) rfl Xj)) (gM 1 Y (jgq Y Y Y Y Y (g_put 3 36 _ _ _ _) rfl) (gA 5 Y (i+1) (zeq 2 Y ?_))))))));skip
  refine ypq (i+1) hi Xd ?_;simp only;have hne:(t.nodes.take i).map nW++[nW x]≠[]:=List.append_ne_nil_of_right_ne_nil _ Xj;rw[es,vdq hne,veq hne];refine qdq (b:=3) (k:=6) Xd Xd Xd ⟨⟨rfl,rfl⟩,⟨rfl,rfl⟩,⟨rfl,rfl⟩,⟨rfl,rfl⟩,trivial⟩ ⟨⟨by omega,rfl,rfl⟩,⟨by omega,rfl,rfl⟩,⟨by omega,?_,zkq Xj⟩,⟨by omega,?_,zkq ep⟩,trivial⟩ Xj
  ·rw[zZq Xj];rfl
  ·rw[zZq (by exact ep)];rfl
 ·have hi:i=t.nodes.length:=by omega
  subst hi;rw[List.take_length];exact zeq 2 Y (y7q Xh (zYq 9 Y (y0q Xt Y (.agg (.cons (xIq (H0:=[(2,24,.agg 2 [gW 3 36 (t.nodes.map nW),.int .i64 t.root]),(1,24,.agg 2 [gW 3 36 (t.nodes.map nW),.int .i64 t.root]),(0,24,tW t)]) Xn (Qgq _) Xj) (.cons (.pur rfl) .nil))))))
theorem tree_ext{a b:Tree}(h1:a.nodes=b.nodes)(h2:a.root=b.root):a=b:=by cases a;cases b;simp only at h1 h2;subst h1;subst h2;rfl
theorem node_ext{a b:Node}(h1:a.leaf=b.leaf)(h2:a.key=b.key)(h3:a.val=b.val)(h4:a.left=b.left)(h5:a.right=b.right):a=b:=by cases a;cases b;simp only at h1 h2 h3 h4 h5;subst h1;subst h2;subst h3;subst h4;subst h5;rfl
noncomputable instance(a b:Tree):Decidable (a=b):=Classical.propDecidable _
theorem Y0q(a b:Tree)(hb:a.nodes.length<=1000000000):PS cfg G 17 [tW a,tW b] (.bool (decide (a=b))):=by
 have ea:(a.nodes.map nW).length=a.nodes.length:=List.length_map _;have eb:(b.nodes.map nW).length=b.nodes.length:=List.length_map _;refine gI 14 Y (λR k0=>?_);refine gD 0 Y (λh1=>?_) (λh1=>?_)
 ·have hno:¬a=b:=λh=>h1 (by rw[h])
  exact gQ 19 Y Yg
 have hroot:a.root=b.root:=by simpa using h1
 refine gV (w':=.int .i64 (a.nodes.length:Int)) 3 Y Yt (gV (w':=.int .i64 (b.nodes.length:Int)) 2 Y Qu (gU 0 Y ?_));refine gS 3 Y (λh2=>?_) (λh2=>?_)
 ·have hno:¬a=b:=λh=>h2 (by rw[h])
  exact gQ 7 Y Yg
 have hlen:a.nodes.length=b.nodes.length:=by omega
 refine gLo (α:=Nat) 9 (λi=>i<=a.nodes.length/\a.nodes.take i=b.nodes.take i) (λi=>[(5,.int .i64 (i:Int))]) [2,3,4] (λi=>a.nodes.length-i) (0) rfl (⟨Nat.zero_le _,rfl⟩) (λi hI=>?_);obtain⟨g1,g2⟩:=hI;refine gV (w':=.int .i64 (a.nodes.length:Int)) 6 Y Yt ?_;refine gS 3 Y (λh3=>?_) (λh3=>?_)
 ·have hi:i<a.nodes.length:=by omega
  obtain⟨x,hx⟩:∃x,a.nodes[i]? =some x:=⟨_,List.getElem?_eq_getElem hi⟩
  obtain⟨y,hy⟩:∃y,b.nodes[i]? =some y:=⟨_,List.getElem?_eq_getElem Xd⟩
  have no:x≠y->¬a=b:=λh q=>h (by subst q;exact Option.some.inj (hx.symm.trans hy))
  refine gP 9 Y (zrq (i:=i) Y Y Y Y Y Y Y (zoq nW hx)) (gP 4 Y (zrq (i:=i) Y Y Y Y Y Y Y (zoq nW hy)) ?_);refine gD 13 Y (λh4=>?_) (λh4=>?_)
  ·have hno:=no λq=>by rw[q] at h4;simp at h4
   exact gO 40 Y (gQ 2 Y Yg)
  refine gDe 5 Y (q1q Y Y Y Y (yBq Y Y Y Y Y Y _ _ 250)) (y9q z8q) (λh5=>?_) (λh5=>?_)
  ·have hno:=no λq=>h5 Yy
   exact gO 34 Y (gQ 2 Y Yg)
  refine gC 6 Y (same_s _ _ _ _) ?_;refine gB 0 Y (λh6=>?_) (λh6=>?_)
  ·refine gD 7 Y (λh7=>?_) (λh7=>?_)
   ·have hno:=no λq=>h7 Yy
    exact gO 19 Y (gQ 2 Y Yg)
   refine gU 6 Y ?_;refine gS 3 Y (λh8=>?_) (λh8=>?_)
   ·have hno:=no λq=>h8 Yy
    exact gO 8 Y (gQ 2 Y Yg)
   have hxy:x=y:=node_ext (by simpa using h4) (by simpa using h5) h6 (by simpa using h7) (by simpa using h8);exact gA 5 Y (i+1) (gAg 2 Y (i+1) (⟨hi,by rw[List.take_add_one,List.take_add_one,g2,hx,hy,hxy]⟩) Xd)
  ·have hno:=no λq=>h6 Yy
   exact gO 27 Y (gQ 2 Y Yg)
 ·refine gO 2 Y (gQ 8 Y ?_);rw[decide_eq_true];have:=g2;rw[List.take_of_length_le Xd,List.take_of_length_le Xd] at this;exact tree_ext this hroot
theorem rall_s(t:Tree)(n:Nat)(t0:T)(h:IsT t n t0):PS cfg G 185 [tW t] (psW t0.all):=by
 have h1:=h.all_le;have h2:=h.len;have h3:=h.root;obtain⟨ns,root⟩:=t;simp only at h1 h2 h3;subst h3;have P:=(rfor_s (G:=G) ⟨ns,(n:Int)⟩ Yq t0 n h.rep Xd (λp hp=>by have:=(h.val p hp).2;omega)).ps Xn (jpq _);exact gI 11 Y (λR k0=>op_ps Y Y Y Y Y Y P Xj Xj (zAq 4 Y (gQa 0 Y)))
end
section
attribute [local irreducible] CoW OpW FlW Step Spec
def T.road:T->Nat->Dig->List T
 |.fork l r,d,k=>if bitN k d=0 then r::l.road (d+1) k else l::r.road (d+1) k
 |_,_,_=>[]
def T.tail:T->Nat->Dig->T
 |.fork l r,d,k=>if bitN k d=0 then l.tail (d+1) k else r.tail (d+1) k
 |t,_,_=>t
structure Side(t0:T)(ns:List Node)(k:Dig)(c d:Nat)(b:Dig)(s:T):Prop where
 rep:Rep ns c s
 zr:Zr (d+1) b
 ok:s.ok (d+1) b=true
 short:kVq s
 road:(t0.road 0 k)[d]? =some s
 few:s.all.length<=1000000
structure OnR(t0:T)(ns:List Node)(k:Dig)(n d:Nat)(b:Dig)(t:T):Prop where
 rep:Rep ns n t
 zr:Zr d b
 ok:t.ok d b=true
 le:d<=256
 road:(t0.road 0 k).drop d=t.road d k
 tail:t0.tail 0 k=t.tail d k
 short:kVq t
 few:t.all.length<=1000000
theorem OnR.go{t0:T}{ns:List Node}{k:Dig}{n d:Nat}{b:Dig}{L R:T}(h:OnR t0 ns k n d b (.fork L R)):∃(i:Nat) (k':Dig) (v:List UInt8) (l r:Nat),n=i+1/\ns[i]? =some ⟨false,k',v,l,r⟩/\d<256/\
  ((bitN k d=0/\OnR t0 ns k l (d+1) b L/\Side t0 ns k r d (qsq b d) R)\/(bitN k d=1/\OnR t0 ns k r (d+1) (qsq b d) R/\Side t0 ns k l d b L)):=by
 obtain⟨rep,hz,ok,hle,road,tail,sh,few⟩:=h;simp only[T.all,List.length_append] at few;obtain⟨hd,okL,okR,_⟩:=ok_fork.1 ok;have sL:kVq L:=λp hp=>sh p Qa
 have sR:kVq R:=λp hp=>sh p Qa
 have hat:∀{s:T} {q:List T},(t0.road 0 k).drop d=s::q->(t0.road 0 k)[d]? =some s/\(t0.road 0 k).drop (d+1)=q:=λ{s q} e=>by
  constructor
  ·rw[<-List.head?_drop,e];rfl
  ·rw[<-List.tail_drop,e];rfl
 cases rep with
 |fork hx hl hr hL hR=>
  rename_i i l r k' v;refine⟨i,k',v,l,r,rfl,hx,hd,?_⟩;by_cases hb:bitN k d=0
  ·simp only[T.road,T.tail,if_pos hb] at road tail;obtain⟨e1,e2⟩:=hat road;exact .inl ⟨hb,⟨hL,k0q hz,okL,hd,e2,tail,sL,by omega⟩,⟨hR,kZq hz hd,okR,sR,e1,by omega⟩⟩
  ·simp only[T.road,T.tail,if_neg hb] at road tail;obtain⟨e1,e2⟩:=hat road;have:=Z0q k d;exact .inr ⟨by omega,⟨hR,kZq hz hd,okR,hd,e2,tail,sR,by omega⟩,⟨hL,k0q hz,okL,sL,e1,by omega⟩⟩
theorem OnR.done{t0:T}{ns:List Node}{k:Dig}{n d:Nat}{b:Dig}{t:T}(h:OnR t0 ns k n d b t)(hf:t.isFork=false):t0.tail 0 k=t/\(t0.road 0 k).length<=d:=by
 have e:=h.road;have e2:=h.tail;cases t with
 |nil=>exact⟨e2,by rw[<-List.drop_eq_nil_iff];exact e⟩
 |leaf=>exact⟨e2,by rw[<-List.drop_eq_nil_iff];exact e⟩
 |fork=>cases hf
theorem OnR.start{t:Tree}{n:Nat}{t0:T}(h:IsT t n t0)(hs:kVq t0)(k:Dig):OnR t0 t.nodes k n 0 yjq t0:=⟨h.rep,YNq,h.ok,by omega,rfl,rfl,hs,by have:=h.all_le;have:=h.len;omega⟩
noncomputable def sdW(t:T):W:=dW (sumD t)
@[simp] theorem yRq(l:List T):purL (l.map sdW)=true:=yZq (λt=>dW_pur _) l
theorem xxq{t0 s:T}{k:Dig}{d:Nat}(h:(t0.road 0 k)[d]? =some s):((t0.road 0 k).take (d+1)).map sdW=((t0.road 0 k).take d).map sdW++[sdW s]:=by
 rw[List.take_add_one,h,List.map_append];rfl
noncomputable def endW:T->W
 |.leaf x v=>nW ⟨true,x,v,0,0⟩
 |_=>nW ⟨false,yjq,[],0,0⟩
theorem okN_leaf{ns:List Node}(h:okN ns){i:Nat}{k:Dig}{v:List UInt8}{l r:Int}(hx:ns[i]? =some ⟨true,k,v,l,r⟩):l=0/\r=0:=by
 have h1:=h i _ hx;simp only[oneB,if_true] at h1;exact⟨h1.1,h1.2.1⟩
theorem vKq{ns:List Node}(h:okN ns):∀{n:Nat} {t:T},Rep ns n t->kVq t
 |_,_,.nil=>λp hp=>by simp[T.all] at hp
 |_,_,.leaf hx=>λp hp=>by
  simp only[T.all,List.mem_cons,List.not_mem_nil,or_false] at hp;subst hp;exact Nat.lt_of_le_of_lt (u8q h hx).2 Xn
 |_,_,.fork _ _ _ hL hR=>λp hp=>by
  simp only[T.all,List.mem_append] at hp;rcases hp with hp|hp
  ·exact vKq h hL p hp
  ·exact vKq h hR p hp
theorem troad_s(t:Tree)(n:Nat)(t0:T)(h:IsT t n t0)(k:Dig):PS cfg glK 207 [tW t,dW k] (.tup [endW (t0.tail 0 k),.fz ((t0.road 0 k).map sdW) 32 false,.int .i64 0]):=by
 have hl:=h.len;have hs:=vKq h.okn h.rep;have hr:=h.root;obtain⟨ns,root⟩:=t;simp only at hl hr;subst hr;refine gIv 13 Y (λR k0=>?_);refine gC 0 Y (zOq (w':=.int .i64 0) (kvq ⟨ns,((n:Nat):Int)⟩ Yq) (by rw[if_pos h.may])) ?_;refine gFa 6 Y ?_;refine zeq 19 Y ?_;refine vVq (α:=Nat×Nat×Dig×T) (λp=>OnR t0 ns k p.1 p.2.1 p.2.2.1 p.2.2.2) 5 (λp=>((t0.road 0 k).take p.2.1).map sdW) 29 32 (λp=>[(8,.int .i64 (p.1:Int)),(9,.int .i64 (p.2.1:Int))]) [(2,_),(3,_),(4,_),(6,_)] _ (λp=>257-p.2.1) ((n,0,yjq,t0)) ⟨rfl,rfl,rfl,rfl,trivial⟩ (OnR.start h hs k) ⟨rfl,rfl,trivial⟩ Y Y Y (λp hI=>?_);obtain⟨i,d,b,u⟩:=p;have hI:OnR t0 ns k i d b u:=hI;have hle:=hI.le;cases u with
 |fork L R=>
  skip
  obtain⟨i,k',v,l,r,rfl,hx,hd,⟨hb,hn,hsd⟩|⟨hb,hn,hsd⟩⟩:=hI.go
  ·have hi:=(List.getElem?_eq_some_iff.1 hx).1;have es:=xxq hsd.road;have ep:=yRq ((t0.road 0 k).take (d+1));have ep2:=yRq ((t0.road 0 k).take d);have el:(((t0.road 0 k).take d).map sdW).length<=256:=by rw[List.length_map,List.length_take];omega
   rw[es] at ep;refine z1q 4 Y ?_;refine gT 0 Y (ltI_iff.2 Xd) ?_;refine gA 4 Y (i) ?_;refine gP 0 Y (zrq (i:=i) Y Y Y Y Y Y Y (zoq nW hx)) ?_;refine gTa 2 Y ?_;refine gA 13 Y (i) ?_;refine gP 0 Y (zrq (i:=i) Y Y Y Y Y Y Y (zoq nW hx)) ?_;refine gC 1 Y (jDq _) ?_;refine gC 2 Y (tbit_c k d 0 hd hb) ?_;refine gV 10 Y (show _= .int .u8 1 by first|rfl|(simp;done)) ?_;refine gX 0 Y ?_;refine gC 1 Y (tsum_s ⟨ns,((n:Nat):Int)⟩ Yq R r hsd.rep hsd.short) ?_;refine zeq 1 Y ?_;refine qNq rfl (ytq Y Y (jSq [_,_,_,_,_] (k:=ti29) (news:=[sdW R]) Y Y Y Y Y (yQq Y Y Y Y) Xj Yo Ys rfl Xj)) (evs_G Xq Xq) ?_;refine y4q 5 Y ?_;refine gX 0 Y ?_;refine gA 7 Y (d+1) ?_;refine zeq 2 Y ?_;exact jdq 6 ((l,d+1,b,L)) (hn) Ya (Nat.zero_le _) (es) Xv Xd Yj rfl Xy ⟨rfl,rfl,trivial⟩ ⟨rfl,rfl,rfl,rfl,trivial⟩ Xg Xg rfl Xk Xi Yd
  ·skip
   have hi:=(List.getElem?_eq_some_iff.1 hx).1;have es:=xxq hsd.road;have ep:=yRq ((t0.road 0 k).take (d+1));have ep2:=yRq ((t0.road 0 k).take d);have el:(((t0.road 0 k).take d).map sdW).length<=256:=by rw[List.length_map,List.length_take];omega
   rw[es] at ep;refine z1q 4 Y ?_;refine gT 0 Y (ltI_iff.2 Xd) ?_;refine gA 4 Y (i) ?_;refine gP 0 Y (zrq (i:=i) Y Y Y Y Y Y Y (zoq nW hx)) ?_;refine gTa 2 Y ?_;refine gA 13 Y (i) ?_;refine gP 0 Y (zrq (i:=i) Y Y Y Y Y Y Y (zoq nW hx)) ?_;refine gC 1 Y (jDq _) ?_;refine gC 2 Y (tbit_c k d 1 hd hb) ?_;refine gV 10 Y (show _= .int .u8 0 by first|rfl|(simp;done)) ?_;refine gX 0 Y ?_;refine gC 1 Y (tsum_s ⟨ns,((n:Nat):Int)⟩ Yq L l hsd.rep hsd.short) ?_;refine zeq 1 Y ?_;refine qNq rfl (ytq Y Y (jSq [_,_,_,_,_] (k:=ti29) (news:=[sdW L]) Y Y Y Y Y (yQq Y Y Y Y) Xj Yo Ys rfl Xj)) (evs_G Xq Xq) ?_;refine y4q 5 Y ?_;refine gX 0 Y ?_;refine gA 7 Y (d+1) ?_;refine zeq 2 Y ?_;exact jdq 6 ((r,d+1,qsq b d,R)) (hn) Ya (Nat.zero_le _) (es) Xv Xd Yj rfl Xy ⟨rfl,rfl,trivial⟩ ⟨rfl,rfl,rfl,rfl,trivial⟩ Xg Xg rfl Xk Xi Yd
 |nil=>
  obtain⟨e1,e2⟩:=hI.done rfl;have hr:=hI.rep;obtain rfl:i=0:=by cases hr;rfl
  have ep:=yRq (t0.road 0 k);rw[List.take_of_length_le (by exact e2)];refine z1q 4 Y ?_;refine gF 0 Y (ltI_not.2 Xd) ?_;refine zeq 15 Y ?_;refine y7q Xh ?_;refine zYq 6 Y ?_;refine gF 0 Y (ltI_not.2 Xd) ?_;refine zeq 15 Y ?_;exact y0q Qx rfl (.tup (.cons (by rw[e1];exact .agg (.cons (.pur rfl) (.cons z4q (.cons .nilfz (.cons (.pur rfl) (.cons (.pur rfl) .nil)))))) (.cons (xIq (H0:=[_,_,_]) (b:=3) (e:=32) (ty:=29) Xn ep Xj) (.cons (.pur rfl) .nil))))
 |leaf x v=>
  obtain⟨e1,e2⟩:=hI.done rfl;have hr:=hI.rep;obtain⟨i,l,r,rfl,hx⟩:∃(j:Nat) (l r:Int),i=j+1/\ns[j]? =some ⟨true,x,v,l,r⟩:=by cases hr with|leaf h=>exact⟨_,_,_,rfl,h⟩
  have hi:=(List.getElem?_eq_some_iff.1 hx).1;obtain⟨rfl,rfl⟩:=okN_leaf h.okn hx;have hv:=u8q h.okn hx;have ep:=yRq (t0.road 0 k);rw[List.take_of_length_le (by exact e2)];refine z1q 4 Y ?_;refine gT 0 Y (ltI_iff.2 Xd) ?_;refine gA 4 Y (i) ?_;refine gP 0 Y (zrq (i:=i) Y Y Y Y Y Y Y (zoq nW hx)) ?_;refine gFa 2 Y ?_;refine zeq 6 Y ?_;refine y7q Xh ?_;refine zYq 6 Y ?_;refine gT 0 Y (ltI_iff.2 Xd) ?_;refine gA 8 Y (i) ?_;refine gP 0 Y (zrq (i:=i) Y Y Y Y Y Y Y (zoq nW hx)) ?_;refine gC 7 Y (ZPq v false Xd) ?_;refine zeq 14 Y ?_;exact y0q Qx rfl (.tup (.cons (by rw[e1];exact .pur (by simp[endW])) (.cons (xIq (H0:=[_,_,_]) (b:=3) (e:=32) (ty:=29) Xn ep Xj) (.cons (.pur rfl) .nil))))
noncomputable def prG(k:Dig)(e:Int)(o:Dig)(v s:W):W:=.agg 67 [dW k,.int .u8 e,dW o,v,s]
noncomputable def prT(k:Dig)(s:W):T->W
 |.leaf x v=>if x=k then prG k 1 yjq (bW v) s else prG k 2 x (bW v) s
 |_=>prG k 0 yjq .nils s
theorem prT_own(k:Dig)(s:W)(v:List UInt8):prT k s (.leaf k v)=prG k 1 yjq (bW v) s:=if_pos rfl
theorem prT_other{x k:Dig}(s:W)(v:List UInt8)(h:¬x=k):prT k s (.leaf x v)=prG k 2 x (bW v) s:=if_neg h
theorem Qcq(k:Dig)(s:W):W.agg 67 [dW k,.int .u8 0,.arr 32 1 (List.replicate 32 (.int .u8 (.ofNat 0))),.nils,s]=prG k 0 yjq .nils s:=by
 unfold prG;rw[jMq]
theorem pend_s(t:T)(hf:t.isFork=false)(k:Dig)(s:W):j9q cfg glK 208 1 [.ptr 0 0,endW t] [(0,321,prG k 0 yjq .nils s)] λw hp nw=>w= .tup []/\hp=[(1,163,endW t),(0,321,prT k s t)]/\nw=2:=by
 intro R;cases t with
 |fork=>cases hf
 |nil=>
  refine gIs 11 Y (λk0=>?_);exact gTa 0 Y (zeq 7 Y (fin Qx Ent.refl rfl ⟨rfl,rfl,rfl,rfl⟩))
 |leaf x v=>
  by_cases hx:x=k
  ·subst hx;refine gIs 11 Y (λk0=>?_);refine gFa 0 Y (gUe 13 Y (ysq Y Y Y Y (yBq Y Y Y Y Y Y _ _ 250)) z8q ?_);refine gS 3 Y (λh1=>?_) (λh1=>?_)
   ·exact zeq 18 Y (fin (.inl rfl) Ent.refl rfl ⟨rfl,rfl,by rw[prT_own];rfl,rfl⟩)
   ·exfalso;exact(by assumption:¬x=x) rfl
  ·skip
   refine gIs 11 Y (λk0=>?_);refine gFa 0 Y (gUe 13 Y (ysq Y Y Y Y (yBq Y Y Y Y Y Y _ _ 250)) z8q ?_);refine gS 3 Y (λh1=>?_) (λh1=>?_)
   ·exfalso;exact hx Xp
   ·exact zeq 25 Y (fin (.inl rfl) Ent.refl rfl ⟨rfl,rfl,by rw[prT_other s v hx];rfl,rfl⟩)
noncomputable def sdsW(t0:T)(k:Dig):W:=.fz ((t0.road 0 k).map sdW) 32 false
@[simp] theorem vLq(t0:T)(k:Dig):purW (sdsW t0 k)=true:=yRq _
@[simp] theorem endW_pur(t:T):purW (endW t)=true:=by cases t<;>simp[endW]
theorem prT_pur(k:Dig){s:W}(hs:purW s=true)(t:T):purW (prT k s t)=true:=by
 unfold prT prG;split
 ·split<;>simp[purW,purL,hs]
 ·simp[purW,purL,hs]
theorem endW_shape(t:T):∃a b c d e,endW t= .agg 36 [a,b,c,d,e]:=by cases t<;>exact⟨_,_,_,_,_,rfl⟩
theorem prT_shape(k:Dig)(s:W)(t:T):∃a b c d e,prT k s t= .agg 67 [a,b,c,d,e]:=by
 unfold prT;split
 ·split<;>exact⟨_,_,_,_,_,rfl⟩
 ·exact⟨_,_,_,_,_,rfl⟩
noncomputable def q3q(t0:T)(k:Dig):W:=match t0.tail 0 k with
 |.leaf x v=>if x=k then prG k 1 yjq (bW v) (sdsW t0 k) else prG k 2 x (bW v) (sdsW t0 k)
 |_=>prG k 0 yjq (bW []) (sdsW t0 k)
theorem ueq:∀(t:T) (d:Nat) (k:Dig),(t.tail d k).isFork=false
 |.nil,_,_=>rfl
 |.leaf _ _,_,_=>rfl
 |.fork l r,d,k=>by
  unfold T.tail;split
  ·exact ueq l _ k
  ·exact ueq r _ k
theorem proof_view{blk:Nat->Option W}(t0:T)(k:Dig):View blk (prT k (sdsW t0 k) (t0.tail 0 k)) (q3q t0 k):=by
 unfold q3q;split
 ·rename_i x v e;rw[e];have:=prT_pur k (vLq t0 k) (.leaf x v);exact .pur this
 ·rename_i h;have e:=ueq t0 0 k;cases hq:t0.tail 0 k with
  |leaf x v=>exact absurd hq (h x v)
  |fork=>rw[hq] at e;cases e
  |nil=>exact .agg (.cons (.pur Xj) (.cons (.pur rfl) (.cons (.pur Xj) (.cons .nilfz (.cons (.pur (vLq t0 k)) .nil)))))
theorem pmake_s(t:Tree)(n:Nat)(t0:T)(h:IsT t n t0)(k:Dig):PS cfg glK 128 [tW t,dW k] (.tup [q3q t0 k,.int .i64 0]):=by
 have hsp:=vLq t0 k;have hep:=endW_pur (t0.tail 0 k);have hm0:purW (prG k 0 yjq .nils (sdsW t0 k))=true:=by unfold prG;simp[purW,purL]
 have hm1:=prT_pur k hsp (t0.tail 0 k);have hv:=λblk=>proof_view (blk:=blk) t0 k
 have hE:=pend_s (t0.tail 0 k) (ueq t0 0 k) k (sdsW t0 k);have hR:=troad_s t n t0 h k;have hso:purL ((t0.road 0 k).map sdW)=true:=yRq _;obtain⟨a1,a2,a3,a4,a5,ha⟩:=endW_shape (t0.tail 0 k);obtain⟨b1,b2,b3,b4,b5,hb⟩:=prT_shape k (sdsW t0 k) (t0.tail 0 k);rw[ha] at hep hE hR;rw[hb] at hm1 hE hv;refine gIv 12 Y (λR k0=>?_);refine op_pq hR ?_ (hw:=by show(purW (.agg 36 [a1,a2,a3,a4,a5])&&(purL ((t0.road 0 k).map sdW)&&true))=true;rw[hep,hso];rfl);refine zAq 14 Y (gFa 0 Y (gV (w':=prG k 0 yjq .nils (sdsW t0 k)) 9 Y (Qcq k _) (zeq 9 Y ?_)));skip
 refine gSo 0 Y (k5q (ext:=[4]) (ws:=[.ptr 0 0,.agg 36 [a1,a2,a3,a4,a5]]) Y Y Y Y (by show [W.ptr 4 0,_]=[W.ptr 4 0,renW _ (.agg 36 [a1,a2,a3,a4,a5])];rw[zZq hep]) hE Xn (by intro b hb;simp only[List.mem_cons,List.not_mem_nil,or_false] at hb;omega) Xj (handed1 (by rw[zZq hm0];rfl) (zkq hm0)) (by show(true&&(refB 1 (.agg 36 [a1,a2,a3,a4,a5])&&true))=true;rw[zkq hep];rfl) ?_);rintro w hp1 nw1 ⟨rfl,rfl,rfl⟩;simp only[renH,zZq hep,zZq hm1];skip
 exact zeq 13 Y (y0q Qx rfl (.tup (.cons (hv _) (.cons (.pur rfl) .nil))))
end
section
variable {C:Cfg} {G:Nat->Option W} {o:Oper} {fr:FrW} {hp:HpW} {nw:Nat} {R:Res} {post:W->HpW->Nat->Res->Option EvW->Prop}
theorem step_frz1{w w2 c:W}{ty:TypeId}(h:opHW C G fr hp nw o.op=some (w,(nw,ty,c)::hp,nw+1,.gen))(hc:purW c=true)(hv:View (blk1 nw c) w w2)(hpost:post w2 hp (nw+1) R (some .gen)):Step C G o fr hp nw R post:=λΓ X frv hnw s hf=>by
 subst hnw;obtain⟨v,h',Γ',h1,h2,h3,h4⟩:=opH_sim (rt:=o.type) hf s h;have sat:=h3.sat;have hb:hget ((Γ.nw,ty,c)::hp) Γ.nw=some (ty,c):=by rw[zsq,if_pos rfl]
 obtain⟨p1,p2,p3,u,p4,p5⟩:=sat.own _ _ _ hb;let Γ2:Ctx:=⟨Γ'.nw,Γ'.σ,λd=>Γ'.D d\/d=Γ'.σ Γ.nw,Γ'.h⟩
 have le:Γ'.Le Γ2:=⟨Nat.le_refl _,λ_ _=>rfl,λ_ h=>.inl h,λ_ _=>rfl⟩
 have q:Seen (blk1 Γ.nw c) Γ' Γ2:=⟨λ_ h _=>h,λ_ _ _=>rfl,λ_ h=>.inl h,λ_ _=>rfl,λk c' hk h=>by
  unfold blk1 at h;split at h
  ·rename_i e;rw[Nat.beq_eq] at e;subst e;cases h;exact⟨.inr rfl,u,uWq p4,p5⟩
  ·cases h⟩
 have hlt:Γ'.σ Γ.nw<Γ'.h.next:=by
  rcases Nat.lt_or_ge (Γ'.σ Γ.nw) Γ'.h.next with h|h
  ·exact h
  ·rw[sat.wf _ h] at p4;cases p4
 have hsub:∀k x,hget hp k=some x->k<Γ.nw/\hget ((Γ.nw,ty,c)::hp) k=some x:=λk x hk=>by
  have:=(s.own k x.1 x.2 hk).1;exact⟨this,by rw[zsq,if_neg Xd];exact hk⟩
 refine⟨0,w2,hp,R,some .gen,v,h',Γ2,X,?_,by simp only[opV,h1,h2],⟨h1,h4⟩,h3.hh,⟨Nat.le_trans h3.le.nw le.nw,h3.le.σ,λd h=>.inl (h3.le.D d h),h3.le.val⟩,⟨sat.wf,λk ty' w hk=>?_,λk k' x y hx hy e=>?_,s.nd,λd hd hX=>?_,sat.xlt,λd hd=>?_,R.st _ _ _ _ _ sat.res le.D le.val (λ_ _=>rfl) (Nat.le_refl _),sat.gl.mono le⟩,⟨h3.frm.sig,h3.frm.mle,h3.frm.next,h3.frm.keep,λd h=>.inl (h3.frm.dsub d h),λd hd=>?_,λk x _ hk=>⟨x,hk⟩,λk x hm hk=>?_,λ_ h=>.inl h,h3.frm.wmin⟩,k1q q hv h3.val⟩
 ·show post w2 hp Γ'.nw R _;rw[h3.nw];exact hpost
 ·obtain⟨g1,g2⟩:=hsub k _ hk;obtain⟨q1,q2,q3,u,q4,q5⟩:=sat.own _ _ _ g2;exact⟨q1,λh=>h.elim q2 λe=>by have:=sat.inj k _ _ _ g2 hb e;omega,q3,u,q4,q5.mono le⟩
 ·exact sat.inj _ _ _ _ (hsub k _ hx).2 (hsub k' _ hy).2 e
 ·rcases hd with h|rfl
  ·exact sat.dX d h hX
  ·exact p3 hX
 ·rcases hd with h|rfl
  ·exact sat.dlt d h
  ·exact hlt
 ·rcases hd with h|rfl
  ·exact h3.frm.dnew d h
  ·rcases h3.frm.onum Γ.nw _ (Nat.le_refl _) hb with h|⟨k,y,g1,g2,g3⟩
   ·exact .inr (.inr h)
   ·exact .inr (.inl (.inl ⟨k,y,g2,g3⟩))
 ·have:=(hsub k _ hk).1;omega
theorem step_nilz{w w2:W}(h:opHW C G fr hp nw o.op=some (w,hp,nw,.gen))(hv:View (λ_=>none) w w2)(hpost:post w2 hp (nw+1) R (some .gen)):Step C G o fr hp nw R post:=λΓ X frv hnw s hf=>by
 subst hnw;obtain⟨v,h',Γ',h1,h2,h3,h4⟩:=opH_sim (rt:=o.type) hf s h;have sat:=h3.sat;let Γ2:Ctx:=⟨Γ'.nw+1,Γ'.σ,Γ'.D,Γ'.h⟩
 have le:Γ'.Le Γ2:=⟨Nat.le_succ _,λ_ _=>rfl,λ_ h=>h,λ_ _=>rfl⟩;refine⟨0,w2,hp,R,some .gen,v,h',Γ2,X,?_,by simp only[opV,h1,h2],⟨h1,h4⟩,h3.hh,⟨Nat.le_trans h3.le.nw le.nw,h3.le.σ,h3.le.D,h3.le.val⟩,⟨sat.wf,λk ty' w hk=>?_,sat.inj,s.nd,sat.dX,sat.xlt,sat.dlt,R.st _ _ _ _ _ sat.res le.D le.val (λ_ _=>rfl) (Nat.le_refl _),sat.gl.mono le⟩,⟨h3.frm.sig,λh=>Nat.le_trans (h3.frm.mle h) (Nat.le_succ _),h3.frm.next,h3.frm.keep,h3.frm.dsub,h3.frm.dnew,h3.frm.oext,h3.frm.onum,λ_ h=>.inl h,h3.frm.wmin⟩,k1q (show Seen (λ_=>none) Γ' Γ2 from⟨λ_ h _=>Nat.lt_succ_of_lt h,λ_ _ _=>rfl,λ_ h=>h,λ_ _=>rfl,λ_ _ _ h=>Qt⟩) hv h3.val⟩
 ·show post w2 hp (Γ'.nw+1) R _;rw[h3.nw];exact hpost
 ·obtain⟨q1,q2,q3,u,q4,q5⟩:=sat.own _ _ _ hk;exact⟨Nat.lt_of_lt_of_le q1 (Nat.le_succ _),q2,q3,u,q4,q5.mono le⟩
theorem YUq{x y:Operand}{ts tx ty:TypeId}{j k:TyI}{e:Nat}{v:W}{news:List W}(ho:o.op= .call ⟨.builtin .append, #[x,y], #[ts,tx]⟩)(hx:evW C G fr x=some .nils)(hy:evW C G fr y=some v)(hj:C.ty ts=some j)(hd:j.d= .slice ty)(hk:C.ty ty=some k)(he:k.size=e)(hz:Nat.beq k.size 0=false)(hs:srcW C hp tx k.size v=some news)(hpu:purL news=true)(h1:news.length*k.bytes<=140737488355328)(h2:news.length<=70368744177664)(h:post (.fz news e false) hp (nw+1) R (some .gen)):Step C G o fr hp nw R post:=by
 subst he
 have hk0:0<k.size:=by
  rcases Nat.eq_zero_or_pos k.size with q|q
  ·rw[q] at hz;cases hz
  ·exact q
 cases news with
 |nil=>exact step_nilz (by rw[ho];exact ytq hx hy (vYq hj hd hk hz hs)) .nilfz h
 |cons z zs=>
  exact step_frz1 (by rw[ho];exact ytq hx hy (xqq hj hd hk hz hs Xj h1 h2)) (show purW (.arr _ _ (z::zs))=true from hpu) (.sl (full:=false) (c:=.arr ((z::zs).length*k.size) k.size (z::zs)) (by unfold blk1;rw[Nat.beq_refl]) hpu (zpq hk0 Y Y) Xh) h
end
section
attribute [local irreducible] CoW OpW FlW Step Spec
variable {G:Nat->Option W}
theorem rtwbody_s(ds:List Depo)(xs:List Tx)(f g:Bool)(hd:ds.length<=1000000)(hx:xs.length<=1000000):PS cfg G 72 [bodW ds xs f g] (bodW ds xs false false):=by
 have e1:(ds.map pdW).length=ds.length:=List.length_map _;have e2:(xs.map txW).length=xs.length:=List.length_map _;refine gI 17 Y (λR k0=>?_)
 (refine ycq rfl (YUq (k:=ti186) (e:=34) (news:=ds.map pdW) Y Y Y Y Y Y Y Y Y Xj (by rw[e1];show _*48<=_;omega) Xd ?_))
 refine zAq 10 Y ?_
 (refine ycq rfl (YUq (k:=ti91) (e:=99) (news:=xs.map txW) Y Y Y Y Y Y Y Y Y Xj (by rw[e2];show _*120<=_;omega) Xd ?_))
 exact zAq 11 Y (gQa 0 Y)
structure SmallC(c:Ch):Prop where
 nodes:c.tree.nodes.length<=1000000
 vals:∀x∈c.tree.nodes,x.val.length<=70368744177664
 len:c.links.length<=1000000
 link:∀x∈c.links,x.ds.length<=1000000/\x.xs.length<=1000000/\x.rs.length<=1000000
theorem c_get(b:Nat)(l:List W)(t:Tree):z6q 50 (.agg 3 [tW t,gW b 102 l]) 2 1 false=some (gW b 102 l):=by cases l<;>rfl
theorem c_put(b:Nat)(l:List W)(t:Tree)(b' n:Nat):quq 50 (.agg 3 [tW t,gW b 102 l]) 2 (.sl b' 0 0 n 102 none)=some (.agg 3 [tW t,.sl b' 0 0 n 102 none]):=by cases l<;>rfl
theorem rchtwin_s(c:Ch)(hs:SmallC c):PS cfg G 10 [chG c] (chG c):=by
 obtain⟨q1,q2,q3,q4⟩:=hs;have e:(c.links.map lkG).length=c.links.length:=List.length_map _;refine gIv 10 Y (λR k0=>gC 0 Y (rttwin_s c.tree Xd q2) (zeq 8 Y (Zjq (λ_=>ZFq (fr2:=[(1,.ptr 0 0),(2,.ptr 1 0),(3,.ptr 2 0)]) ⟨rfl,rfl,rfl,trivial⟩) (zcq Y Y ?_))))
 refine zAq 3 Y ?_;refine qeq (α:=Nat) (λi=>i<=c.links.length) (λi=>[(4,.int .i64 (i:Int))]) [(1,_),(2,_),(3,_)] (λi=>[(2,27,.agg 3 [tW c.tree,gW 3 102 ((c.links.take i).map lkG)]),(1,27,.agg 3 [.agg 2 [.nils,.int .i64 0],.nils]),(0,27,chG c)]++gH 3 155 102 ((c.links.take i).map lkG)) (λi=>c.links.length-i) (0) ⟨rfl,rfl,rfl,trivial⟩ (Nat.zero_le _) ⟨rfl,trivial⟩ (rfl) (λi hI=>?_);refine z1q 6 Y (gZ 0 Y e ?_);refine gS 3 Y (λh1=>?_) (λh1=>?_)
 ·have hi:i<c.links.length:=by omega
  obtain⟨x,hx⟩:∃x,c.links[i]? =some x:=⟨_,List.getElem?_eq_getElem hi⟩
  obtain⟨b1,b2,b3⟩:=q4 x (List.mem_of_getElem? hx);have e3:(x.rs.map rcW).length=x.rs.length:=List.length_map _;have el:((c.links.take i).map lkG).length=i:=by simp;omega
  have es:(c.links.take (i+1)).map lkG=(c.links.take i).map lkG++[lkG x]:=by rw[List.take_add_one,hx,List.map_append];rfl
  have ep:purL ((c.links.take i).map lkG++[lkG x])=true:=by rw[<-es];exact xUq _
  refine gP 9 Y (zrq (i:=i) Y Y Y Y Y Y Y (zoq lkG hx)) (gC 9 Y (rtwbody_s x.ds x.xs false false b1 b2) (zeq 14 Y ?_))
  (refine ycq rfl (YUq (k:=ti98) (e:=34) (news:=x.rs.map rcW) Y Y Y Y Y Y Y Y Y Xj (by rw[e3];show _*48<=_;omega) Xd ?_))
  refine zAq 6 Y (gM 0 Y (yMq Y Y Y (c_get 3 _ _)) (gM 2 Y (ytq Y Y (jSq [_,_,_,_,_] (k:=ti155) (news:=[lkG x]) Y Y Y Y Y (yQq Y Y Y Y) Xj (by show(((c.links.take i).map lkG).length+1)*192<=_;omega) (by show((c.links.take i).map lkG).length+1<=_;omega) rfl Xj)) (gM 1 Y (jgq Y Y Y Y Y (c_put 3 _ _ _ _) rfl) (gA 5 Y (i+1) (zeq 2 Y ?_)))));skip
  refine ypq (i+1) hi Xd ?_;simp only;have hne:(c.links.take i).map lkG++[lkG x]≠[]:=List.append_ne_nil_of_right_ne_nil _ Xj;rw[es,vdq hne,veq hne];refine qdq (b:=3) (k:=7) Xd Xd Xd ⟨⟨rfl,rfl⟩,⟨rfl,rfl⟩,⟨rfl,rfl⟩,⟨rfl,rfl⟩,trivial⟩ ⟨⟨by omega,?_,?_⟩,⟨by omega,rfl,rfl⟩,⟨by omega,?_,zkq Xj⟩,⟨by omega,?_,zkq ep⟩,trivial⟩ Xj
  ·show some (_,W.agg 3 [_,_])=some (_,W.agg 3 [renW _ (tW c.tree),renW _ (.sl 3 0 0 _ 102 none)]);rw[zZq (tW_pur _)];rfl
  ·show(refB _ (tW c.tree)&&_)=true;rw[zkq (tW_pur _)];rfl
  ·rw[zZq Xj];rfl
  ·rw[zZq (by exact ep)];rfl
 ·have hi:i=c.links.length:=by omega
  subst hi;rw[List.take_length];exact zeq 2 Y (y7q Xh (zYq 9 Y (y0q Qx Y (.agg (.cons (.pur Xj) (.cons (xIq (H0:=[(2,27,.agg 3 [tW c.tree,gW 3 102 (c.links.map lkG)]),(1,27,.agg 3 [tW c.tree,gW 3 102 (c.links.map lkG)]),(0,27,chG c)]) Xn (xUq _) Xj) .nil))))))
theorem rvtwin_s(v:Vw)(hs:SmallC v.ch):PS cfg G 34 [vwG v] (vwG v):=by
 refine gI 10 Y (λR k0=>?_);first|refine gC 0 Y (rchtwin_s v.ch hs) ?_|refine gC 0 Y (rchtwin_s _ Xp) ?_
 exact gQa 11 Y
def jUq(c:Ch)(n:Nat):Prop:=YMq c.tree 900\/n<c.links.length\/∃x∈c.links,yGq x.ds x.xs\/40<x.rs.length
noncomputable instance(c:Ch)(n:Nat):Decidable (jUq c n):=Classical.propDecidable _
theorem greatc_s(c:Ch)(n:Nat)(hb:c.tree.nodes.length<=4611686018427387903)(hl:c.links.length<=4611686018427387903):PS cfg G 9 [chG c,.int .i64 (n:Int)] (.bool (decide (jUq c n))):=by
 have e:(c.links.map lkG).length=c.links.length:=List.length_map _;by_cases hg:YMq c.tree 900
 ·skip
  exact gI 11 Y (λR k0=>gC 0 Y (zOq (w':=.bool true) (great_s c.tree 900 hb Xd) (by rw[decide_eq_true (hg)])) (gQ 17 Y (dec_t (.inl hg))))
 refine gI 11 Y (λR k0=>gC 0 Y (zOq (w':=.bool false) (great_s c.tree 900 hb Xd) (by rw[decide_eq_false (hg)])) (gZ 3 Y e (gU 1 Y ?_)));refine gS 3 Y (λh1=>?_) (λh1=>?_)
 ·exact gQ 7 Y (dec_t (.inr (.inl Xd)))
 refine gLo (α:=Nat) 9 (λi=>i<=c.links.length/\∀j x,j<i->c.links[j]? =some x->¬(yGq x.ds x.xs\/40<x.rs.length)) (λi=>[(5,.int .i64 (i:Int))]) [2,4] (λi=>c.links.length-i) (0) rfl (⟨Nat.zero_le _,λj x h=>by omega⟩) (λi hI=>?_);obtain⟨g1,g2⟩:=hI;refine gZ 6 Y e ?_;refine gS 3 Y (λh2=>?_) (λh2=>?_)
 ·have hi:i<c.links.length:=by omega
  obtain⟨x,hx⟩:∃x,c.links[i]? =some x:=⟨_,List.getElem?_eq_getElem hi⟩
  have er:(x.rs.map rcW).length=x.rs.length:=List.length_map _;refine gP 9 Y (zrq (i:=i) Y Y Y Y Y Y Y (zoq lkG hx)) (gC 2 Y (great16_s x.ds x.xs false false) ?_);refine gB 0 Y (λh3=>?_) (λh3=>?_)
  ·exact gO 21 Y (gQ 2 Y (dec_t (.inr (.inr ⟨x,List.mem_of_getElem? hx,.inl h3⟩))))
  ·refine gP 4 Y (zrq (i:=i) Y Y Y Y Y Y Y (zoq lkG hx)) (gZ 2 Y er (gU 0 Y ?_));refine gS 3 Y (λh4=>?_) (λh4=>?_)
   ·exact gO 8 Y (gQ 2 Y (dec_t (.inr (.inr ⟨x,List.mem_of_getElem? hx,.inr Xd⟩))))
   ·exact gA 5 Y (i+1) (gAg 2 Y (i+1) (⟨hi,λj y hj hy=>by rcases Nat.lt_succ_iff_lt_or_eq.1 hj with q|rfl;exact g2 j y q hy;exact Option.some.inj (hx.symm.trans hy)▸λq=>q.elim h3 Xd⟩) Xd)
 ·have no:¬jUq c n:=by
   rintro(q|q|⟨x,hx,q⟩)
   ·exact hg q
   ·omega
   ·obtain⟨j,hj⟩:=List.getElem?_of_mem hx;exact g2 j x (by have:=vsq hj;omega) hj q
  exact gO 2 Y (gQ 8 Y (z9q no))
theorem uyq(v:Vw)(n:Nat)(hb:v.ch.tree.nodes.length<=4611686018427387903)(hl:v.ch.links.length<=4611686018427387903):PS cfg G 33 [vwG v,.int .i64 (n:Int)] (.bool (decide (jUq v.ch n))):=by
 exact gI 11 Y (λR k0=>gC 0 Y (greatc_s v.ch n hb hl) (gQa 4 Y))
theorem greatc_no{c:Ch}{n:Nat}(h:¬jUq c n):c.tree.nodes.length<=900/\c.links.length<=n/\∀x∈c.links,¬yGq x.ds x.xs/\x.rs.length<=40:=
 ⟨Nat.le_of_not_lt λq=>h (.inl (.inl q)),Nat.le_of_not_lt λq=>h (.inr (.inl q)),λx hx=>⟨λq=>h (.inr (.inr ⟨x,hx,.inl q⟩)),Nat.le_of_not_lt λq=>h (.inr (.inr ⟨x,hx,.inr q⟩))⟩⟩
theorem clink_s(x:Lk)(h:x.ds.length<=1000000/\x.xs.length<=1000000/\x.rs.length<=1000000):PS cfg G 101 [lkG x] (lkG x):=by
 obtain⟨h1,h2,h3⟩:=h;exact gI 11 Y (λR k0=>gC 0 Y (cld_s x.ds false Xd) (gC 3 Y (clx_s x.xs false Xd) (gC 9 Y (clr_s x.rs false Xd) (gQa 11 Y))))
theorem ctrn_s(l:List Lk)(f:Bool)(hl:l.length<=1000000)(hs:∀x∈l,x.ds.length<=1000000/\x.xs.length<=1000000/\x.rs.length<=1000000):PL cfg G 100 [.fz (l.map lkG) 102 f,.fn 101 [] []] 155 102 (l.map lkG):=by
 have e:(l.map lkG).length=l.length:=List.length_map _;intro R;refine gIs 14 Y (λk0=>?_);refine gZ 0 Y e (zeq 4 Y ?_);refine vVq (α:=Nat) (λi=>i<=l.length) 5 (λi=>(l.take i).map lkG) 155 102 (λi=>[(10,.int .i64 (i:Int))]) [(1,_),(4,_),(8,_),(9,_)] _ (λi=>l.length-i) (0) ⟨rfl,rfl,rfl,rfl,trivial⟩ (Nat.zero_le _) ⟨rfl,trivial⟩ Y Y Y (λi hI=>?_);refine z1q 6 Y ?_;refine gS 0 Y (λh1=>?_) (λh1=>?_)
 ·have hi:i<l.length:=by omega
  obtain⟨x,hx⟩:∃x,l[i]? =some x:=⟨_,List.getElem?_eq_getElem hi⟩
  have es:(l.take (i+1)).map lkG=(l.take i).map lkG++[lkG x]:=by rw[List.take_add_one,hx,List.map_append];rfl
  have el:((l.take i).map lkG).length=i:=by simp;omega
  have ep:purL ((l.take i).map lkG++[lkG x])=true:=by rw[<-es];exact xUq _
  have ep2:purL ((l.take i).map lkG)=true:=xUq _;exact gP 6 Y (zrq (i:=i) Y Y Y Y Y Y Y (zoq lkG hx)) (gC 9 Y (clink_s x (hs x (List.mem_of_getElem? hx))) (gM 1 Y (ytq Y Y (jSq [_,_] (k:=ti155) (news:=[lkG x]) Y Y Y Y Y (yQq Y Y Y Y) Xj (by show(((l.take i).map lkG).length+1)*192<=_;omega) (by show((l.take i).map lkG).length+1<=_;omega) rfl Xj)) (gWr 5 Y (zeq 2 Y (jdq 3 (i+1) (hi) Xd (Nat.zero_le _) (es) Xv Xd Yj rfl Xy ⟨rfl,trivial⟩ ⟨rfl,rfl,rfl,rfl,trivial⟩ Xg Xg rfl Xk Xi Yd)))))
 ·have hi:i=l.length:=by omega
  subst hi;rw[List.take_length];exact zeq 2 Y (y7q Xh (zYq 9 Y (fin Qx (z7q (fr2:=[(4,gW 0 102 (l.map lkG))]) ⟨rfl,trivial⟩ Y Y) rfl ⟨rfl,rfl,rfl,rfl⟩)))
theorem SmallC.vl{c:Ch}(h:SmallC c):c.tree.nodes.length<=1000000000:=by have:=h.nodes;omega
theorem chead_s(c:Ch)(hc:OkC c)(h:MayC c){y:Lk}(hy:c.links[c.links.length-1]? =some y):PS cfg glK 11 [chG c] (.tup [hdW y.hdr,.int .i64 0]):=by
 have e:(c.links.map lkG).length=c.links.length:=List.length_map _;have h1:=h.one;have hl:=hc.len;exact gI 11 Y (λR k0=>gC 0 Y (zOq (w':=.int .i64 0) (vWq c hc) (by rw[if_pos h])) (gFa 6 Y (gZ 11 Y e (gA 0 Y (c.links.length-1) (gP 0 Y (zrq (i:=c.links.length-1) Y Y Y Y Y Y Y (zoq lkG hy)) (gQa 7 Y))))))
theorem cstate_s(c:Ch)(hc:OkC c)(hs:SmallC c)(i:Nat)(hm:MayC c){x:Lk}(hx:c.links[i]? =some x):PS cfg glK 13 [chG c,.int .i64 (i:Int)] (.tup [tW (verT c x.root),.int .i64 0]):=by
 have e:(c.links.map lkG).length=c.links.length:=List.length_map _;have hi:=vsq hx;refine gI 12 Y (λR k0=>gC 0 Y (zOq (w':=.int .i64 0) (vWq c hc) Yw) (gFa 0 Y (gF 7 Y (ltI_not.2 Xd) (gZ 4 Y e (gF 0 Y (congrArg not (ltI_iff.2 Xd)) (gP 15 Y (zrq (i:=i) Y Y Y Y Y Y Y (zoq lkG hx)) (gC 2 Y (ver_s c.tree x.root) ?_)))))));first|refine gC 0 Y (twinp_s (verT c x.root) hs.vl hs.vals) ?_|refine gC 0 Y (twinp_s c.tree hs.vl hs.vals) ?_
 exact gQa 5 Y
theorem seqb_s(a b:List UInt8)(f g:Bool)(hb:a.length<=1000000000):PS cfg G 190 [.fz (zbq a) 1 f,.fz (zbq b) 1 g] (.bool (decide (a=b))):=by
 have ea:=zdq a;have eb:=zdq b;refine gI 9 Y (λR k0=>gZ 0 Y ea (gZ 1 Y eb ?_));refine gS 3 Y (λh1=>?_) (λh1=>?_)
 ·exact gQ 7 Y Yh
 ·refine gZ 6 Y ea ?_;refine gLo (α:=Nat) 4 (λi=>i<=a.length/\a.take i=b.take i) (λi=>[(13,.int .i64 (i:Int))]) [0,1,4,12] (λi=>a.length-i) (0) rfl (⟨Nat.zero_le _,rfl⟩) (λi hI=>?_);obtain⟨g1,g2⟩:=hI;refine gS 6 Y (λh2=>?_) (λh2=>?_)
  ·obtain⟨x,hx⟩:∃x,a[i]? =some x:=⟨_,List.getElem?_eq_getElem Xd⟩
   obtain⟨y,hy⟩:∃y,b[i]? =some y:=⟨_,List.getElem?_eq_getElem Xd⟩
   refine gP 14 Y (zrq (i:=i) Y Y Y Y Y Y Y (koq hx)) (gP 3 Y (zrq (i:=i) Y Y Y Y Y Y Y (koq hy)) ?_);refine gS 4 Y (λh3=>?_) (λh3=>?_)
   ·exact gO 8 Y (gQ 2 Y (by rw[decide_eq_false (Znq hx hy λq=>h3 Yy)]))
   ·exact gA 4 Y (i+1) (gAg 2 Y (i+1) (⟨by omega,qyq g2 hx hy (UInt8.toNat_inj.1 (Int.ofNat.inj (Classical.not_not.1 h3)))⟩) Xd)
  ·exact gO 2 Y (gQ 8 Y Yk)
end
section
attribute [local irreducible] CoW OpW FlW Step Spec
attribute [local simp] xzq
open Classical in
noncomputable def heldL(t:Tree):List Pr:=if h:∃n t0,IsA t n t0 then h.choose_spec.choose.all else []
structure CanAdd(c:Ch)(ds:List Depo)(xs:List Tx)(box:Dig):Prop where
 may:MayC c
 short:c.links.length<256
 many:ds.length<=16/\xs.length<=16
 goes:doX box (doD (heldL c.tree) ds).1 xs≠none
noncomputable instance(c:Ch)(ds:List Depo)(xs:List Tx)(box:Dig):Decidable (CanAdd c ds xs box):=Classical.propDecidable _
end
section
attribute [local irreducible] CoW OpW FlW Step Spec
variable {G:Nat->Option W}
def HeldB(ps:List Pr):Prop:=∀p∈ps,(qtq p.2).2=0
noncomputable instance(ps:List Pr):Decidable (HeldB ps):=Classical.propDecidable _
theorem rheld_s(ps:List Pr)(f:Bool)(hb:ps.length<=1000000000):PS cfg G 198 [.fz (ps.map pW) 33 f] (.bool (decide (HeldB ps))):=by
 have e:(ps.map pW).length=ps.length:=List.length_map _;refine gI 12 Y (λR k0=>?_);refine gLo (α:=Nat) 0 (λi=>i<=ps.length/\∀j x,j<i->ps[j]? =some x->(qtq x.2).2=0) (λi=>[(3,.int .i64 (i:Int))]) [0,2] (λi=>ps.length-i) (0) rfl (⟨Nat.zero_le _,λj x h=>by omega⟩) (λi hI=>?_);obtain⟨g1,g2⟩:=hI;refine gV (w':=.int .i64 (ps.length:Int)) 5 Y Xw ?_;refine gS 3 Y (λh1=>?_) (λh1=>?_)
 ·have hi:i<ps.length:=by omega
  obtain⟨x,hx⟩:∃x,ps[i]? =some x:=⟨_,List.getElem?_eq_getElem hi⟩
  refine gP 8 Y (zrq (i:=i) Y Y Y Y Y Y Y (zoq pW hx)) (gC 2 Y (raread_s _ _) ?_);refine gS 14 Y (λh2=>?_) (λh2=>?_)
  ·refine gO 8 Y (zeq 2 Y ?_);have hno:¬HeldB ps:=λh=>by have:=h x (List.mem_of_getElem? hx);omega
   exact gQ 0 Y Yg
  ·have h0:(qtq x.2).2=0:=by omega
   exact gA 5 Y (i+1) (gAg 2 Y (i+1) (⟨hi,λj y hj hy=>by rcases Nat.lt_succ_iff_lt_or_eq.1 hj with q|rfl;exact g2 j y q hy;have:=Option.some.inj (hx.symm.trans hy);subst this;exact h0⟩) Xd)
 ·refine gO 2 Y (zeq 8 Y ?_)
  have yes:HeldB ps:=λp hp=>by
   obtain⟨j,hj⟩:=List.getElem?_of_mem hp;have:=(List.getElem?_eq_some_iff.1 hj).1;exact g2 j p Xd hj
  exact gQ 0 Y (by rw[decide_eq_true yes])
theorem mayA_iff{t:Tree}{n:Nat}{t0:T}(h:IsT t n t0):MayA t↔HeldB t0.all:=by
 constructor
 ·rintro⟨n',t',h'⟩;have hn:n=n':=by have:=h.root;have:=h'.root;omega
  subst hn;rw[h.rep.uniq h'.rep];exact h'.held
 ·exact λq=>⟨n,t0,h,q⟩
theorem mayA_T{t:Tree}(h:MayA t):MayT t:=by obtain⟨n,t0,h⟩:=h;exact h.toIsT.may
theorem ramay_s(t:Tree)(hb:t.nodes.length<=4611686018427387903):PS cfg G 110 [tW t] (.bool (decide (MayA t))):=by
 by_cases hT:MayT t
 ·obtain⟨n,t0,h⟩:=may_is hT;have hl:t0.all.length<=1000000000:=by have:=h.all_le;have:=h.len;omega
  have h2:decide (MayA t)=decide (HeldB t0.all):=decide_eq_decide.2 (mayA_iff h);rw[h2];refine gI 9 Y (λR k0=>gC 0 Y (zOq (w':=.bool true) (rmay_s t hb) (by rw[decide_eq_true hT])) ?_);refine gB 0 Y (λh1=>?_) (λh1=>?_)
  ·exact gC 2 Y (rall_s t n t0 h) (gC 0 Y (rheld_s _ _ Xp) (gQa 5 Y))
  ·exfalso;exact h1 rfl
 ·have h2:decide (MayA t)=false:=decide_eq_false λh=>hT (mayA_T h)
  rw[h2];refine gI 9 Y (λR k0=>gC 0 Y (zOq (w':=.bool false) (rmay_s t hb) (by rw[decide_eq_false hT])) ?_);refine gB 0 Y (λh1=>?_) (λh1=>?_)
  ·exfalso;cases h1
  ·exact gQa 9 Y
theorem idx_find(k:Dig):∀ps:List Pr,(∃(i:Nat) (x:Pr),ps[i]? =some x/\idxP ps k=i/\uDq ps k=some x.2)\/(idxP ps k=-1/\uDq ps k=none)
 |[]=>.inr ⟨rfl,rfl⟩
 | p ::ps=>by
  by_cases e:p.1=k
  ·refine .inl ⟨0,p,rfl,?_,?_⟩
   ·simp[idxP,List.findIdx?_cons,e]
   ·simp[uDq,e]
  ·rcases idx_find k ps with ⟨i,x,h1,h2,h3⟩|⟨h1,h2⟩
   ·refine .inl ⟨i+1,x,by simpa using h1,?_,?_⟩
    ·unfold idxP at h2⊢;rw[List.findIdx?_cons];simp only[e,decide_false,Bool.false_eq_true,if_false];cases hq:ps.findIdx? (λp=>decide (p.1=k)) with
     |none=>rw[hq] at h2;exfalso;simp only at h2;omega
     |some j=>rw[hq] at h2;simp only[Option.map_some] at h2⊢;omega
    ·rw[<-h3];simp[uDq,e]
   ·refine .inr ⟨?_,?_⟩
    ·unfold idxP at h1⊢;rw[List.findIdx?_cons];simp only[e,decide_false,Bool.false_eq_true,if_false];cases hq:ps.findIdx? (λp=>decide (p.1=k)) with
     |none=>rfl
     |some j=>rw[hq] at h1;simp only at h1;omega
    ·rw[<-h2];simp[uDq,e]
def inA(ps:List Pr)(k:Dig):Acct:=match uDq ps k with
 |some v=>(qtq v).1
 |none=>.zero
theorem rin_s(ps:List Pr)(f:Bool)(k:Dig)(hb:ps.length<=1000000000):PS cfg G 205 [.fz (ps.map pW) 33 f,dW k] (aW (inA ps k)):=by
 rcases idx_find k ps with ⟨i,x,q1,q2,q3⟩|⟨q1,q2⟩
 ·have e:inA ps k=(qtq x.2).1:=by unfold inA;rw[q3]
  have hi:=(List.getElem?_eq_some_iff.1 q1).1;rw[e];refine gI 10 Y (λR k0=>gC 0 Y (zOq (w':=.int .i64 (i:Int)) (rfind_s ps f k hb) (by rw[q2])) ?_);refine gS 10 Y (λh1=>?_) (λh1=>?_)
  ·exfalso;omega
  ·exact gP 6 Y (zrq (i:=i) Y Y Y Y Y Y Y (zoq pW q1)) (gC 2 Y (raread_s _ _) (gQa 15 Y))
 ·have e:inA ps k= .zero:=by unfold inA;rw[q2]
  rw[e];refine gI 10 Y (λR k0=>gC 0 Y (zOq (w':=.int .i64 (-1)) (rfind_s ps f k hb) (by rw[q1])) ?_);refine gS 10 Y (λh1=>?_) (λh1=>?_)
  ·exact gQa 8 Y
  ·exfalso;omega
def okB(l:List Pr):Prop:=MayP l/\HeldB l
noncomputable instance(l:List Pr):Decidable (okB l):=Classical.propDecidable _
end
section
attribute [local irreducible] CoW OpW FlW Step Spec
theorem vvq{c:Ch}{n:Nat}(hn:n<=1000)(h:¬jUq c n):SmallC c:=by
 obtain⟨h1,h2,h3⟩:=greatc_no h;refine⟨by omega,λx hx=>?_,by omega,λx hx=>?_⟩
 ·obtain⟨j,hj⟩:=List.getElem?_of_mem hx;have:=vsq hj;refine Nat.le_of_not_lt λq=>h (.inl (.inr ⟨j,x,by omega,hj,by omega⟩))
 ·obtain⟨k1,k2⟩:=h3 x hx;unfold yGq at k1;omega
end
section
attribute [local irreducible] CoW OpW FlW Step Spec
variable {G:Nat->Option W}
def SameK(x y:Lk):Prop:=x.hdr=y.hdr/\(x.ds=y.ds/\x.xs=y.xs)/\x.rs=y.rs
noncomputable instance(x y:Lk):Decidable (SameK x y):=Classical.propDecidable _
theorem Y2q(x y:Lk)(h:x.ds.length<=1000000/\x.xs.length<=1000000/\x.rs.length<=1000000):PS cfg G 79 [lkG x,lkG y] (.bool (decide (SameK x y))):=by
 obtain⟨h1,h2,h3⟩:=h;refine gI 13 Y (λR k0=>?_);refine gDe 0 Y (ysq Y Y Y Y (eq_hd _ _)) z8q (λh1=>?_) (λh1=>?_)
 ·refine gC 5 Y (rsbody_s x.ds x.xs y.ds y.xs false false false false Xd Xd) ?_;refine gB 0 Y (λh2=>?_) (λh2=>?_)
  ·exact gC 6 Y (rseqr_s x.rs y.rs false false Xd) (gQ 5 Y (dec_c ⟨λq=>⟨by assumption,by assumption,q⟩,λq=>q.2.2⟩))
  ·exact gQ 12 Y (z9q λq=>absurd q.2.1 Xp)
 ·exact gQ 18 Y (z9q λq=>absurd q.1 Xp)
end
section
attribute [local irreducible] CoW OpW FlW Step Spec
def MayV(v:Vw):Prop:=MayC v.ch/\(0<=v.final/\v.final<(v.ch.links.length:Int)/\0<=v.number/\v.number<=1073741823)
noncomputable instance(v:Vw):Decidable (MayV v):=Classical.propDecidable _
theorem qEq(v:Vw)(hc:OkC v.ch):PS cfg glK 59 [vwG v] (.int .i64 (if MayV v then 0 else 8)):=by
 have e:(v.ch.links.map lkG).length=v.ch.links.length:=List.length_map _;by_cases hm:MayC v.ch
 ·skip
  refine gI 11 Y (λR k0=>gC 0 Y (zOq (w':=.int .i64 0) (vWq v.ch hc) Yw) (gFa 0 Y ?_));refine gD 3 Y (λh1=>?_) (λh1=>?_)
  ·exact gQ 30 Y Xx
  ·refine gZ 7 Y e ?_;refine gD 0 Y (λh2=>?_) (λh2=>?_)
   ·exact gQ 21 Y Xx
   ·refine gD 4 Y (λh3=>?_) (λh3=>?_)
    ·exact gQ 16 Y Xx
    ·refine gU 4 Y ?_;refine gS 3 Y (λh4=>?_) (λh4=>?_)
     ·exact gQ 7 Y Xx
     ·exact gQ 8 Y Xx
 ·skip
  exact gI 11 Y (λR k0=>gC 0 Y (zOq (w':=.int .i64 8) (vWq v.ch hc) Qq) (gTa 0 Y (gQ 34 Y (by rw[if_neg λq=>hm q.1]))))
end
section
attribute [local irreducible] CoW OpW FlW Step Spec
variable {G:Nat->Option W}
theorem acct_in{t:Tree}{n:Nat}{t0:T}(h:IsT t n t0)(k:Dig):uQq t0 k=inA t0.all k:=by
 unfold uQq inA;rw[uCq k YNq h.ok];cases uDq t0.all k<;>rfl
theorem tx_sub(x:Tx):yxq 50 (txW x) 0 32 1=some (zbq x.pub.1)/\yxq 50 (txW x) 32 32 1=some (zbq x.to.1):=by
 have h:∀d:Dig,(zbq d.1).length=32:=λd=>by rw[zdq,d.2]
 constructor
 ·show some (((zbq x.pub.1).drop (0/1)).take 32)=_;rw[show 0/1=0 from rfl,List.drop_zero,List.take_of_length_le (by rw[h];omega)]
 ·show some (((zbq x.to.1).drop (0/1)).take 32)=_;rw[show 0/1=0 from rfl,List.drop_zero,List.take_of_length_le (by rw[h];omega)]
theorem rbody_s(x:Tx)(hx:x.ok):PS cfg G 278 [txW x] (bW (jtq x)):=by
 have h1:=hx.nonce;have h2:=hx.amount;have h3:=hx.fee;have l1:(zbq x.pub.1).length=32:=by rw[zdq,x.pub.2]
 have l2:(zbq x.to.1).length=32:=by rw[zdq,x.to.2]
 have n1:(zbq (beB 8 x.nonce)).length=8:=by rw[zdq,qpq]
 have n2:(zbq (beB 8 x.amount)).length=8:=by rw[zdq,qpq]
 have n3:(zbq (beB 8 x.fee)).length=8:=by rw[zdq,qpq]
 have eb:zbq (jtq x)=(((zbq x.pub.1++zbq x.to.1)++zbq (beB 8 x.nonce))++zbq (beB 8 x.amount))++zbq (beB 8 x.fee):=by simp[jtq,zbq]
 refine gIv 16 Y (λR k0=>gM 0 Y (ytq Y Y (xqq (k:=ti5) (news:=zbq x.pub.1) Y Y Y Y (yQq Y Y Y (tx_sub x).1) (by intro h;rw[h] at l1;cases l1) (by rw[l1];decide) (by rw[l1];decide))) (gM 8 Y (ytq Y Y (qqq (k:=ti5) (len:=(zbq x.pub.1).length) (news:=zbq x.to.1) (olds:=zbq x.pub.1) Y Y Y Y (yQq Y Y Y (tx_sub x).2) (by intro h;rw[h] at l2;cases l2) (by rw[l1,l2];decide) (by rw[l1,l2];decide) rfl (by show(zbq x.pub.1).length*1<0+(_+_)*1;rw[l1,l2];decide) rfl (zpq Xn Y Y))) (zeq 7 Y ?_)))
 ((refine ycq rfl (kbq Y Y Y Y Y Y (jFq _ 8 Xp Xd) ?_);rintro w hp1 nw1 ⟨rfl,rfl,rfl⟩))
 refine zAq 11 Y ?_
 ((refine ycq rfl (kbq Y Y Y Y Y Y (jFq _ 8 Xp Xd) ?_);rintro w hp1 nw1 ⟨rfl,rfl,rfl⟩))
 refine zAq 11 Y ?_
 ((refine ycq rfl (kbq Y Y Y Y Y Y (jFq _ 8 Xp Xd) ?_);rintro w hp1 nw1 ⟨rfl,rfl,rfl⟩))
 exact zAq 11 Y (gM 0 Y (ytq Y Y (qqq (k:=ti5) (len:=(zbq x.pub.1).length+(zbq x.to.1).length) (news:=zbq (beB 8 x.nonce)) (olds:=zbq x.pub.1++zbq x.to.1) Y Y Y Y (yQq Y Y Y (zpq Xn n1.symm rfl)) (by intro h;rw[h] at n1;cases n1) (by rw[l1,l2,n1];decide) (by rw[l1,l2,n1];decide) rfl (by show(_+_)*1<0+(_+_)*1;rw[l1,l2,n1];decide) rfl (zpq Xn List.length_append.symm rfl))) (gM 7 Y (ytq Y Y (qqq (k:=ti5) (len:=(zbq x.pub.1).length+(zbq x.to.1).length+(zbq (beB 8 x.nonce)).length) (news:=zbq (beB 8 x.amount)) (olds:=(zbq x.pub.1++zbq x.to.1)++zbq (beB 8 x.nonce)) Y Y Y Y (yQq Y Y Y (zpq Xn n2.symm rfl)) (by intro h;rw[h] at n2;cases n2) (by rw[l1,l2,n1,n2];decide) (by rw[l1,l2,n1,n2];decide) rfl (by show(_+_)*1<0+(_+_)*1;rw[l1,l2,n1,n2];decide) rfl (zpq Xn (by rw[List.length_append,List.length_append]) rfl))) (gM 7 Y (ytq Y Y (qqq (k:=ti5) (len:=(zbq x.pub.1).length+(zbq x.to.1).length+(zbq (beB 8 x.nonce)).length+(zbq (beB 8 x.amount)).length) (news:=zbq (beB 8 x.fee)) (olds:=((zbq x.pub.1++zbq x.to.1)++zbq (beB 8 x.nonce))++zbq (beB 8 x.amount)) Y Y Y Y (yQq Y Y Y (zpq Xn n3.symm rfl)) (by intro h;rw[h] at n3;cases n3) (by rw[l1,l2,n1,n2,n3];decide) (by rw[l1,l2,n1,n2,n3];decide) rfl (by show(_+_)*1<0+(_+_)*1;rw[l1,l2,n1,n2,n3];decide) rfl (zpq Xn (by rw[List.length_append,List.length_append,List.length_append]) rfl))) (zeq 4 Y (y0q Qx Y (.sl (full:=false) (xs:=zbq (jtq x)) rfl (show purL ((((zbq x.pub.1++zbq x.to.1)++zbq (beB 8 x.nonce))++zbq (beB 8 x.amount))++zbq (beB 8 x.fee))=true by rw[<-eb];simp) (by rw[eb,l1,l2,n1,n2,n3];exact zpq Xn (by simp[l1,l2,n1,n2,n3]) rfl) Xh))))))
theorem rtxcheck_s(x:Tx)(hx:x.ok):PS cfg G 200 [txW x] (.int .i64 (if x.sign=kXq x then 0 else 110)):=by
 have hb:=Qyq x;refine ps_in (fn:=Tryz.f200) Y Y Y (Yb rfl) (λR k0=>?_);by_cases h:x.sign=kXq x
 ·rw[if_pos h];skip
  exact z1q 12 Y (gC 0 Y (rbody_s x hx) (gC 0 Y (rtone_s 4 (jtq x) Xd) (vzq (w':=.bool false) rfl (q1q Y Y Y Y (yBq Y Y Y Y Y Y x.sign (kXq x) 250)) (by rw[decide_eq_true h];rfl) (y4q 11 Y (gQa 0 Y)))))
 ·rw[if_neg h];exact z1q 12 Y (gC 0 Y (rbody_s x hx) (gC 0 Y (rtone_s 4 (jtq x) Xd) (vzq (w':=.bool true) rfl (q1q Y Y Y Y (yBq Y Y Y Y Y Y x.sign (kXq x) 250)) (by rw[decide_eq_false h];rfl) (y4q 10 Y (gQa 0 Y)))))
theorem rhof_s(h:Hdr)(hh:okH h):PS cfg G 212 [hdW h] (bW (hdB h)):=by
 obtain⟨i,p,s,r,j⟩:=h;obtain⟨h1,h2,h3,h4⟩:=hh;obtain⟨n,rfl⟩:=Int.eq_ofNat_of_zero_le h1;obtain⟨m,rfl⟩:=Int.eq_ofNat_of_zero_le h3;simp only at h2 h4;have e:hdB ⟨(n:Int),p,s,r,(m:Int)⟩=(((beB 8 n++p.1)++s.1)++r.1)++beB 4 m:=by simp[hdB]
 obtain⟨s1,s2,s3⟩:=hd_sub ⟨(n:Int),p,s,r,(m:Int)⟩;have l1:=p.2;have l2:=s.2;have l3:=r.2;have l4:=qpq 8 n;have l5:=qpq 4 m;have l6:(zbq (beB 4 m)).length=4:=by rw[zdq,l5]
 rw[e];refine gIv 10 Y (λR k0=>gA 0 Y (n) ?_)
 (refine ycq rfl (kbq Y Y Y Y Y Y (jFq n 8 Xd Xd) ?_);rintro w hp1 nw1 ⟨rfl,rfl,rfl⟩)
 refine zAq 11 Y (gA 0 Y (m) ?_)
 (refine ycq rfl (kbq Y Y Y Y Y Y (jFq m 4 Xd Xd) ?_);rintro w hp1 nw1 ⟨rfl,rfl,rfl⟩)
 exact zAq 12 Y (gM 0 Y (ytq Y Y (app_bs (k:=ti5) (L:=beB 8 n) (M:=p.1) Y Y Y Y Y Y (yQq Y Y Y s1) rfl l4 Xd Xd)) (gM 8 Y (ytq Y Y (app_bs (k:=ti5) (L:=beB 8 n++p.1) (M:=s.1) Y Y Y Y Y Y (yQq Y Y Y s2) Y Y Xd (by simp[l1,l2,l4]))) (gM 8 Y (ytq Y Y (app_bs (k:=ti5) (L:=(beB 8 n++p.1)++s.1) (M:=r.1) Y Y Y Y Y Y (yQq Y Y Y s3) Y Y Xd (by simp[l1,l2,l3,l4]))) (gM 7 Y (ytq Y Y (app_bs (k:=ti5) (L:=((beB 8 n++p.1)++s.1)++r.1) (M:=beB 4 m) Y Y Y Y Y Y (yQq Y Y Y (zpq Xn l6.symm rfl)) Y Y Xd (by simp[l1,l2,l3,l4,l5]))) (zeq 4 Y (y0q Qx rfl (.sl (full:=false) rfl Xj (zpq Xn (zdq _).symm rfl) Xh)))))))
theorem rhname_s(h:Hdr)(hh:okH h):PS cfg G 132 [hdW h] (dW (hashD h)):=by
 exact gI 9 Y (λR k0=>gC 0 Y (rhof_s h hh) (gC 0 Y (rtone_s 6 (hdB h) (by rw[hdB_len];omega)) (gQa 4 Y)))
theorem rhfol_s(h p:Hdr):PS cfg G 109 [hdW h,hdW p] (.bool (decide (FolB h p))):=by
 by_cases hh:okH h
 ·by_cases hp:okH p
  ·obtain⟨q1,q2,q3,q4⟩:=id hp;refine gI 10 Y (λR k0=>gC 0 Y (zOq (w':=.bool true) (u3q h) (by rw[decide_eq_true (hh)])) (gC 2 Y (zOq (w':=.bool true) (u3q p) (by rw[decide_eq_true (hp)])) (gWr 6 Y ?_)));refine gD 0 Y (λh1=>?_) (λh1=>?_)
   ·exact gC 5 Y (rhname_s p ⟨q1,q2,q3,q4⟩) (gUe 0 Y (ysq Y Y Y Y (yBq Y Y Y Y Y Y _ _ 250)) z8q (gQ 5 Y (dec_c ⟨λq=>⟨hh,hp,by simpa using h1,q⟩,λq=>q.2.2.2⟩)))
   ·exact gQ 12 Y (z9q λq=>h1 (by simpa using q.2.2.1))
  ·skip
   exact gI 10 Y (λR k0=>gC 0 Y (zOq (w':=.bool true) (u3q h) (by rw[decide_eq_true (hh)])) (gC 2 Y (zOq (w':=.bool false) (u3q p) (by rw[decide_eq_false (hp)])) (gQ 20 Y (z9q λq=>hp q.2.1))))
 ·skip
  exact gI 10 Y (λR k0=>gC 0 Y (zOq (w':=.bool false) (u3q h) (by rw[decide_eq_false (hh)])) (gQ 23 Y (z9q λq=>hh q.1)))
theorem rmbody_s(ds:List Depo)(xs:List Tx)(f g:Bool)(hx:∀x∈xs,x.ok)(hd:ds.length<=140737488351232)(hn:xs.length<=140737488351232):PS cfg G 108 [bodW ds xs f g] (.bool (decide (BodyM ds xs))):=by
 have e1:(ds.map pdW).length=ds.length:=List.length_map _;have e2:(xs.map txW).length=xs.length:=List.length_map _;refine gI 13 Y (λR k0=>?_);refine gLo (α:=Nat) 0 (λi=>i<=xs.length/\∀j x,j<i->xs[j]? =some x->x.sign=kXq x) (λi=>[(3,.int .i64 (i:Int))]) [1,2] (λi=>xs.length-i) (0) rfl (⟨Nat.zero_le _,λj x h=>by omega⟩) (λi hI=>?_);obtain⟨g1,g2⟩:=hI;refine gZ 6 Y e2 ?_;refine gS 3 Y (λh1=>?_) (λh1=>?_)
 ·obtain⟨x,hx1⟩:∃x,xs[i]? =some x:=⟨_,List.getElem?_eq_getElem Xd⟩
  refine gP 9 Y (zrq (i:=i) Y Y Y Y Y Y Y (zoq txW hx1)) ?_;refine gC 1 Y (rtxcheck_s x (hx x (List.mem_of_getElem? hx1))) ?_;refine gS 3 Y (λh2=>?_) (λh2=>?_)
  ·refine gO 8 Y ?_;exact gQ 2 Y (z9q λq=>h2 (by rw[if_pos (q.2.2 x (List.mem_of_getElem? hx1))]))
  ·have hs:x.sign=kXq x:=Classical.byContradiction λq=>h2 (by rw[if_neg q];decide)
   refine gA 5 Y (i+1) ?_;exact gAg 2 Y (i+1) (⟨by omega,λj y hj hy=>by rcases Nat.lt_succ_iff_lt_or_eq.1 hj with q|rfl;exact g2 j y q hy;exact Option.some.inj (hx1.symm.trans hy)▸hs⟩) Xd
 ·have all:∀x∈xs,x.sign=kXq x:=λx h=>by
   obtain⟨j,hj⟩:=List.getElem?_of_mem h;exact g2 j x (by have:=vsq hj;omega) hj
  refine gO 2 Y ?_;refine gZ 6 Y e1 ?_;refine gD 0 Y (λh2=>?_) (λh2=>?_)
  ·refine gZ 3 Y e2 ?_;refine gU 0 Y ?_;exact gQ 5 Y (congrArg W.bool (by first|exact decide_eq_decide.2 ⟨λq=>⟨by omega,by omega,all⟩,λq=>by have:=q.2.1;omega⟩|(by_cases q:xs.length<=16; · rw[decide_eq_true (show BodyM ds xs from⟨by omega,q,all⟩),ltI_not.2 Xd];rfl; · rw[decide_eq_false (show¬BodyM ds xs from λh=>q h.2.1),ltI_iff.2 Xd];rfl)))
  ·exact gQ 10 Y (z9q λq=>by have:=q.1;omega)
theorem Y4q(c:Ch)(i:Nat)(x:Lk)(hx:c.links[i]? =some x):PS cfg G 76 [chG c,.int .i64 (i:Int)] (tW (verT c x.root)):=by
 exact gI 19 Y (λR k0=>gP 0 Y (zrq (i:=i) Y Y Y Y Y Y Y (zoq lkG hx)) (gQa 13 Y))
theorem at_prev{α:Type}{l:List α}{i:Nat}(h:i<l.length)(h0:0<i):∃y,l[i-1]? =some y:=⟨_,List.getElem?_eq_getElem Xd⟩
theorem rcmay_s(c:Ch)(hc:OkC c):PS cfg G 31 [chG c] (.bool (decide (MayC c))):=by
 have e:(c.links.map lkG).length=c.links.length:=List.length_map _;have hl:=hc.len;refine gI 10 Y (λR k0=>gZ 0 Y e ?_);refine gD 7 Y (λh1=>?_) (λh1=>?_)
 ·have hno:¬MayC c:=λq=>by have:=q.one;omega
  exact gQ 27 Y (z9q hno)
 obtain⟨z,hz⟩:∃z,c.links[c.links.length-1]? =some z:=⟨_,List.getElem?_eq_getElem Xd⟩
 refine gD 2 Y (λh2=>?_) (λh2=>?_)
 ·have hno:¬MayC c:=λq=>by have:=q.len;omega
  exact gQ 24 Y (z9q hno)
 refine gA 8 Y (c.links.length-1) (gP 0 Y (zrq (i:=c.links.length-1) Y Y Y Y Y Y Y (zoq lkG hz)) (gU 2 Y ?_));refine gS 3 Y (λh3=>?_) (λh3=>?_)
 ·have hno:¬MayC c:=λq=>h3 (q.root z hz)
  exact gQ 7 Y (z9q hno)
 refine gLo (α:=Nat) 9 (λi=>i<=c.links.length/\∀j x,j<i->c.links[j]? =some x->LkM c j x) (λi=>[(4,.int .i64 (i:Int))]) [1,2,3] (λi=>c.links.length-i) (0) rfl (⟨Nat.zero_le _,λj x h=>by omega⟩) (λi hI=>?_);obtain⟨g1,hI⟩:=hI;refine gS 8 Y (λh4=>?_) (λh4=>?_)
 ·have hi:i<c.links.length:=by omega
  obtain⟨x,hx⟩:∃x,c.links[i]? =some x:=⟨_,List.getElem?_eq_getElem hi⟩
  have hB:=hc.body x (List.mem_of_getElem? hx);have er:(x.rs.map rcW).length=x.rs.length:=List.length_map _;refine gP 9 Y (zrq (i:=i) Y Y Y Y Y Y Y (zoq lkG hx)) ?_;refine gD 12 Y (λh5=>?_) (λh5=>?_)
  ·have hno:¬MayC c:=λq=>h5 (q.link i x hx).height
   exact gO 33 Y (gQ 2 Y (z9q hno))
  refine gC 3 Y (u3q x.hdr) ?_;refine gB 0 Y (λh6=>?_) (λh6=>?_)
  ·refine gZ 5 Y er ?_;refine gD 3 Y (λh7=>?_) (λh7=>?_)
   ·have hno:¬MayC c:=λq=>h7 (q.link i x hx).recs
    exact gO 19 Y (gQ 2 Y (z9q hno))
   ·refine gC 4 Y (rmbody_s x.ds x.xs false false hB.tx hB.dl hB.xl) ?_;refine gS 4 Y (λh8=>?_) (λh8=>?_)
    ·have hno:¬MayC c:=λq=>absurd h8 (by rw[decide_eq_true (q.link i x hx).body];decide)
     exact gO 9 Y (gQ 2 Y (z9q hno))
    ·have hok:okH x.hdr:=h6;have hM:BodyM x.ds x.xs:=by simpa using h8
     refine gD 5 Y (λh9=>?_) (λh9=>?_)
     ·obtain⟨y,hy⟩:=at_prev hi Xd;refine gA 6 Y (i-1) (gP 0 Y (zrq (i:=i-1) Y Y Y Y Y Y Y (zoq lkG hy)) (gC 2 Y (rhfol_s x.hdr y.hdr) ?_));refine gB 0 Y (λh10=>?_) (λh10=>?_)
      ·refine gC 5 Y (Y4q c i x hx) (gC 0 Y (ramay_s (verT c x.root) hc.nodes) ?_);refine gS 4 Y (λh11=>?_) (λh11=>?_)
       ·have hno:¬MayC c:=λq=>absurd h11 (by rw[decide_eq_true (q.link i x hx).tree];decide)
        exact gO 8 Y (gQ 2 Y (z9q hno))
       ·have hx2:LkM c i x:=⟨by omega,hok,λw h0 hw=>Option.some.inj (hy.symm.trans hw)▸h10,by omega,hM,by simpa using h11⟩;exact gA 5 Y (i+1) (gAg 2 Y (i+1) (⟨hi,λj w hj hw=>by rcases Nat.lt_succ_iff_lt_or_eq.1 hj with q|rfl;exact hI j w q hw;exact Option.some.inj (hx.symm.trans hw)▸hx2⟩) Xd)
      ·have hno:¬MayC c:=λq=>h10 ((q.link i x hx).fol y Xd hy)
       exact gO 20 Y (gQ 2 Y (z9q hno))
     ·refine gC 16 Y (Y4q c i x hx) (gC 0 Y (ramay_s (verT c x.root) hc.nodes) ?_);refine gS 4 Y (λh10=>?_) (λh10=>?_)
      ·have hno:¬MayC c:=λq=>absurd h10 (by rw[decide_eq_true (q.link i x hx).tree];decide)
       exact gO 8 Y (gQ 2 Y (z9q hno))
      ·have hx2:LkM c i x:=⟨by omega,hok,λw h0 hw=>absurd h0 Xd,by omega,hM,by simpa using h10⟩;exact gA 5 Y (i+1) (gAg 2 Y (i+1) (⟨hi,λj w hj hw=>by rcases Nat.lt_succ_iff_lt_or_eq.1 hj with q|rfl;exact hI j w q hw;exact Option.some.inj (hx.symm.trans hw)▸hx2⟩) Xd)
  ·have hno:¬MayC c:=λq=>h6 (q.link i x hx).hdr
   exact gO 29 Y (gQ 2 Y (z9q hno))
 ·have yes:MayC c:=⟨by omega,by omega,λw hw=>by cases hz.symm.trans hw;omega,λj w hw=>hI j w (by have:=vsq hw;omega) hw⟩;exact gO 2 Y (gQ 8 Y (dec_t yes))
end
section
attribute [local irreducible] CoW OpW FlW Step Spec
attribute [local simp] xzq
variable {G:Nat->Option W}
noncomputable def rrefW(c:Nat):W:=.tup [.nils,hdW hdZ,.nils,.int .i64 (c:Int)]
@[simp] theorem rrefW_pur(c:Nat):purW (rrefW c)=true:=by simp[rrefW,purW,purL]
structure PW where
 w:W
 pur:purW w=true
attribute [local simp] PW.pur
end
section
attribute [local irreducible] CoW OpW FlW Step Spec
variable {G:Nat->Option W}
theorem rcheld_s(c:Ch)(i:Nat)(x:Lk)(hx:c.links[i]? =some x)(n:Nat)(t0:T)(hA:IsT (verT c x.root) n t0):PS cfg G 91 [chG c,.int .i64 (i:Int)] (psW t0.all):=by
 exact gI 10 Y (λR k0=>gC 0 Y (Y4q c i x hx) (gC 0 Y (rall_s (verT c x.root) n t0 hA) (gQa 4 Y)))
theorem lk_same{x y:Lk}:SameK x y/\x.root=y.root↔x=y:=by
 constructor
 ·rintro⟨⟨h1,⟨h2,h3⟩,h4⟩,h5⟩;cases x;cases y
  simp only at h1 h2 h3 h4 h5;subst h1;subst h2;subst h3;subst h4;subst h5;rfl
 ·rintro rfl;exact⟨⟨rfl,⟨rfl,rfl⟩,rfl⟩,rfl⟩
noncomputable instance(a b:Ch):Decidable (a=b):=Classical.propDecidable _
theorem rcsame_s(a b:Ch)(ha:SmallC a)(hb:SmallC b):PS cfg G 18 [chG a,chG b] (.bool (decide (a=b))):=by
 have ea:(a.links.map lkG).length=a.links.length:=List.length_map _;have eb:(b.links.map lkG).length=b.links.length:=List.length_map _;have h1:=ha.nodes;have h2:=ha.len;have h3:=hb.len;by_cases ht:a.tree=b.tree
 ·by_cases hl:a.links.length=b.links.length
  ·skip
   refine gI 14 Y (λR k0=>gC 0 Y (zOq (w':=.bool true) (Y0q a.tree b.tree Xd) (by rw[decide_eq_true (ht)])) (gZ 4 Y ea (gZ 2 Y eb (gF 0 Y (congrArg not (eqI_iff.2 Xd)) ?_))));refine gLo (α:=Nat) 13 (λi=>i<=a.links.length/\a.links.take i=b.links.take i) (λi=>[(5,.int .i64 (i:Int))]) [2,3,4] (λi=>a.links.length-i) (0) rfl (⟨Nat.zero_le _,rfl⟩) (λi hI=>?_);obtain⟨g1,g2⟩:=hI;refine gZ 6 Y ea ?_;refine gS 3 Y (λh1=>?_) (λh1=>?_)
   ·obtain⟨x,hx⟩:∃x,a.links[i]? =some x:=⟨_,List.getElem?_eq_getElem Xd⟩
    obtain⟨y,hy⟩:∃y,b.links[i]? =some y:=⟨_,List.getElem?_eq_getElem Xd⟩
    have hxs:=ha.link x (List.mem_of_getElem? hx);skip
    by_cases hk:SameK x y
    ·by_cases hr:x.root=y.root
     ·exact gP 9 Y (zrq (i:=i) Y Y Y Y Y Y Y (zoq lkG hx)) (gP 4 Y (zrq (i:=i) Y Y Y Y Y Y Y (zoq lkG hy)) (gC 1 Y (zOq (w':=.bool true) (Y2q x y hxs) (by rw[decide_eq_true (hk)])) (gP 5 Y (zrq (i:=i) Y Y Y Y Y Y Y (zoq lkG hx)) (gP 5 Y (zrq (i:=i) Y Y Y Y Y Y Y (zoq lkG hy)) (gF 2 Y (congrArg not (eqI_iff.2 (hr))) (gA 9 Y (i+1) (gAg 2 Y (i+1) (⟨by omega,qyq g2 hx hy (lk_same.1 ⟨hk,hr⟩)⟩) Xd)))))))
     ·exact gP 9 Y (zrq (i:=i) Y Y Y Y Y Y Y (zoq lkG hx)) (gP 4 Y (zrq (i:=i) Y Y Y Y Y Y Y (zoq lkG hy)) (gC 1 Y (zOq (w':=.bool true) (Y2q x y hxs) (by rw[decide_eq_true (hk)])) (gP 5 Y (zrq (i:=i) Y Y Y Y Y Y Y (zoq lkG hx)) (gP 5 Y (zrq (i:=i) Y Y Y Y Y Y Y (zoq lkG hy)) (gT 2 Y (congrArg not (eqI_not.2 (hr))) (gO 12 Y (gQ 2 Y (z9q λq=>Znq hx hy (λz=>hr (by rw[z])) Yy))))))))
    ·exact gP 9 Y (zrq (i:=i) Y Y Y Y Y Y Y (zoq lkG hx)) (gP 4 Y (zrq (i:=i) Y Y Y Y Y Y Y (zoq lkG hy)) (gC 1 Y (zOq (w':=.bool false) (Y2q x y hxs) (by rw[decide_eq_false (hk)])) (gO 27 Y (gQ 2 Y (z9q λq=>Znq hx hy (λz=>hk (lk_same.2 z).1) Yy)))))
   ·refine gO 2 Y ?_
    exact gQ 8 Y (dec_t (by
     have:=jcq (a:=a.links) (b:=b.links) Xd Xd g2;cases a;cases b;simp only at this ht;rw[this,ht]))
  ·skip
   exact gI 14 Y (λR k0=>gC 0 Y (zOq (w':=.bool true) (Y0q a.tree b.tree Xd) (by rw[decide_eq_true (ht)])) (gZ 4 Y ea (gZ 2 Y eb (gT 0 Y (congrArg not (eqI_not.2 Xd)) (gQ 11 Y (z9q λq=>hl Yy))))))
 ·skip
  exact gI 14 Y (λR k0=>gC 0 Y (zOq (w':=.bool false) (Y0q a.tree b.tree Xd) (by rw[decide_eq_false (ht)])) (gQ 20 Y (z9q λq=>ht Yy)))
end
section
attribute [local irreducible] CoW OpW FlW Step Spec
def allR:Nat->List Lk->List (Nat×RcI)
 |_,[]=>[]
 |h,x::l=>x.rs.map (λr=>(h,r))++allR (h+1) l
theorem allR_at{l:List Lk}{i:Nat}{x:Lk}(h:l[i]? =some x):allR i (l.drop i)=x.rs.map (λr=>(i,r))++allR (i+1) (l.drop (i+1)):=by
 rw[xnq h];rfl
noncomputable def encR(p:Nat×RcI):List W:=[.int .i64 (p.1:Int),rcW p.2]
theorem encR_ok(l:List (Nat×RcI)):∀y∈l,purL (encR y)=true/\(encR y).length=2:=λy _=>⟨by simp[encR,purL,purW],rfl⟩
noncomputable def hasI(k:Dig)(p:Nat×RcI):Bool:=decide (p.2.id=k)
noncomputable def uBq(c:Ch)(k:Dig):Option (Nat×RcI):=(allR 0 c.links).find? (hasI k)
theorem vrecs_s(v:Vw):PS cfg glK 126 [vwG v] (.fn 206 [] [.fel (vwG v)]):=by
 have hp:=vwG_pur v;refine gI 13 Y (λR k0=>?_);refine qlq (fr2:=[(2,_)]) Xt ?_ Y Y
 (repeat (first|exact trivial|refine And.symm ⟨?_,_,rfl,?_⟩))<;>(repeat (first|exact .nil|refine .cons ?_ ?_|refine .fn ?_ ?_|(refine yPq Y ?_ rfl;(first|rfl|(focus (simp;done))))|(refine .sl Y ?_ rfl Xh;(first|rfl|(focus (simp;done))))|(refine .pur ?_;(first|rfl|(focus (simp;done))))|refine .agg ?_|refine .arr ?_|refine .tup ?_))
theorem vrecs_it(v:Vw)(hc:OkC v.ch):qfq cfg glK 206 [.fel (vwG v)] ((allR 0 v.ch.links).map encR):=by
 have e:(v.ch.links.map lkG).length=v.ch.links.length:=List.length_map _;have hl:=hc.len;refine xdq (fn:=Tryz.f206) Y Y Y (Yb rfl) (λL E R hy k0=>?_);refine co_scope 3 (z1q 8 Y (gZ 0 Y e (zeq 4 Y ?_)));refine uNq (α:=Nat×Res) (λp=>p.1<=v.ch.links.length/\Yl cfg glK L E ((allR p.1 (v.ch.links.drop p.1)).map encR) p.2) (λp=>[(11,.int .i64 (p.1:Int))]) [(0,_),(9,_),(10,_)] (λp=>p.2) (λp=>v.ch.links.length-p.1) ((0,R)) ⟨rfl,rfl,rfl,trivial⟩ (⟨Nat.zero_le _,hy⟩) ⟨rfl,trivial⟩ rfl (λp hI=>?_);obtain⟨i,R⟩:=p;obtain⟨hi,hy⟩:=hI;simp only at hi hy⊢;refine z1q 6 Y ?_;refine gS 0 Y (λh1=>?_) (λh1=>?_)
 ·have hi':i<v.ch.links.length:=by omega
  obtain⟨x,hx⟩:∃x,v.ch.links[i]? =some x:=⟨_,List.getElem?_eq_getElem hi'⟩
  have er:(x.rs.map rcW).length=x.rs.length:=List.length_map _;have hxr:=hc.recs x (List.mem_of_getElem? hx);rw[allR_at hx] at hy;refine gP 7 Y (zrq (i:=i) Y Y Y Y Y Y Y (zoq lkG hx)) (gZ 10 Y er (zeq 4 Y ?_));refine uNq (α:=Nat×Res) (λq=>q.1<=x.rs.length/\Yl cfg glK L E (((x.rs.drop q.1).map (λr=>(i,r))++allR (i+1) (v.ch.links.drop (i+1))).map encR) q.2) (λq=>[(19,.int .i64 (q.1:Int))]) [(0,_),(3,_),(4,_),(9,_),(10,_),(11,_),(12,_),(13,_),(14,_),(15,_),(16,_),(17,_),(18,_)] (λq=>q.2) (λq=>x.rs.length-q.1) ((0,R)) ⟨rfl,rfl,rfl,rfl,rfl,rfl,rfl,rfl,rfl,rfl,rfl,rfl,rfl,trivial⟩ (⟨Nat.zero_le _,hy⟩) ⟨rfl,trivial⟩ rfl (λq hI=>?_);obtain⟨j,R⟩:=q;obtain⟨hj,hy⟩:=hI;simp only at hj hy⊢;refine z1q 6 Y ?_;refine gS 0 Y (λh2=>?_) (λh2=>?_)
  ·have hj':j<x.rs.length:=by omega
   obtain⟨r,hr⟩:∃r,x.rs[j]? =some r:=⟨_,List.getElem?_eq_getElem hj'⟩
   rw[xnq hr,List.map_cons,List.cons_append,List.map_cons] at hy;refine gP 6 Y (zrq (i:=j) Y Y Y Y Y Y Y (zoq rcW hr)) ?_;refine gSo 10 Y (qMq Y Y Y (hy) (λb R1 hb=>?_));refine gS 3 Y (λh3=>?_) (λh3=>?_)
   ·cases b with
    |true=>cases h3
    |false=>
     exact yvq 3 Y (gO 0 Y (gO 3 Y (zeq 1 Y (Y5q (by intro l h;cases h) (j0q (.inl rfl) rfl hb)))))
   ·cases b with
    |false=>exact absurd rfl h3
    |true=>
     exact yvq 4 Y (gA 0 Y (j+1) (gAg 2 Y ((j+1,R1)) (⟨hj',hb⟩) Ya))
  ·obtain rfl:j=x.rs.length:=by omega
   rw[List.drop_length] at hy;refine gO 2 Y (gA 4 Y (i+1) (zeq 2 Y ?_));skip
   exact gAg 0 Y ((i+1,R)) (⟨hi',hy⟩) Ya
 ·refine gO 2 Y (zeq 1 Y (Y5q (by intro l h;cases h) ?_));obtain rfl:i=v.ch.links.length:=by omega
  rw[List.drop_length] at hy;exact j0q (.inl rfl) rfl hy
noncomputable def recA:Option (Nat×RcI) ->W
 |some p=>.tup [.int .i64 (p.1:Int),rcW p.2,.int .i64 0]
 |none=>.tup [.int .i64 0,rcW ⟨0,yjq,0⟩,.int .i64 6]
theorem vrec_no(v:Vw)(hc:OkC v.ch)(hm:¬MayV v)(k:Dig):PS cfg glK 52 [vwG v,dW k] (.tup [.int .i64 0,rcW ⟨0,yjq,0⟩,.int .i64 8]):=by
 exact gIv 13 Y (λR k0=>gC 0 Y (zOq (w':=.int .i64 8) (qEq v hc) Qq) (gTa 6 Y (zeq 14 Y (y0q Qx rfl (.tup (.cons (.pur rfl) (.cons (.agg (.cons (.pur rfl) (.cons z4q (.cons (.pur rfl) .nil)))) (.cons (.pur rfl) .nil))))))))
theorem vrec_s(v:Vw)(hc:OkC v.ch)(hm:MayV v)(k:Dig):PS cfg glK 52 [vwG v,dW k] (recA (uBq v.ch k)):=by
 obtain⟨ls,hls⟩:∃ls,allR 0 v.ch.links=ls:=⟨_,rfl⟩
 have it:=vrecs_it v hc;unfold uBq;rw[hls] at it⊢;refine gIv 13 Y (λR k0=>gC 0 Y (zOq (w':=.int .i64 0) (qEq v hc) Yw) (gFa 6 Y (gC 9 Y (vrecs_s v) (zeq 3 Y ?_))));refine uMq (encR) (ls) (λi (_:Unit)=>ls.find? (hasI k)=(ls.drop i).find? (hasI k)) (λ_=>R) (()) rfl Xk (it) (encR_ok ls) (rfl) rfl (λi a y hy hI=>?_) (λa hI=>?_)
 ·rw[xnq hy,List.find?_cons] at hI;obtain⟨hh,r⟩:=y;refine z1q 9 Y (Z9q (z1q 6 Y (gUe 0 Y (ysq Y Y Y Y (yBq Y Y Y Y Y Y _ _ 250)) z8q ?_)));refine gS 2 Y (λh1=>?_) (λh1=>?_)
  ·have hk:hasI k (hh,r)=true:=decide_eq_true Xp;rw[hk] at hI;have hI:ls.find? (hasI k)=some (hh,r):=hI;rw[hI];exact zeq 11 Y (vNq Xh (zYq 2 Y (y0q Qx rfl (.pur (by simp[purW,purL])))))
  ·have hk:hasI k (hh,r)=false:=decide_eq_false Xp;rw[hk] at hI;exact zeq 2 Y (vMq (()) (hI) Xd Yi rfl)
 ·rw[List.drop_length] at hI;rw[hI];exact zYq 11 Y (y0q Qx rfl (.tup (.cons (.pur rfl) (.cons (.agg (.cons (.pur rfl) (.cons z4q (.cons (.pur rfl) .nil)))) (.cons (.pur rfl) .nil)))))
theorem qFq(v:Vw)(hl:v.ch.links.length<=4611686018427387903):PS cfg glK 120 [vwG v] (.int .i64 ((v.ch.links.length:Int) -1)):=by
 have e:(v.ch.links.map lkG).length=v.ch.links.length:=List.length_map _;exact gI 11 Y (λR k0=>gZ 0 Y e (gWr 0 Y (gQa 4 Y)))
theorem jnq(v:Vw)(hc:OkC v.ch):PS cfg glK 43 [vwG v] (.bool (decide (MayV v))):=by
 have hl:=hc.len;by_cases hm:MayC v.ch
 ·skip
  refine gI 10 Y (λR k0=>gC 0 Y (zOq (w':=.bool true) (rcmay_s v.ch hc) Yr) ?_);refine gD 3 Y (λh1=>?_) (λh1=>?_)
  ·refine gC 5 Y (qFq v hl) ?_;refine gD 0 Y (λh2=>?_) (λh2=>?_)
   ·refine gD 4 Y (λh3=>?_) (λh3=>?_)
    ·exact gU 4 Y (gQ 5 Y (congrArg W.bool (decide_eq_decide.2 ⟨λq=>⟨hm,by omega,by omega,by omega,q⟩,λq=>q.2.2.2.2⟩)))
    ·exact gQ 10 Y (z9q λq=>by have:=q.2;omega)
   ·exact gQ 15 Y (z9q λq=>by have:=q.2;omega)
  ·exact gQ 22 Y (z9q λq=>by have:=q.2;omega)
 ·skip
  exact gI 10 Y (λR k0=>gC 0 Y (zOq (w':=.bool false) (rcmay_s v.ch hc) Yx) (gQ 26 Y (z9q λq=>hm q.1)))
theorem rvchk_s(v:Vw)(hc:OkC v.ch):PS cfg glK 60 [vwG v] (.int .i64 (if MayV v then 0 else 8)):=by
 by_cases hm:MayV v
 ·skip
  exact gI 10 Y (λR k0=>gC 0 Y (zOq (w':=.bool true) (jnq v hc) Yr) (gQ 12 Y Yw))
 ·skip
  exact gI 10 Y (λR k0=>gC 0 Y (zOq (w':=.bool false) (jnq v hc) Yx) (gQ 11 Y Qq))
theorem rvof_s(v:Vw)(hc:OkC v.ch)(hs:SmallC v.ch){y:Lk}(hy:v.ch.links[v.ch.links.length-1]? =some y)(h1:0<v.ch.links.length)(n:Nat)(t0:T)(hA:IsT (verT v.ch y.root) n t0)(k:Dig):PS cfg glK 125 [vwG v,dW k] (aW (inA t0.all k)):=by
 have hl:=hc.len;have hle:=hA.all_le;have hln:=hA.len;refine gI 12 Y (λR k0=>?_);first|refine gC 0 Y (zOq (w':=.int .i64 ((v.ch.links.length-1:Nat):Int)) (qFq v hl) Qr) ?_|refine gC 0 Y (qFq v hl) ?_
 exact gC 0 Y (rcheld_s v.ch (v.ch.links.length-1) y hy n t0 hA) (gC 1 Y (rin_s t0.all false k Xd) (gQa 4 Y))
theorem rvacc_no(v:Vw)(hc:OkC v.ch)(hm:¬MayV v)(k:Dig):PS cfg glK 51 [vwG v,dW k] (.tup [aW ⟨0,0⟩,.int .i64 8]):=by
 exact gI 12 Y (λR k0=>gC 0 Y (zOq (w':=.bool false) (jnq v hc) Yx) (gQa 13 Y))
theorem rvacc_s(v:Vw)(hc:OkC v.ch)(hs:SmallC v.ch)(hm:MayV v)(k:Dig){y:Lk}(hy:v.ch.links[v.ch.links.length-1]? =some y)(n:Nat)(t0:T)(hA:IsT (verT v.ch y.root) n t0):PS cfg glK 51 [vwG v,dW k] (.tup [aW (inA t0.all k),.int .i64 0]):=by
 exact gI 12 Y (λR k0=>gC 0 Y (zOq (w':=.bool true) (jnq v hc) Yr) (gC 10 Y (rvof_s v hc hs hy hm.1.one n t0 hA k) (gQa 5 Y)))
theorem rfind18_s(v:Vw)(hc:OkC v.ch)(k:Dig):PS cfg glK 127 [vwG v,dW k] (match uBq v.ch k with
  |some p=>.tup [.int .i64 (p.1:Int),rcW p.2,.bool true]
  |none=>.tup [.int .i64 0,rcW ⟨0,yjq,0⟩,.bool false]):=by
 have hl:=hc.len;obtain⟨fr,hfr⟩:∃fr,uBq v.ch k=fr:=⟨_,rfl⟩
 rw[hfr];unfold uBq at hfr;refine gIv 16 Y (λR k0=>?_);refine gLo (α:=Nat) 0 (λi=>i<=v.ch.links.length/\(allR i (v.ch.links.drop i)).find? (hasI k)=fr) (λi=>[(7,.int .i64 (i:Int))]) [2,3,4,5,6] (λi=>v.ch.links.length-i) (0) rfl (⟨Nat.zero_le _,hfr⟩) (λi hI=>?_);obtain⟨hi,hI⟩:=hI;first|refine gC 5 Y (qFq v hl) ?_|refine gC 5 Y (zOq (w':=.int .i64 ((v.ch.links.length-1:Nat):Int)) (qFq v hl) Qr) ?_
 refine gS 3 Y (λh1=>?_) (λh1=>?_)
 ·have hi':i<v.ch.links.length:=by omega
  obtain⟨x,hx⟩:∃x,v.ch.links[i]? =some x:=⟨_,List.getElem?_eq_getElem hi'⟩
  have er:(x.rs.map rcW).length=x.rs.length:=List.length_map _;have hxr:=hc.recs x (List.mem_of_getElem? hx);rw[allR_at hx] at hI;refine gP 10 Y (zrq (i:=i) Y Y Y Y Y Y Y (zoq lkG hx)) ?_;refine gLo (α:=Nat) 11 (λj=>j<=x.rs.length/\((x.rs.drop j).map (λr=>(i,r))++allR (i+1) (v.ch.links.drop (i+1))).find? (hasI k)=fr) (λj=>[(9,.int .i64 (j:Int))]) [2,3,4,5,6,7,8,10,11,12,13,16,17,18,19,20,21,22] (λj=>x.rs.length-j) (0) rfl (⟨Nat.zero_le _,hI⟩) (λj hI=>?_);obtain⟨hj,hJ⟩:=hI;refine gZ 5 Y er ?_;refine gS 3 Y (λh2=>?_) (λh2=>?_)
  ·have hj':j<x.rs.length:=by omega
   obtain⟨r,hr⟩:∃r,x.rs[j]? =some r:=⟨_,List.getElem?_eq_getElem hj'⟩
   rw[xnq hr,List.map_cons,List.cons_append,List.find?_cons] at hJ;refine gP 8 Y (zrq (i:=j) Y Y Y Y Y Y Y (zoq rcW hr)) (gUe 3 Y (ysq Y Y Y Y (yBq Y Y Y Y Y Y _ _ 250)) z8q ?_);refine gS 2 Y (λh3=>?_) (λh3=>?_)
   ·have hk:hasI k (i,r)=true:=decide_eq_true Xp;rw[hk] at hJ;refine gP 5 Y (zrq (i:=j) Y Y Y Y Y Y Y (zoq rcW hr)) (gO 9 Y (gO 3 Y (zeq 2 Y ?_)));subst hJ;exact y0q Qx rfl (.pur (by simp[purL,purW]))
   ·have hk:hasI k (i,r)=false:=decide_eq_false Xp;rw[hk] at hJ;exact gA 5 Y (j+1) (gAg 2 Y (j+1) (⟨hj',hJ⟩) Xd)
  ·obtain rfl:j=x.rs.length:=by omega
   rw[List.drop_length] at hJ;refine gO 2 Y (gA 5 Y (i+1) (zeq 2 Y ?_));skip
   exact gAg 0 Y (i+1) (⟨hi',hJ⟩) Xd
 ·obtain rfl:i=v.ch.links.length:=by omega
  rw[List.drop_length] at hI;obtain rfl:none=fr:=hI;exact gO 2 Y (zeq 11 Y (y0q Qx rfl (.tup (.cons (.pur rfl) (.cons (.agg (.cons (.pur rfl) (.cons z4q (.cons (.pur rfl) .nil)))) (.cons (.pur rfl) .nil))))))
theorem rvrec_no(v:Vw)(hc:OkC v.ch)(hm:¬MayV v)(k:Dig):PS cfg glK 53 [vwG v,dW k] (.tup [.int .i64 0,rcW ⟨0,yjq,0⟩,.int .i64 8]):=by
 exact gIv 13 Y (λR k0=>gC 0 Y (zOq (w':=.bool false) (jnq v hc) Yx) (zeq 14 Y (y0q Qx rfl (.tup (.cons (.pur rfl) (.cons (.agg (.cons (.pur rfl) (.cons z4q (.cons (.pur rfl) .nil)))) (.cons (.pur rfl) .nil)))))))
theorem rvrec_s(v:Vw)(hc:OkC v.ch)(hm:MayV v)(k:Dig):PS cfg glK 53 [vwG v,dW k] (recA (uBq v.ch k)):=by
 have hf:=rfind18_s v hc k;cases h:uBq v.ch k with
 |some p=>
  rw[h] at hf;exact gIv 13 Y (λR k0=>gC 0 Y (zOq (w':=.bool true) (jnq v hc) Yr) (gC 10 Y (hf) (gFa 14 Y (zeq 15 Y (y0q Qx rfl (.pur (by simp[recA,purL,purW])))))))
 |none=>
  rw[h] at hf;exact gIv 13 Y (λR k0=>gC 0 Y (zOq (w':=.bool true) (jnq v hc) Yr) (gC 10 Y (hf) (gTa 14 Y (zeq 13 Y (y0q Qx rfl (.tup (.cons (.pur rfl) (.cons (.agg (.cons (.pur rfl) (.cons z4q (.cons (.pur rfl) .nil)))) (.cons (.pur rfl) .nil)))))))))
theorem rat_c(k:Dig)(d c:Nat)(h:d<256)(hc:bitN k d=c):PS cfg glK 261 [dW k,.int .i64 (d:Int)] (.int .u8 (c:Int)):=hc▸rat_s k d h
def OnE(ns:List Node)(t:T)(n:Nat):Prop:=match t with
 |.leaf x v=>∃(i:Nat),n=i+1/\ns[i]? =some ⟨true,x,v,0,0⟩
 |_=>n=0
theorem rway_s(t:Tree)(n:Nat)(t0:T)(h:IsT t n t0)(k:Dig):PE cfg glK 209 [tW t,dW k] (λw=>∃m:Nat,OnE t.nodes (t0.tail 0 k) m/\w= .tup [.int .i64 (m:Int),sdsW t0 k]):=by
 have hl:=h.len;have hs:=vKq h.okn h.rep;have hr:=h.root;have hokn:=h.okn;obtain⟨ns,root⟩:=t;simp only at hl hr hokn;subst hr;refine gIe 27 Y (λR k0=>?_);refine vVq (α:=Nat×Nat×Dig×T) (λp=>OnR t0 ns k p.1 p.2.1 p.2.2.1 p.2.2.2) 6 (λp=>((t0.road 0 k).take p.2.1).map sdW) 29 32 (λp=>[(7,.int .i64 (p.1:Int)),(8,.int .i64 (p.2.1:Int))]) [(2,_),(3,_),(4,_),(5,_)] _ (λp=>257-p.2.1) ((n,0,yjq,t0)) ⟨rfl,rfl,rfl,rfl,trivial⟩ (OnR.start h hs k) ⟨rfl,rfl,trivial⟩ Y Y Y (λp hI=>?_);obtain⟨i,d,b,u⟩:=p;have hI:OnR t0 ns k i d b u:=hI;have hle:=hI.le;cases u with
 |fork L R=>
  skip
  obtain⟨i,k',v,l,r,rfl,hx,hd,⟨hb,hn,hsd⟩|⟨hb,hn,hsd⟩⟩:=hI.go
  ·have hi:=(List.getElem?_eq_some_iff.1 hx).1;have es:=xxq hsd.road;have ep:=yRq ((t0.road 0 k).take (d+1));have ep2:=yRq ((t0.road 0 k).take d);have el:(((t0.road 0 k).take d).map sdW).length<=256:=by rw[List.length_map,List.length_take];omega
   rw[es] at ep;have P:=(rfor_s (G:=glK) ⟨ns,(n:Int)⟩ Yq R r hsd.rep hsd.few (λp hp=>by have:=hsd.short p hp;omega)).ps Xn (jpq _);have P2:=rof_s (G:=glK) R (d+1) _ false hsd.zr hsd.ok hsd.short hsd.few;exact z1q 4 Y (gT 0 Y (ltI_iff.2 Xd) (gA 4 Y (i) (gP 0 Y (zrq (i:=i) Y Y Y Y Y Y Y (zoq nW hx)) (gTa 2 Y (gA 13 Y (i) (gP 0 Y (zrq (i:=i) Y Y Y Y Y Y Y (zoq nW hx)) (gC 20 Y (rat_c k d 0 hd hb) (gFa 0 Y (gC 10 Y (P) (gA 1 Y (d+1) (gC 0 Y (P2) (gM 1 Y (ytq Y Y (jSq [_,_,_,_] (k:=ti29) (news:=[sdW R]) Y Y Y Y Y (yQq Y Y Y Y) Xj Yo Ys rfl Xj)) (gA 11 Y (d+1) (zeq 2 Y (jdq 5 ((l,d+1,b,L)) (hn) Ya (Nat.zero_le _) (es) Xv Xd Yj rfl Xy ⟨rfl,rfl,trivial⟩ ⟨rfl,rfl,rfl,rfl,trivial⟩ Xg Xg rfl Xk Xi Yd)))))))))))))))
  ·skip
   have hi:=(List.getElem?_eq_some_iff.1 hx).1;have es:=xxq hsd.road;have ep:=yRq ((t0.road 0 k).take (d+1));have ep2:=yRq ((t0.road 0 k).take d);have el:(((t0.road 0 k).take d).map sdW).length<=256:=by rw[List.length_map,List.length_take];omega
   rw[es] at ep;have P:=(rfor_s (G:=glK) ⟨ns,(n:Int)⟩ Yq L l hsd.rep hsd.few (λp hp=>by have:=hsd.short p hp;omega)).ps Xn (jpq _);have P2:=rof_s (G:=glK) L (d+1) _ false hsd.zr hsd.ok hsd.short hsd.few;exact z1q 4 Y (gT 0 Y (ltI_iff.2 Xd) (gA 4 Y (i) (gP 0 Y (zrq (i:=i) Y Y Y Y Y Y Y (zoq nW hx)) (gTa 2 Y (gA 13 Y (i) (gP 0 Y (zrq (i:=i) Y Y Y Y Y Y Y (zoq nW hx)) (gC 20 Y (rat_c k d 1 hd hb) (gTa 0 Y (gC 15 Y (P) (gA 1 Y (d+1) (gC 0 Y (P2) (gM 1 Y (ytq Y Y (jSq [_,_,_,_] (k:=ti29) (news:=[sdW L]) Y Y Y Y Y (yQq Y Y Y Y) Xj Yo Ys rfl Xj)) (gA 11 Y (d+1) (zeq 2 Y (jdq 5 ((r,d+1,qsq b d,R)) (hn) Ya (Nat.zero_le _) (es) Xv Xd Yj rfl Xy ⟨rfl,rfl,trivial⟩ ⟨rfl,rfl,rfl,rfl,trivial⟩ Xg Xg rfl Xk Xi Yd)))))))))))))))
 |nil=>
  obtain⟨e1,e2⟩:=hI.done rfl;have hr:=hI.rep;obtain rfl:i=0:=by cases hr;rfl
  have ep:=yRq (t0.road 0 k);rw[List.take_of_length_le (by exact e2)];exact z1q 4 Y (gF 0 Y (ltI_not.2 Xd) (zeq 15 Y (y7q Xh (zYq 11 Y (fin_vE (w':=.tup [.int .i64 ((0:Nat):Int),sdsW t0 k]) Qx rfl (.tup (.cons (.pur rfl) (.cons (xIq (H0:=[_,_]) (b:=2) (e:=32) (ty:=29) Xn ep Xj) .nil))) (by simp[purW,purL]) ⟨0,by rw[e1];rfl,rfl⟩)))))
 |leaf x v=>
  obtain⟨e1,e2⟩:=hI.done rfl;have hr:=hI.rep;obtain⟨i,l,r,rfl,hx⟩:∃(j:Nat) (l r:Int),i=j+1/\ns[j]? =some ⟨true,x,v,l,r⟩:=by cases hr with|leaf h=>exact⟨_,_,_,rfl,h⟩
  have hi:=(List.getElem?_eq_some_iff.1 hx).1;obtain⟨rfl,rfl⟩:=okN_leaf hokn hx;have ep:=yRq (t0.road 0 k);rw[List.take_of_length_le (by exact e2)];exact z1q 4 Y (gT 0 Y (ltI_iff.2 Xd) (gA 4 Y (i) (gP 0 Y (zrq (i:=i) Y Y Y Y Y Y Y (zoq nW hx)) (gFa 2 Y (zeq 6 Y (y7q Xh (zYq 11 Y (fin_vE (w':=.tup [.int .i64 ((i+1:Nat):Int),sdsW t0 k]) Qx rfl (.tup (.cons (.pur rfl) (.cons (xIq (H0:=[_,_]) (b:=2) (e:=32) (ty:=29) Xn ep Xj) .nil))) (by simp[purW,purL]) ⟨i+1,by rw[e1];exact⟨i,rfl,hx⟩,rfl⟩))))))))
theorem proof_nil{t0:T}{k:Dig}(h:t0.tail 0 k= .nil):q3q t0 k=prG k 0 yjq (bW []) (sdsW t0 k):=by unfold q3q;rw[h]
theorem proof_own{t0:T}{k:Dig}{v:List UInt8}(h:t0.tail 0 k= .leaf k v):q3q t0 k=prG k 1 yjq (bW v) (sdsW t0 k):=by unfold q3q;rw[h];exact if_pos rfl
theorem proof_oth{t0:T}{k x:Dig}{v:List UInt8}(h:t0.tail 0 k= .leaf x v)(hk:¬x=k):q3q t0 k=prG k 2 x (bW v) (sdsW t0 k):=by unfold q3q;rw[h];exact if_neg hk
theorem rpof_s(t:Tree)(n:Nat)(t0:T)(h:IsT t n t0)(k:Dig):PS cfg glK 130 [tW t,dW k] (q3q t0 k):=by
 have hsp:=vLq t0 k;have hl:=h.len;refine gIv 11 Y (λR k0=>?_);skip
 refine gSo 0 Y (step_pe Y Y Y Y Y (rway_s t n t0 h k) Xj ?_);rintro w hw ⟨m,hm,rfl⟩;skip
 have e:=ueq t0 0 k;cases hq:t0.tail 0 k with
 |fork=>rw[hq] at e;cases e
 |nil=>
  skip
  rw[hq] at hm;obtain rfl:m=0:=hm;rw[proof_nil hq];exact zAq 11 Y (gV (w':=prG k 0 yjq .nils (sdsW t0 k)) 0 Y (Qcq k _) (gTa 8 Y (zeq 11 Y (y0q Qx rfl (.agg (.cons (.pur Xj) (.cons (.pur rfl) (.cons (.pur Xj) (.cons .nilfz (.cons (.pur hsp) .nil))))))))))
 |leaf x v=>
  rw[hq] at hm;obtain⟨i,rfl,hx⟩:=hm;have hi:=(List.getElem?_eq_some_iff.1 hx).1;have hv:=u8q h.okn hx;by_cases hk:x=k
  ·subst hk;rw[proof_own hq];skip
   refine zAq 11 Y (gV (w':=prG x 0 yjq .nils (sdsW t0 x)) 0 Y (Qcq x _) (gF 8 Y (eqI_not.2 Xd) (gA 10 Y (i) (gP 0 Y (zrq (i:=i) Y Y Y Y Y Y Y (zoq nW hx)) (gC 9 Y (YZq v false Xd) (gUe 16 Y (q1q Y Y Y Y (yBq Y Y Y Y Y Y _ _ 250)) (y9q z8q) ?_))))));refine gS 2 Y (λh1=>?_) (λh1=>?_)
   ·exfalso;exact(by assumption:¬x=x) rfl
   ·exact zeq 9 Y (y0q Qx rfl (.pur (by simp[prG,purW,purL])))
  ·rw[proof_oth hq hk];refine zAq 11 Y (gV (w':=prG k 0 yjq .nils (sdsW t0 k)) 0 Y (Qcq k _) (gF 8 Y (eqI_not.2 Xd) (gA 10 Y (i) (gP 0 Y (zrq (i:=i) Y Y Y Y Y Y Y (zoq nW hx)) (gC 9 Y (YZq v false Xd) (gUe 16 Y (q1q Y Y Y Y (yBq Y Y Y Y Y Y _ _ 250)) (y9q z8q) ?_))))));refine gS 2 Y (λh1=>?_) (λh1=>?_)
   ·exact zeq 20 Y (y0q Qx rfl (.pur (by simp[prG,purW,purL])))
   ·exfalso;exact h1 hk
end
section
theorem eq_two{C:Cfg}{t e:TypeId}{i j:TyI}(ht:C.ty t=some i)(hi:i.d= .arr 2 e)(he:C.ty e=some j)(hj:j.d= .int .i64)(hs:j.size=1)(hg:j.agg=false)(a b c d:Int)(f:Nat):eqW C (f+50) t (.arr 2 1 [.int .i64 a,.int .i64 b]) (.arr 2 1 [.int .i64 c,.int .i64 d])=some (decide (a=c/\b=d)):=by
 have e0:eqW C (f+48) e (.int .i64 a) (.int .i64 c)=some (decide (a=c)):=kmq he hj;have e1:eqW C (f+47) e (.int .i64 b) (.int .i64 d)=some (decide (b=d)):=kmq he hj;have g0:∀x y:Int,z6q 50 (.arr 2 1 [.int .i64 x,.int .i64 y]) (0*1) 1 false=some (.int .i64 x):=λ_ _=>rfl
 have g1:∀x y:Int,z6q 50 (.arr 2 1 [.int .i64 x,.int .i64 y]) ((0+1)*1) 1 false=some (.int .i64 y):=λ_ _=>rfl
 rw[show f+50=(f+49)+1 from rfl];simp only[eqW,ht,hi,he];show ZEq C (f+48+1) e j 2 0 _ _=_;simp only[ZEq,hs,hg,g0,e0];by_cases q:a=c
 ·rw[decide_eq_true q];simp only[g1,e1];by_cases r:b=d
  ·rw[decide_eq_true r];simp[q,r]
  ·rw[decide_eq_false r];simp[q,r]
 ·rw[decide_eq_false q];simp[q]
attribute [local irreducible] CoW OpW FlW Step Spec
variable {G:Nat->Option W}
theorem nds_pur2(l:List Node):purL (l.map nW)=true:=yZq (λx=>by simp) l
attribute [local simp] nds_pur2
theorem nd_eq{a b:Node}:(a.leaf=b.leaf/\a.key=b.key/\a.val=b.val/\a.left=b.left/\a.right=b.right)↔a=b:=by
 constructor
 ·rintro⟨h1,h2,h3,h4,h5⟩;cases a;cases b
  simp only at h1 h2 h3 h4 h5;subst h1;subst h2;subst h3;subst h4;subst h5;rfl
 ·rintro rfl;exact⟨rfl,rfl,rfl,rfl,rfl⟩
noncomputable instance(a b:Node):Decidable (a=b):=Classical.propDecidable _
theorem tsame1_s(a b:Node)(hl:a.val.length<=1000000000):PS cfg G 189 [nW a,nW b] (.bool (decide (a=b))):=by
 by_cases h1:a.leaf=b.leaf
 ·by_cases h2:a.key=b.key
  ·by_cases h3:a.val=b.val
   ·skip
    refine gI 13 Y (λR k0=>?_);refine gV (w':=.bool true) 0 Y (by rw[h1];cases b.leaf<;>rfl) ?_;exact zeq 5 Y (vzq (w':=.bool true) rfl (ysq Y Y Y Y (yBq Y Y Y Y Y Y a.key b.key 250)) (by rw[decide_eq_true h2]) (y4q 6 Y (gC 0 Y (zOq (w':=.bool true) (seqb_s a.val b.val false false hl) (by rw[decide_eq_true (h3)])) (gC 3 Y (jDq a) (gC 1 Y (jDq b) (vzq (w':=.bool (decide (a.left=b.left/\a.right=b.right))) rfl (ysq Y Y Y Y (eq_two Y Y Y Y Y Y a.left a.right b.left b.right 250)) Y (y4q 5 Y (gQ 0 Y (dec_c ⟨λq=>nd_eq.1 ⟨h1,h2,h3,q⟩,λq=>(nd_eq.2 q).2.2.2⟩)))))))))
   ·skip
    refine gI 13 Y (λR k0=>?_);refine gV (w':=.bool true) 0 Y (by rw[h1];cases b.leaf<;>rfl) ?_;exact zeq 5 Y (vzq (w':=.bool true) rfl (ysq Y Y Y Y (yBq Y Y Y Y Y Y a.key b.key 250)) (by rw[decide_eq_true h2]) (y4q 6 Y (gC 0 Y (zOq (w':=.bool false) (seqb_s a.val b.val false false hl) (by rw[decide_eq_false (h3)])) (gQ 12 Y (z9q λq=>h3 Yy)))))
  ·skip
   refine gI 13 Y (λR k0=>?_);refine gV (w':=.bool true) 0 Y (by rw[h1];cases b.leaf<;>rfl) ?_;exact zeq 5 Y (vzq (w':=.bool false) rfl (ysq Y Y Y Y (yBq Y Y Y Y Y Y a.key b.key 250)) (by rw[decide_eq_false h2]) (y4q 19 Y (gQ 0 Y (z9q λq=>h2 Yy))))
 ·skip
  refine gI 13 Y (λR k0=>?_);refine gV (w':=.bool false) 0 Y (by revert h1;cases a.leaf<;>cases b.leaf<;>intro h1<;>first|rfl|exact absurd rfl h1) ?_;exact gQ 25 Y (z9q λq=>h1 Yy)
theorem seqn_s(a b:List Node)(f g:Bool)(hb:a.length<=1000000000)(hl:∀x∈a,x.val.length<=1000000000):PS cfg G 188 [.fz (a.map nW) 36 f,.fz (b.map nW) 36 g,.fn 189 [] []] (.bool (decide (a=b))):=by
 have ea:(a.map nW).length=a.length:=List.length_map _;have eb:(b.map nW).length=b.length:=List.length_map _;refine gI 9 Y (λR k0=>gZ 0 Y ea (gZ 1 Y eb ?_));refine gS 3 Y (λh1=>?_) (λh1=>?_)
 ·exact gQ 7 Y Yh
 ·refine gZ 6 Y ea ?_;refine gLo (α:=Nat) 4 (λi=>i<=a.length/\a.take i=b.take i) (λi=>[(17,.int .i64 (i:Int))]) [1,2,6,15,16] (λi=>a.length-i) (0) rfl (⟨Nat.zero_le _,rfl⟩) (λi hI=>?_);obtain⟨g1,g2⟩:=hI;refine gS 6 Y (λh2=>?_) (λh2=>?_)
  ·obtain⟨x,hx⟩:∃x,a[i]? =some x:=⟨_,List.getElem?_eq_getElem Xd⟩
   obtain⟨y,hy⟩:∃y,b[i]? =some y:=⟨_,List.getElem?_eq_getElem Xd⟩
   refine gP 7 Y (zrq (i:=i) Y Y Y Y Y Y Y (zoq nW hx)) (gP 10 Y (zrq (i:=i) Y Y Y Y Y Y Y (zoq nW hy)) (gC 10 Y (tsame1_s x y (hl x (List.mem_of_getElem? hx))) ?_));refine gS 3 Y (λh3=>?_) (λh3=>?_)
   ·exact gO 8 Y (gQ 2 Y (by rw[decide_eq_false (Znq hx hy (by simpa using h3))]))
   ·exact gA 4 Y (i+1) (gAg 2 Y (i+1) (⟨by omega,qyq g2 hx hy (by simpa using h3)⟩) Xd)
  ·exact gO 2 Y (gQ 8 Y Yk)
theorem tsame_s(a b:Tree)(hb:a.nodes.length<=1000000000)(hl:∀x∈a.nodes,x.val.length<=1000000000):PS cfg G 95 [tW a,tW b] (.bool (decide (a=b))):=by
 by_cases h:a.root=b.root
 ·skip
  exact gI 13 Y (λR k0=>gT 0 Y (eqI_iff.2 (h)) (gC 5 Y (seqn_s a.nodes b.nodes false false hb hl) (gQ 5 Y (dec_c ⟨λq=>by cases a;cases b;simp only at h q;rw[h,q],λq=>by rw[q]⟩))))
 ·skip
  exact gI 13 Y (λR k0=>gF 0 Y (eqI_not.2 (h)) (gQ 11 Y (z9q λq=>h Yy)))
end
section
attribute [local irreducible] CoW OpW FlW Step Spec
attribute [local simp] xzq
variable {G:Nat->Option W}
theorem lk_eq{a b:Lk}:(a.hdr=b.hdr/\a.root=b.root/\a.ds=b.ds/\a.xs=b.xs/\a.rs=b.rs)↔a=b:=by
 constructor
 ·rintro⟨h1,h2,h3,h4,h5⟩;exact lk_same.1 ⟨⟨h1,⟨h3,h4⟩,h5⟩,h2⟩
 ·rintro rfl;exact⟨rfl,rfl,rfl,rfl,rfl⟩
noncomputable instance(a b:Lk):Decidable (a=b):=Classical.propDecidable _
theorem csame1_s(a b:Lk)(hl:a.ds.length<=1000000/\a.xs.length<=1000000/\a.rs.length<=1000000):PS cfg G 97 [lkG a,lkG b] (.bool (decide (a=b))):=by
 by_cases h1:a.hdr=b.hdr
 ·by_cases h2:a.root=b.root
  ·by_cases h3:a.ds=b.ds
   ·by_cases h4:a.xs=b.xs
    ·skip
     exact gI 13 Y (λR k0=>qXq (w':=.bool true) rfl (ysq Y Y Y Y (eq_hd a.hdr b.hdr)) Qv (zAq 5 Y (gT 0 Y (eqI_iff.2 (h2)) (gC 8 Y (zOq (w':=.bool true) (seqd_s a.ds b.ds false false Xd) (by rw[decide_eq_true (h3)])) (gC 8 Y (zOq (w':=.bool true) (seqx_s a.xs b.xs false false Xd) (by rw[decide_eq_true (h4)])) (gC 6 Y (seqr_s a.rs b.rs false false Xd) (gQ 5 Y (dec_c ⟨λq=>lk_eq.1 ⟨h1,h2,h3,h4,q⟩,λq=>(lk_eq.2 q).2.2.2.2⟩))))))))
    ·skip
     exact gI 13 Y (λR k0=>qXq (w':=.bool true) rfl (ysq Y Y Y Y (eq_hd a.hdr b.hdr)) Qv (zAq 5 Y (gT 0 Y (eqI_iff.2 (h2)) (gC 8 Y (zOq (w':=.bool true) (seqd_s a.ds b.ds false false Xd) (by rw[decide_eq_true (h3)])) (gC 8 Y (zOq (w':=.bool false) (seqx_s a.xs b.xs false false Xd) (by rw[decide_eq_false (h4)])) (gQ 12 Y (z9q λq=>h4 Yy)))))))
   ·skip
    exact gI 13 Y (λR k0=>qXq (w':=.bool true) rfl (ysq Y Y Y Y (eq_hd a.hdr b.hdr)) Qv (zAq 5 Y (gT 0 Y (eqI_iff.2 (h2)) (gC 8 Y (zOq (w':=.bool false) (seqd_s a.ds b.ds false false Xd) (by rw[decide_eq_false (h3)])) (gQ 21 Y (z9q λq=>h3 Yy))))))
  ·skip
   exact gI 13 Y (λR k0=>qXq (w':=.bool true) rfl (ysq Y Y Y Y (eq_hd a.hdr b.hdr)) Qv (zAq 5 Y (gF 0 Y (eqI_not.2 (h2)) (gQ 30 Y (z9q λq=>h2 Yy)))))
 ·skip
  exact gI 13 Y (λR k0=>qXq (w':=.bool false) rfl (ysq Y Y Y Y (eq_hd a.hdr b.hdr)) (by rw[decide_eq_false h1]) (zAq 36 Y (gQ 0 Y (z9q λq=>h1 Yy))))
theorem seql_s(a b:List Lk)(f g:Bool)(hb:a.length<=1000000000)(hl:∀x∈a,x.ds.length<=1000000/\x.xs.length<=1000000/\x.rs.length<=1000000):PS cfg G 96 [.fz (a.map lkG) 102 f,.fz (b.map lkG) 102 g,.fn 97 [] []] (.bool (decide (a=b))):=by
 have ea:(a.map lkG).length=a.length:=List.length_map _;have eb:(b.map lkG).length=b.length:=List.length_map _;refine gI 9 Y (λR k0=>gZ 0 Y ea (gZ 1 Y eb ?_));refine gS 3 Y (λh1=>?_) (λh1=>?_)
 ·exact gQ 7 Y Yh
 ·refine gZ 6 Y ea ?_;refine gLo (α:=Nat) 4 (λi=>i<=a.length/\a.take i=b.take i) (λi=>[(17,.int .i64 (i:Int))]) [1,2,6,15,16] (λi=>a.length-i) (0) rfl (⟨Nat.zero_le _,rfl⟩) (λi hI=>?_);obtain⟨g1,g2⟩:=hI;refine gS 6 Y (λh2=>?_) (λh2=>?_)
  ·obtain⟨x,hx⟩:∃x,a[i]? =some x:=⟨_,List.getElem?_eq_getElem Xd⟩
   obtain⟨y,hy⟩:∃y,b[i]? =some y:=⟨_,List.getElem?_eq_getElem Xd⟩
   refine gP 7 Y (zrq (i:=i) Y Y Y Y Y Y Y (zoq lkG hx)) (gP 10 Y (zrq (i:=i) Y Y Y Y Y Y Y (zoq lkG hy)) (gC 10 Y (csame1_s x y (hl x (List.mem_of_getElem? hx))) ?_));refine gS 3 Y (λh3=>?_) (λh3=>?_)
   ·exact gO 8 Y (gQ 2 Y (by rw[decide_eq_false (Znq hx hy (by simpa using h3))]))
   ·exact gA 4 Y (i+1) (gAg 2 Y (i+1) (⟨by omega,qyq g2 hx hy (by simpa using h3)⟩) Xd)
  ·exact gO 2 Y (gQ 8 Y Yk)
theorem csame_s(a b:Ch)(ha:SmallC a)(hv:∀x∈a.tree.nodes,x.val.length<=1000000000):PS cfg G 23 [chG a,chG b] (.bool (decide (a=b))):=by
 have h1:=ha.nodes;have h2:=ha.len;by_cases h:a.tree=b.tree
 ·skip
  exact gI 13 Y (λR k0=>gC 0 Y (zOq (w':=.bool true) (tsame_s a.tree b.tree Xd hv) (by rw[decide_eq_true (h)])) (gC 5 Y (seql_s a.links b.links false false Xd ha.link) (gQ 5 Y (dec_c ⟨λq=>by cases a;cases b;simp only at h q;rw[h,q],λq=>by rw[q]⟩))))
 ·skip
  exact gI 13 Y (λR k0=>gC 0 Y (zOq (w':=.bool false) (tsame_s a.tree b.tree Xd hv) (by rw[decide_eq_false (h)])) (gQ 11 Y (z9q λq=>h Yy)))
end
section
attribute [local irreducible] CoW OpW FlW Step Spec
theorem Zgq(t0:T)(k:Dig):∃a b c d e,q3q t0 k= .agg 67 [a,b,c,d,e]:=by
 unfold q3q;split
 ·split<;>exact⟨_,_,_,_,_,rfl⟩
 ·exact⟨_,_,_,_,_,rfl⟩
@[simp] theorem Ynq(t0:T)(k:Dig):purW (q3q t0 k)=true:=by
 unfold q3q prG;split
 ·split<;>simp[purW,purL]
 ·simp[purW,purL]
noncomputable def prZ:W:=prG yjq 0 yjq (bW []) (.fz [] 32 false)
theorem xCq{blk:Nat->Option W}:View blk (.agg 67 [.arr 32 1 (List.replicate 32 (.int .u8 (.ofNat 0))),.int .u8 0,.arr 32 1 (List.replicate 32 (.int .u8 (.ofNat 0))),.nils,.nils]) prZ:=.agg (.cons z4q (.cons (.pur rfl) (.cons z4q (.cons .nilfz (.cons .nilfz .nil)))))
def TolV(v:Vw)(win h:Int):Prop:=0<=h/\h<(v.ch.links.length:Int)/\(v.ch.links.length:Int) -1-h<win
noncomputable instance(v:Vw)(win h:Int):Decidable (TolV v win h):=Classical.propDecidable _
theorem vproof_no(v:Vw)(hc:OkC v.ch)(hm:¬MayV v)(win h:Int)(k:Dig):PS cfg glK 54 [vwG v,.int .i64 win,.int .i64 h,dW k] (.tup [dW yjq,prZ,.int .i64 8]):=by
 exact gIv 13 Y (λR k0=>gC 0 Y (zOq (w':=.int .i64 8) (qEq v hc) Qq) (gTa 6 Y (zeq 15 Y (y0q Qx rfl (.tup (.cons z4q (.cons xCq (.cons (.pur rfl) .nil))))))))
theorem vproof_gone(v:Vw)(hc:OkC v.ch)(hm:MayV v)(win h:Int)(k:Dig)(hg:¬TolV v win h):PS cfg glK 54 [vwG v,.int .i64 win,.int .i64 h,dW k] (.tup [dW yjq,prZ,.int .i64 180]):=by
 have e:(v.ch.links.map lkG).length=v.ch.links.length:=List.length_map _;have hl:=hc.len;have h1:=hm.1.one;by_cases ha:h<0
 ·skip
  exact gIv 13 Y (λR k0=>gC 0 Y (zOq (w':=.int .i64 0) (qEq v hc) Yw) (gFa 6 Y (gZ 10 Y e (gA 0 Y (v.ch.links.length-1) (gT 7 Y (ltI_iff.2 (ha)) (zeq 26 Y (y0q Qx rfl (.tup (.cons z4q (.cons xCq (.cons (.pur rfl) .nil)))))))))))
 ·by_cases hb:(v.ch.links.length:Int)<=h
  ·skip
   exact gIv 13 Y (λR k0=>gC 0 Y (zOq (w':=.int .i64 0) (qEq v hc) Yw) (gFa 6 Y (gZ 10 Y e (gA 0 Y (v.ch.links.length-1) (gF 7 Y (ltI_not.2 (ha)) (gT 3 Y (ltI_iff.2 Xd) (zeq 22 Y (y0q Qx rfl (.tup (.cons z4q (.cons xCq (.cons (.pur rfl) .nil))))))))))))
  ·have hw:¬((v.ch.links.length:Int) -1-h<win):=λq=>hg ⟨by omega,by omega,q⟩
   obtain⟨i,rfl⟩:=Int.eq_ofNat_of_zero_le (show 0<=h by omega);exact gIv 13 Y (λR k0=>gC 0 Y (zOq (w':=.int .i64 0) (qEq v hc) Yw) (gFa 6 Y (gZ 10 Y e (gA 0 Y (v.ch.links.length-1) (gF 7 Y (ltI_not.2 (ha)) (gF 3 Y (ltI_not.2 Xd) (gA 4 Y (v.ch.links.length-1-i) (gT 1 Y (congrArg not (ltI_not.2 Xd)) (zeq 15 Y (y0q Qx rfl (.tup (.cons z4q (.cons xCq (.cons (.pur rfl) .nil))))))))))))))
theorem vproof_s(v:Vw)(hc:OkC v.ch)(hs:SmallC v.ch)(hm:MayV v)(win:Int)(i:Nat)(k:Dig)(hg:TolV v win (i:Int)){x:Lk}(hx:v.ch.links[i]? =some x)(n:Nat)(t0:T)(hA:IsT (verT v.ch x.root) n t0):PS cfg glK 54 [vwG v,.int .i64 win,.int .i64 (i:Int),dW k] (.tup [dW x.hdr.state,q3q t0 k,.int .i64 0]):=by
 have e:(v.ch.links.map lkG).length=v.ch.links.length:=List.length_map _;have hl:=hc.len;have h1:=hm.1.one;obtain⟨g1,g2,g3⟩:=hg;have hpp:=Ynq t0 k;have hM:=pmake_s (verT v.ch x.root) n t0 hA k;obtain⟨a,b,c,d,f,hp⟩:=Zgq t0 k;rw[hp] at hpp hM;rw[hp];refine gIv 13 Y (λR k0=>gC 0 Y (zOq (w':=.int .i64 0) (qEq v hc) Yw) (gFa 6 Y (gZ 10 Y e (gA 0 Y (v.ch.links.length-1) (gF 7 Y (ltI_not.2 Xd) (gF 3 Y (ltI_not.2 Xd) (gA 4 Y (v.ch.links.length-1-i) (gF 1 Y (congrArg not (ltI_iff.2 Xd)) (gC 11 Y (cstate_s v.ch hc hs i hm.1 hx) (zeq 12 Y ?_))))))))));refine op_pq hM ?_ (hw:=by show(purW (.agg 67 [a,b,c,d,f])&&true)=true;rw[hpp];rfl);exact zAq 13 Y (gP 0 Y (zrq (i:=i) Y Y Y Y Y Y Y (zoq lkG hx)) (zeq 11 Y (y0q Qx rfl (.tup (.cons (.pur Xj) (.cons (.pur hpp) (.cons (.pur rfl) .nil)))))))
theorem rtold_s(v:Vw)(hl:v.ch.links.length<=4611686018427387903)(win h:Int):PS cfg glK 129 [vwG v,.int .i64 win,.int .i64 h] (.bool (decide (TolV v win h))):=by
 by_cases h0:0<=h
 ·by_cases h1:h<(v.ch.links.length:Int)
  ·skip
   refine gI 9 Y (λR k0=>gT 0 Y (congrArg not (ltI_not.2 Xd)) (gC 3 Y (qFq v hl) (gT 0 Y (congrArg not (ltI_not.2 Xd)) (gC 3 Y (qFq v hl) (zeq 1 Y (op_z ((v.ch.links.length:Int) -1-h) Y Y Y Qw ?_))))));refine zcq Y Y (op_cz Y Y ?_);exact zAq 5 Y (gQ 0 Y (congrArg W.bool (decide_eq_decide.2 ⟨λq=>⟨h0,h1,q⟩,λq=>q.2.2⟩)))
  ·skip
   exact gI 9 Y (λR k0=>gT 0 Y (congrArg not (ltI_not.2 Xd)) (gC 3 Y (qFq v hl) (gF 0 Y (congrArg not (ltI_iff.2 Xd)) (gQ 13 Y (z9q λq=>h1 q.2.1)))))
 ·skip
  exact gI 9 Y (λR k0=>gF 0 Y (congrArg not (ltI_iff.2 Xd)) (gQ 18 Y (z9q λq=>h0 q.1)))
theorem rvproof_no(v:Vw)(hc:OkC v.ch)(hm:¬MayV v)(win h:Int)(k:Dig):PS cfg glK 55 [vwG v,.int .i64 win,.int .i64 h,dW k] (.tup [dW yjq,prZ,.int .i64 8]):=by
 exact gIv 13 Y (λR k0=>gC 0 Y (zOq (w':=.bool false) (jnq v hc) Yx) (gV 6 Y jMq (zeq 8 Y (y0q Qx rfl (.tup (.cons (.pur Xj) (.cons xCq (.cons (.pur rfl) .nil))))))))
theorem rvproof_gone(v:Vw)(hc:OkC v.ch)(hm:MayV v)(win h:Int)(k:Dig)(hg:¬TolV v win h):PS cfg glK 55 [vwG v,.int .i64 win,.int .i64 h,dW k] (.tup [dW yjq,prZ,.int .i64 180]):=by
 exact gIv 13 Y (λR k0=>gC 0 Y (zOq (w':=.bool true) (jnq v hc) Yr) (gC 12 Y (zOq (w':=.bool false) (rtold_s v hc.len win h) (by rw[decide_eq_false (hg)])) (gV 6 Y jMq (zeq 8 Y (y0q Qx rfl (.tup (.cons (.pur Xj) (.cons xCq (.cons (.pur rfl) .nil)))))))))
theorem rvproof_s(v:Vw)(hc:OkC v.ch)(hm:MayV v)(win:Int)(i:Nat)(k:Dig)(hg:TolV v win (i:Int)){x:Lk}(hx:v.ch.links[i]? =some x)(n:Nat)(t0:T)(hA:IsT (verT v.ch x.root) n t0):PS cfg glK 55 [vwG v,.int .i64 win,.int .i64 (i:Int),dW k] (.tup [dW x.hdr.state,q3q t0 k,.int .i64 0]):=by
 have hpp:=Ynq t0 k;have hM:=rpof_s (verT v.ch x.root) n t0 hA k;obtain⟨a,b,c,d,f,hp⟩:=Zgq t0 k;rw[hp] at hpp hM;rw[hp];exact gIv 13 Y (λR k0=>gC 0 Y (zOq (w':=.bool true) (jnq v hc) Yr) (gC 12 Y (zOq (w':=.bool true) (rtold_s v hc.len win (i:Int)) (by rw[decide_eq_true (hg)])) (gP 12 Y (zrq (i:=i) Y Y Y Y Y Y Y (zoq lkG hx)) (gC 6 Y (Y4q v.ch i x hx) (gC 1 Y (hM) (zeq 6 Y (y0q Qx rfl (.tup (.cons (.pur Xj) (.cons (.pur hpp) (.cons (.pur rfl) .nil)))))))))))
theorem vhead_no(v:Vw)(hc:OkC v.ch)(hm:¬MayV v):PS cfg glK 56 [vwG v] (.tup [.int .i64 0,dW yjq,.int .i64 8]):=by
 exact gIv 12 Y (λR k0=>gC 0 Y (zOq (w':=.int .i64 8) (qEq v hc) Qq) (gTa 6 Y (zeq 14 Y (y0q Qx rfl (.tup (.cons (.pur rfl) (.cons z4q (.cons (.pur rfl) .nil))))))))
theorem vhead2_s(v:Vw)(hc:OkC v.ch)(hm:MayV v){y:Lk}(hy:v.ch.links[v.ch.links.length-1]? =some y):PS cfg glK 56 [vwG v] (.tup [.int .i64 y.hdr.height,dW (hashD y.hdr),.int .i64 0]):=by
 obtain⟨y2,hy2,_,hl⟩:=hm.1.last;obtain rfl:=Option.some.inj (hy.symm.trans hy2);exact gI 12 Y (λR k0=>gC 0 Y (zOq (w':=.int .i64 0) (qEq v hc) Yw) (gFa 6 Y (gC 9 Y (chead_s v.ch hc hm.1 hy) (gC 11 Y (hhash_s y.hdr hl.hdr) (gQa 19 Y)))))
theorem rvhead_no(v:Vw)(hc:OkC v.ch)(hm:¬MayV v):PS cfg glK 57 [vwG v] (.tup [.int .i64 0,dW yjq,.int .i64 8]):=by
 exact gIv 12 Y (λR k0=>gC 0 Y (zOq (w':=.bool false) (jnq v hc) Yx) (gV 6 Y jMq (zeq 7 Y (y0q Qx rfl (.tup (.cons (.pur rfl) (.cons (.pur Xj) (.cons (.pur rfl) .nil))))))))
theorem rvhead_s(v:Vw)(hc:OkC v.ch)(hm:MayV v){y:Lk}(hy:v.ch.links[v.ch.links.length-1]? =some y):PS cfg glK 57 [vwG v] (.tup [.int .i64 y.hdr.height,dW (hashD y.hdr),.int .i64 0]):=by
 obtain⟨y2,hy2,_,hl⟩:=hm.1.last;obtain rfl:=Option.some.inj (hy.symm.trans hy2);have h1:=hm.1.one;have hh:=hl.height;refine gI 12 Y (λR k0=>gC 0 Y (zOq (w':=.bool true) (jnq v hc) Yr) ?_);first|refine gC 9 Y (zOq (w':=.int .i64 ((v.ch.links.length-1:Nat):Int)) (qFq v hc.len) Qr) ?_|refine gC 9 Y (qFq v hl) ?_
 first|refine gC 4 Y (zOq (w':=.int .i64 ((v.ch.links.length-1:Nat):Int)) (qFq v hc.len) Qr) ?_|refine gC 4 Y (qFq v hl) ?_
 exact gP 0 Y (zrq (i:=v.ch.links.length-1) Y Y Y Y Y Y Y (zoq lkG hy)) (gC 2 Y (rhname_s y.hdr hl.hdr) (gQ 6 Y (by rw[hh])))
noncomputable instance:DecidableEq Vw:=λa b=>Classical.propDecidable _
theorem vw_eq{a1 b1:Int}{a2 b2:Bool}{a3 b3:Int}{a4 b4:Ch}(h1:a1=b1)(h2:a2=b2)(h3:a3=b3):((⟨a1,a2,a3,a4⟩:Vw)=⟨b1,b2,b3,b4⟩)↔a4=b4:=⟨λq=>by injection q,λq=>by rw[h1,h2,h3,q]⟩
theorem vsame_s(a b:Vw)(ha:SmallC a.ch)(hv:∀x∈a.ch.tree.nodes,x.val.length<=1000000000):PS cfg glK 61 [vwG a,vwG b] (.bool (decide (a=b))):=by
 have hs:=csame_s (G:=glK) a.ch b.ch ha hv;obtain⟨a1,a2,a3,a4⟩:=a;obtain⟨b1,b2,b3,b4⟩:=b;refine gI 13 Y (λR k0=>?_);refine gD 0 Y (λh1=>?_) (λh1=>?_)
 ·refine gD 5 Y (λh2=>?_) (λh2=>?_)
  ·refine gD 6 Y (λh3=>?_) (λh3=>?_)
   ·refine gC 6 Y (hs) ?_;first|exact gQ 5 Y (congrArg W.bool (decide_eq_decide.2 (vw_eq h1 h2 h3).symm))|exact gQ 5 Y (z9q λq=>h3 (congrArg Vw.final q))|exact gQ 5 Y (z9q λq=>h2 (congrArg Vw.down q))|exact gQ 5 Y (z9q λq=>h1 (congrArg Vw.number q))
   ·first|exact gQ 12 Y (congrArg W.bool (decide_eq_decide.2 (vw_eq h1 h2 h3).symm))|exact gQ 12 Y (z9q λq=>h3 (congrArg Vw.final q))|exact gQ 12 Y (z9q λq=>h2 (congrArg Vw.down q))|exact gQ 12 Y (z9q λq=>h1 (congrArg Vw.number q))
  ·first|exact gQ 19 Y (congrArg W.bool (decide_eq_decide.2 (vw_eq h1 h2 h3).symm))|exact gQ 19 Y (z9q λq=>h3 (congrArg Vw.final q))|exact gQ 19 Y (z9q λq=>h2 (congrArg Vw.down q))|exact gQ 19 Y (z9q λq=>h1 (congrArg Vw.number q))
 ·first|exact gQ 25 Y (congrArg W.bool (decide_eq_decide.2 (vw_eq h1 h2 h3).symm))|exact gQ 25 Y (z9q λq=>h3 (congrArg Vw.final q))|exact gQ 25 Y (z9q λq=>h2 (congrArg Vw.down q))|exact gQ 25 Y (z9q λq=>h1 (congrArg Vw.number q))
theorem YXq(a b:Vw)(ha:SmallC a.ch)(hb:SmallC b.ch):PS cfg glK 45 [vwG a,vwG b] (.bool (decide (a=b))):=by
 have hs:=rcsame_s (G:=glK) a.ch b.ch ha hb;obtain⟨a1,a2,a3,a4⟩:=a;obtain⟨b1,b2,b3,b4⟩:=b;refine gI 13 Y (λR k0=>?_);refine gD 0 Y (λh1=>?_) (λh1=>?_)
 ·refine gD 5 Y (λh2=>?_) (λh2=>?_)
  ·refine gD 6 Y (λh3=>?_) (λh3=>?_)
   ·refine gC 6 Y (hs) ?_;first|exact gQ 5 Y (congrArg W.bool (decide_eq_decide.2 (vw_eq h1 h2 h3).symm))|exact gQ 5 Y (z9q λq=>h3 (congrArg Vw.final q))|exact gQ 5 Y (z9q λq=>h2 (congrArg Vw.down q))|exact gQ 5 Y (z9q λq=>h1 (congrArg Vw.number q))
   ·first|exact gQ 12 Y (congrArg W.bool (decide_eq_decide.2 (vw_eq h1 h2 h3).symm))|exact gQ 12 Y (z9q λq=>h3 (congrArg Vw.final q))|exact gQ 12 Y (z9q λq=>h2 (congrArg Vw.down q))|exact gQ 12 Y (z9q λq=>h1 (congrArg Vw.number q))
  ·first|exact gQ 19 Y (congrArg W.bool (decide_eq_decide.2 (vw_eq h1 h2 h3).symm))|exact gQ 19 Y (z9q λq=>h3 (congrArg Vw.final q))|exact gQ 19 Y (z9q λq=>h2 (congrArg Vw.down q))|exact gQ 19 Y (z9q λq=>h1 (congrArg Vw.number q))
 ·first|exact gQ 25 Y (congrArg W.bool (decide_eq_decide.2 (vw_eq h1 h2 h3).symm))|exact gQ 25 Y (z9q λq=>h3 (congrArg Vw.final q))|exact gQ 25 Y (z9q λq=>h2 (congrArg Vw.down q))|exact gQ 25 Y (z9q λq=>h1 (congrArg Vw.number q))
end
section
attribute [local irreducible] CoW OpW FlW Step Spec
attribute [local simp] xzq
variable {G:Nat->Option W}
theorem ctwin2_s(c:Ch)(hs:SmallC c):PS cfg G 24 [chG c] (chG c):=by
 exact gI 10 Y (λR k0=>gC 0 Y (twinp_s c.tree hs.vl hs.vals) (gC 2 Y (((ctrn_s c.links false hs.len hs.link).ps Xn (xUq _))) (gQa 5 Y)))
attribute [local simp] PW.pur
noncomputable def trW(A:PW)(r:Int):W:=.agg 2 [A.w,.int .i64 r]
noncomputable def kcW(A B:PW)(r:Int):W:=.agg 3 [trW A r,B.w]
@[simp] theorem trW_pur(A:PW)(r:Int):purW (trW A r)=true:=by simp[trW,purW,purL]
@[simp] theorem kcW_pur(A B:PW)(r:Int):purW (kcW A B r)=true:=by simp[kcW,trW,purW,purL]
theorem beq_two(b:Bool):(b==b)=true:=by cases b<;>rfl
end
section
attribute [local irreducible] CoW OpW FlW Step Spec
theorem rsdig_s(ds:List Dig)(f g:Bool)(hl:ds.length<=1000000):PS cfg glK 133 [.fz (ds.map dW) 32 f,.fz (ds.map dW) 32 g] (.bool true):=by
 have e:(ds.map dW).length=ds.length:=List.length_map _;refine gI 9 Y (λR k0=>gZ 0 Y e (gZ 1 Y e (gF 0 Y (congrArg not (eqI_iff.2 (rfl))) ?_)));refine gLo (α:=Nat) 12 (λi=>i<=ds.length) (λi=>[(5,.int .i64 (i:Int))]) [0,1,4] (λi=>ds.length-i) (0) rfl (Nat.zero_le _) (λi hI=>?_);refine gZ 5 Y e ?_;refine gS 3 Y (λh1=>?_) (λh1=>?_)
 ·obtain⟨d,hd⟩:∃d,ds[i]? =some d:=⟨_,List.getElem?_eq_getElem Xd⟩
  refine gP 8 Y (zrq (i:=i) Y Y Y Y Y Y Y (zoq dW hd)) (gP 3 Y (zrq (i:=i) Y Y Y Y Y Y Y (zoq dW hd)) (gUe 1 Y (q1q Y Y Y Y (yBq Y Y Y Y Y Y _ _ 250)) (y9q z8q) ?_));refine gS 2 Y (λh2=>?_) (λh2=>?_)
  ·exfalso;exact(by assumption:¬d=d) rfl
  ·exact gA 5 Y (i+1) (gAg 2 Y (i+1) Xd Xd)
 ·exact gO 2 Y (gQa 8 Y)
theorem rpsm_s(k:Dig)(e:Int)(o:Dig)(l:List UInt8)(ds:List Dig)(hl:ds.length<=1000000):PS cfg glK 58 [prG k e o (bW l) (.fz (ds.map dW) 32 false),prG k e o (bW l) (.fz (ds.map dW) 32 false)] (.bool true):=by
 exact gI 13 Y (λR k0=>qXq (w':=.bool true) rfl (ysq Y Y Y Y (yBq Y Y Y Y Y Y k k 250)) Yv (zAq 5 Y (gT 0 Y (eqI_iff.2 (rfl)) (zeq 6 Y (qXq (w':=.bool true) rfl (ysq Y Y Y Y (yBq Y Y Y Y Y Y o o 250)) Yv (zAq 6 Y (gC 0 Y (zOq (w':=.bool true) (same_s l l false false) (by rw[decide_eq_true (rfl)])) (gC 6 Y (rsdig_s ds false false hl) (gQa 5 Y)))))))))
theorem road_le:∀(t:T) (d:Nat) (k:Dig) (b:Dig),t.ok d b=true->(t.road d k).length<=256
 |.nil,_,_,_,_=>Nat.zero_le _
 |.leaf _ _,_,_,_,_=>Nat.zero_le _
 |.fork l r,d,k,b,h=>by
  have key:∀(t:T) (d:Nat) (b:Dig),t.ok d b=true->d<=256->(t.road d k).length+d<=256:=by
   intro t;induction t with
   |nil=>intro d b _ hd;simpa[T.road] using hd
   |leaf=>intro d b _ hd;simpa[T.road] using hd
   |fork l r il ir=>
    intro d b h hd;obtain⟨hd,h1,h2,_⟩:=ok_fork.1 h;unfold T.road;split
    ·have:=il (d+1) _ h1 hd;simp only[List.length_cons];omega
    ·have:=ir (d+1) _ h2 hd;simp only[List.length_cons];omega
  obtain⟨hd,_⟩:=ok_fork.1 h;have:=key (.fork l r) d b h Xd;omega
structure PrV where
 (k:Dig) (e:Int) (o:Dig) (l:List UInt8) (ds:List Dig)
 hl:ds.length<=1000000
noncomputable def PrV.w(p:PrV):W:=prG p.k p.e p.o (bW p.l) (.fz (p.ds.map dW) 32 false)
@[simp] theorem PrV.pur(p:PrV):purW p.w=true:=by simp[PrV.w,prG,purW,purL]
theorem PrV.same(p:PrV):PS cfg glK 58 [p.w,p.w] (.bool true):=rpsm_s p.k p.e p.o p.l p.ds p.hl
noncomputable def prZV:PrV:=⟨yjq,0,yjq,[],[],Nat.zero_le _⟩
theorem prZ_v:prZ=prZV.w:=rfl
theorem proof_v{t:Tree}{n:Nat}{t0:T}(h:IsT t n t0)(k:Dig):∃p:PrV,q3q t0 k=p.w:=by
 have hr:=road_le t0 0 k _ h.ok;have es:sdsW t0 k= .fz (((t0.road 0 k).map sumD).map dW) 32 false:=by unfold sdsW;rw[List.map_map];rfl
 have hl:((t0.road 0 k).map sumD).length<=1000000:=by rw[List.length_map];omega
 unfold q3q;rw[es];split
 ·split
  ·exact⟨⟨k,1,yjq,_,_,hl⟩,rfl⟩
  ·exact⟨⟨k,2,_,_,_,hl⟩,rfl⟩
 ·exact⟨⟨k,0,yjq,[],_,hl⟩,rfl⟩
theorem vacc_no(v:Vw)(hc:OkC v.ch)(hm:¬MayV v)(k:Dig):PS cfg glK 50 [vwG v,dW k] (.tup [aW ⟨0,0⟩,.int .i64 8]):=by
 exact gI 12 Y (λR k0=>gC 0 Y (zOq (w':=.int .i64 8) (qEq v hc) Qq) (gTa 6 Y (gQa 13 Y)))
theorem vacc_s(v:Vw)(hc:OkC v.ch)(hm:MayV v)(k:Dig){y:Lk}(hy:v.ch.links[v.ch.links.length-1]? =some y){n:Nat}{t0:T}(hA:IsA v.ch.tree n t0):PS cfg glK 50 [vwG v,dW k] (.tup [aW (uQq t0 k),.int .i64 0]):=by
 exact gI 12 Y (λR k0=>gC 0 Y (zOq (w':=.int .i64 0) (qEq v hc) Yw) (gFa 6 Y (gC 11 Y (aget_s v.ch.tree n t0 hA k) (gQa 7 Y))))
theorem vtwin2_s(v:Vw)(hs:SmallC v.ch):PS cfg glK 62 [vwG v] (vwG v):=by
 exact gI 10 Y (λR k0=>gC 0 Y (ctwin2_s v.ch hs) (gQa 11 Y))
theorem vreads_g(v o:Vw)(hc:OkC v.ch)(ho:OkC o.ch)(win h:Int)(k:Dig)(hg:jUq v.ch 5\/jUq o.ch 5):PS cfg glK 7 [vwG v,vwG o,.int .i64 win,.int .i64 h,dW k] (.bool true):=by
 by_cases g1:jUq v.ch 5
 ·skip
  exact gI 12 Y (λR k0=>gC 0 Y (zOq (w':=.bool true) (uyq v 5 hc.nodes hc.len) (by rw[decide_eq_true (g1)])) (gQa 14 Y))
 ·have g2:=hg.resolve_left g1;exact gI 12 Y (λR k0=>gC 0 Y (zOq (w':=.bool false) (uyq v 5 hc.nodes hc.len) (by rw[decide_eq_false (g1)])) (gC 2 Y (zOq (w':=.bool true) (uyq o 5 ho.nodes ho.len) (by rw[decide_eq_true (g2)])) (gQa 11 Y)))
theorem YOq(v o:Vw)(hc:OkC v.ch)(ho:OkC o.ch)(win h:Int)(k:Dig)(g1:¬jUq v.ch 5)(g2:¬jUq o.ch 5)(sc:SmallC v.ch)(so:SmallC o.ch)(hv:∀x∈v.ch.tree.nodes,x.val.length<=1000000000)
  (a:Acct) (e:Int) (i:Int) (r:RcI) (g:Int) (d:Dig) (p:PrV) (m:Int) (x:Int) (c:Dig) (t:Int)
  (p1:PS cfg glK 50 [vwG v,dW k] (.tup [aW a,.int .i64 e])) (q1:PS cfg glK 51 [vwG v,dW k] (.tup [aW a,.int .i64 e]))
  (p2:PS cfg glK 52 [vwG v,dW k] (.tup [.int .i64 i,rcW r,.int .i64 g])) (q2:PS cfg glK 53 [vwG v,dW k] (.tup [.int .i64 i,rcW r,.int .i64 g]))
  (p3:PS cfg glK 54 [vwG v,.int .i64 win,.int .i64 h,dW k] (.tup [dW d,p.w,.int .i64 m])) (q3:PS cfg glK 55 [vwG v,.int .i64 win,.int .i64 h,dW k] (.tup [dW d,p.w,.int .i64 m]))
  (p4:PS cfg glK 56 [vwG v] (.tup [.int .i64 x,dW c,.int .i64 t])) (q4:PS cfg glK 57 [vwG v] (.tup [.int .i64 x,dW c,.int .i64 t])):
  PS cfg glK 7 [vwG v,vwG o,.int .i64 win,.int .i64 h,dW k] (.bool true):=by
 have hp:=p.same;exact gI 12 Y (λR k0=>gC 0 Y (zOq (w':=.bool false) (uyq v 5 hc.nodes hc.len) (by rw[decide_eq_false (g1)])) (gC 2 Y (zOq (w':=.bool false) (uyq o 5 ho.nodes ho.len) (by rw[decide_eq_false (g2)])) (gC 9 Y (rvtwin_s v sc) (gC 8 Y (p1) (gC 12 Y (q1) (gC 12 Y (p2) (gC 14 Y (q2) (gC 16 Y (p3) (gC 17 Y (q3) (gC 14 Y (p4) (gC 13 Y (q4) (zeq 14 Y (qXq (w':=.bool true) rfl (ysq Y Y Y Y (eq_acct a a)) Yv (zAq 3 Y (gT 0 Y (eqI_iff.2 (rfl)) (gT 4 Y (eqI_iff.2 (rfl)) (zeq 4 Y (qXq (w':=.bool true) rfl (ysq Y Y Y Y (eq_rc r r)) Yv (zAq 4 Y (gT 0 Y (eqI_iff.2 (rfl)) (zeq 4 Y (qXq (w':=.bool true) rfl (ysq Y Y Y Y (yBq Y Y Y Y Y Y d d 250)) Yv (zAq 4 Y (gC 0 Y hp (gT 4 Y (eqI_iff.2 (rfl)) (gT 4 Y (eqI_iff.2 (rfl)) (zeq 4 Y (qXq (w':=.bool true) rfl (ysq Y Y Y Y (yBq Y Y Y Y Y Y c c 250)) Yv (zAq 4 Y (gT 0 Y (eqI_iff.2 (rfl)) (gC 7 Y (qEq v hc) (gC 1 Y (rvchk_s v hc) (gT 0 Y (eqI_iff.2 (rfl)) (gC 3 Y (vsame_s v o sc hv) (gC 2 Y (YXq v o sc so) (gT 0 Y (beq_two _) (gC 4 Y (zOq (w':=.bool true) (vsame_s v v sc hv) (by rw[decide_eq_true (rfl)])) (gC 12 Y (vtwin2_s v sc) (gC 1 Y (zOq (w':=.bool true) (YXq v v sc sc) (by rw[decide_eq_true (rfl)])) (gC 4 Y (zOq (w':=.bool true) (YXq v v sc sc) Yv) (gQa 5 Y)))))))))))))))))))))))))))))))))))))))))
theorem vreads18_s(v o:Vw)(hc:OkC v.ch)(ho:OkC o.ch)(win h:Int)(k:Dig):PS cfg glK 7 [vwG v,vwG o,.int .i64 win,.int .i64 h,dW k] (.bool true):=by
 by_cases hg:jUq v.ch 5\/jUq o.ch 5
 ·exact vreads_g v o hc ho win h k hg
 have g1:¬jUq v.ch 5:=λq=>hg (.inl q)
 have g2:¬jUq o.ch 5:=λq=>hg (.inr q)
 have sc:=vvq Xn g1;have so:=vvq Xn g2
 have hv:∀x∈v.ch.tree.nodes,x.val.length<=1000000000:=λx hx=>by
  obtain⟨i,hi⟩:=List.getElem?_of_mem hx;have:=(List.getElem?_eq_some_iff.1 hi).1;have h9:=(greatc_no g1).1;have:x.val.length<=100:=Nat.le_of_not_lt λq=>g1 (.inl (.inr ⟨i,x,by omega,hi,q⟩))
  omega
 by_cases hm:MayV v
 ·obtain⟨y,hy,_,_⟩:=hm.1.last;obtain⟨n,t0,hA,hver⟩:=hm.1.head hy;have hA2:IsT (verT v.ch y.root) n t0:=hver▸hA.toIsT
  have q1:=rvacc_s v hc sc hm k hy n t0 hA2;rw[<-acct_in hA2 k] at q1;have q2:=vrec_s v hc hm k;have q2':=rvrec_s v hc hm k;obtain⟨i,r,g,er⟩:∃i r g,recA (uBq v.ch k)= .tup [.int .i64 i,rcW r,.int .i64 g]:=by cases uBq v.ch k<;>exact⟨_,_,_,rfl⟩
  rw[er] at q2 q2';by_cases hT:TolV v win h
  ·obtain⟨j,rfl⟩:=Int.eq_ofNat_of_zero_le hT.1;obtain⟨x,hx⟩:∃x,v.ch.links[j]? =some x:=⟨_,List.getElem?_eq_getElem (by have:=hT.2.1;omega)⟩
   obtain⟨n2,t2,hB⟩:=(hm.1.link j x hx).tree;have p3:=vproof_s v hc sc hm win j k hT hx n2 t2 hB.toIsT;have q3:=rvproof_s v hc hm win j k hT hx n2 t2 hB.toIsT;obtain⟨p,hp⟩:=proof_v hB.toIsT k;rw[hp] at p3 q3;exact YOq v o hc ho win _ k g1 g2 sc so hv _ _ _ _ _ _ p _ _ _ _ (vacc_s v hc hm k hy hA) q1 q2 q2' p3 q3 (vhead2_s v hc hm hy) (rvhead_s v hc hm hy)
  ·have p3:=vproof_gone v hc hm win h k hT;have q3:=rvproof_gone v hc hm win h k hT;rw[prZ_v] at p3 q3;exact YOq v o hc ho win _ k g1 g2 sc so hv _ _ _ _ _ _ prZV _ _ _ _ (vacc_s v hc hm k hy hA) q1 q2 q2' p3 q3 (vhead2_s v hc hm hy) (rvhead_s v hc hm hy)
 ·have p3:=vproof_no v hc hm win h k;have q3:=rvproof_no v hc hm win h k;rw[prZ_v] at p3 q3;exact YOq v o hc ho win _ k g1 g2 sc so hv _ _ _ _ _ _ prZV _ _ _ _ (vacc_no v hc hm k) (rvacc_no v hc hm k) (vrec_no v hc hm k) (rvrec_no v hc hm k) p3 q3 (vhead_no v hc hm) (rvhead_no v hc hm)
end
mutual
/-- all blocks in it lie below n -/
noncomputable def ltB(n:Nat):V->Bool
 |.ptr b _=>decide (b<n)
 |.sl b _ _ _ _ _=>decide (b<n)
 |.map b=>decide (b<n)
 |.yield b=>decide (b<n)
 |.fn _ a c=>ltL n a&&ltL n c
 |.iface _ v=>ltB n v
 |.agg _ l=>ltL n l
 |.arr _ _ l=>ltL n l
 |.tup l=>ltL n l
 |.undef=>true
 |.bool _=>true
 |.int _ _=>true
 |.str _=>true
 |.nilp=>true
 |.nils=>true
 |.nilm=>true
 |.nilf=>true
 |.nili=>true
noncomputable def ltL(n:Nat):List V->Bool
 |[]=>true
 |v::l=>ltB n v&&ltL n l
end
noncomputable def SeenK(h:Heap):Nat->Prop:=λb=>b<h.next/\∃v,h.val b=some v/\ltB h.next v=true
noncomputable def u32V(n:Nat):V:=.int .u32 (.ofNat n)
noncomputable def eqK:List V->List Nat->Bool
 |[],[]=>true
 |.int .u32 (.ofNat n)::l,m::ms=>match Nat.beq n m with
  |true=>eqK l ms
  |false=>false
 |_,_=>false
theorem eqK_spec:∀{l:List V} {ms:List Nat},eqK l ms=true->l=ms.map u32V
 |[],[],_=>rfl
 |[],_::_,h=>by simp[eqK] at h
 |v::l,ms,h=>by
  unfold eqK at h;split at h
  ·simp_all
  ·rename_i n l' m ms' e;cases e;split at h
   ·rename_i hb;obtain rfl:=Nat.eq_of_beq_eq_true hb;rw[eqK_spec h];rfl
   ·cases h
  ·cases h
noncomputable def globK(h:Heap):Bool:=match h.get 0 with
 |some (.ro (.arr 64 1 l))=>eqK l kW
 |_=>false
theorem RSL_wd(Γ:Ctx):∀l:List Nat,RSL Γ (l.map wd) (l.map u32V)
 |[]=>rfl
 |n::l=>qIq (a:=[u32V n]) (b:=l.map u32V) (x:=wd n) rfl (RSL_wd Γ l)
theorem globK_spec{h:Heap}(hn:Nat.ble 2 h.next=true)(hk:globK h=true):GRel cfg glK ⟨0,λi=>i,SeenK h,h⟩:=by
 intro g w _ h2 nw σ;have hn:=Yb hn;unfold glK at h2;split at h2
 ·cases h2;unfold globK at hk;split at hk
  ·rename_i l hg;obtain rfl:=eqK_spec hk;have hv:h.val 0=some (.arr 64 1 (kW.map u32V)):=by simp only[Heap.val,hg]
   refine RV.of_one ⟨0,0,_,rfl,⟨by omega,_,hv,by rfl⟩,hv,by exact Nat.le_refl _,λ_=>rfl,.inr rfl,?_⟩ Y Y;have e:((zmq (.arr 64 1 (kW.map u32V))).drop 0).take 64=kW.map u32V:=by kernel_rfl
   show RS _ _ (((zmq (.arr 64 1 (kW.map u32V))).drop 0).take 64);rw[e];exact⟨rfl,λx hx=>by obtain⟨n,_,rfl⟩:=List.mem_map.1 hx;rfl,RSL_wd _ kW⟩
  ·cases hk
 ·cases h2
end
end Go.Proofs.YtihcioafclhokaaGreatDoor
